/-
  The law FnTheoryAmbiguous returns true for every code: its walk over the contracts.
-/
import Derived.Test.YtekidodfcanjaaaGreatDoorAmbI
import Derived.Test.YtekidodfcanjaaaGreatDoorGridPl
import Derived.Test.YtekidodfcanjaaaGreatDoorCountI
import Derived.Test.YtekidodfcanjaaaGreatDoorDrawL
import Derived.Test.YtekidodfcanjaaaGreatDoorRText
import Derived.Test.YtekidodfcanjaaaGreatDoorCut
namespace Go.Proofs.YtekidodfcanjaaaGreatDoor
open Go.RowKit
set_option linter.unusedVariables false
set_option linter.unusedSimpArgs false
set_option maxRecDepth 100000

theorem count_some {l : List EntD} {zs : List Int} (h : countB l zs = true) : dictB l = true ∧ countV l zs = ((cntD l zs : Nat) : Int) := by
  unfold countB countV countD at *
  cases hd : dictB l && strokesB zs with
  | false => rw [hd] at h; cases h
  | true =>
    rw [hd] at h
    rw [Bool.and_eq_true] at hd
    refine ⟨hd.1, ?_⟩
    by_cases hc : cntD l zs ≤ 1000000
    · simp [hc]
    · simp [hc] at h
theorem count_none {l : List EntD} {zs : List Int} (h : countB l zs = false) : countV l zs = 0 := by
  unfold countB at h
  unfold countV
  cases hc : countD l zs with
  | none => rfl
  | some n => rw [hc] at h; cases h

set_option maxHeartbeats 16000000 in
theorem law_TheoryAmbiguous (A : Option Addr) (n cap : Nat) (zs : List Int) (W : World) (h : Ints .u8 W A n cap zs) (hm : MaxOk W) :
    Calls Tryz.prog 5 #[.slice A n cap] W fun e W' => e = .returned (.bool true) ∧ Below W.heap.size W W' := by
  have HM := Lib.hid (show ∀ W', Below W.heap.size W W' → MaxOk W' from fun W' hb => hm.below hb)
  clear hm
  by_cases hbig : 65536 < n
  · go_enter Tryz.func5, Tryz.ntmps5
    go_wp2_with fail
    refine (rBigT_calls A n cap _).mono ?_
    rw [show decide (65536 < n) = true by simp [hbig]]
    rintro e w1 ⟨rfl, rfl⟩
    go_wp2
    go_ret
    exact ⟨rfl, Below.refl _ _⟩
  go_enter Tryz.func5, Tryz.ntmps5
  go_wp2_with fail
  refine (rBigT_calls A n cap _).mono ?_
  rw [show decide (65536 < n) = false by simp [hbig]]
  rintro e w0 ⟨rfl, rfl⟩
  go_wp2_with fail
  refine (drawAmbiguousStrokes_calls A n cap zs _ h).mono ?_
  rintro e w1 ⟨v, l, rfl, hd, he, b1⟩
  obtain ⟨Al, cl, rfl, hrd, -, -⟩ := hd.slice
  have HSH := Lib.hid (he.short (by omega))
  have hl41 := he.1
  have hln : l.length ≤ 1048576 := by omega
  have hn6 : n ≤ 65536 := by omega
  have HI := Lib.hid (show ∀ W', Below W.heap.size W W' → Ints .u8 W' A n cap zs from fun W' hb => ⟨(h.1.below hb).more hb.size, h.2⟩)
  obtain ⟨x1, hx1⟩ : ∃ x1, x1 = w1.alloc (.cells #[.slice Al l.length cl] 31) := ⟨_, rfl⟩
  have B1 : Below W.heap.size W x1 := by rw [hx1]; exact b1.alloc b1.size _
  have HRT := Lib.hid (show ∀ W', Below x1.heap.size x1 W' → DictR W' W'.heap.size Al l from fun W' hb => by
    rw [hx1] at hb
    exact ((((hrd.alloc (Nat.le_refl _) _).more (by simp)).below hb).more hb.size))
  have HCT := Lib.hid (show ∀ W', Below x1.heap.size x1 W' → W'.cell? ⟨w1.heap.size, 0, none⟩ = some (.slice Al l.length cl) from fun W' hb => by
    rw [hx1] at hb
    exact ((Box.new w1 31 (.slice Al l.length cl)).far hb).cell)
  have HWT := Lib.hid (show ∀ W', Below x1.heap.size x1 W' → Below W.heap.size W W' from fun W' hb => B1.trans (hb.mono B1.size))
  have hx1s : w1.heap.size < x1.heap.size := by rw [hx1]; simp
  have HP1 := Lib.hid (show ∀ W', Below x1.heap.size x1 W' → w1.heap.size < W'.heap.size from fun W' hb => Nat.lt_of_lt_of_le hx1s hb.size)
  have cT := HCT.out _ (Below.refl _ _)
  obtain ⟨q, hq⟩ : ∃ q, q = dictB l := ⟨_, rfl⟩
  obtain ⟨vb, hvb⟩ : ∃ q, q = ambVB l := ⟨_, rfl⟩
  obtain ⟨R, hR⟩ : ∃ q, q = ambV l := ⟨_, rfl⟩
  obtain ⟨u, hu⟩ : ∃ q, q = uniqB l := ⟨_, rfl⟩
  have hrl := ambV_len l
  rw [← hR] at hrl
  have HQ := Lib.hid hq
  have HVB := Lib.hid hvb
  have HRR := Lib.hid hR
  have HU := Lib.hid hu
  clear h hd he b1 hrd hq hvb hR hu hbig
  go_wp2_with fail
  rw [← hx1]
  clear hx1
  refine (impl_AmbiguousStrokes Al cl l _ (HRT.out _ (Below.refl _ _)) hln HSH.out (HM.out _ B1)).mono ?_
  unfold AmbOut
  rw [← HVB.out, ← HRR.out]
  rintro e w2 ⟨⟨v2, rfl, o2, T2⟩, hres⟩
  have HRES := Lib.hid hres
  have O2 := Lib.hid o2
  clear o2 cT hres
  have cT := HCT.out _ T2
  go_wp2_with fail
  refine (spec_AmbiguousStrokes Al cl l _ (HRT.out _ T2) hln HSH.out).mono ?_
  unfold AmbOut
  rw [← HVB.out, ← HRR.out]
  rintro e w3 ⟨⟨v3, rfl, o3, b3⟩, -⟩
  have O3 := Lib.hid o3
  have O23 := Lib.hid (O2.out.below b3)
  have T3 := T2.trans (b3.mono T2.size)
  clear o3 cT
  have cT := HCT.out _ T3
  go_wp2_with fail
  refine (impl_IsUniquelyReadable Al cl l _ (HRT.out _ T3) hln HSH.out (HM.out _ (HWT.out _ T3))).mono ?_
  rw [← HU.out, ← HQ.out]
  rintro e w4 ⟨rfl, b4, -⟩
  have T4 := T3.trans (b4.mono T3.size)
  obtain ⟨A2, c2, hv2, r2, hc2, hcm2⟩ := (O23.out.below b4).slice
  obtain ⟨A3, c3, hv3, r3, -, -⟩ := (O3.out.below b4).slice
  subst hv2 hv3
  have R2 := Lib.hid r2
  have R3 := Lib.hid r3
  have hvv : (vb != vb) = false := by cases vb <;> rfl
  clear r2 r3 O2 O3 O23 b3 b4 cT
  have cT := HCT.out _ T4
  go_wp2_with fail
  refine (rInts_same A2 A3 c2 c3 R _ hrl R2.out R3.out).mono ?_
  rintro e w5 ⟨rfl, b5⟩
  have T5 := T4.trans (b5.mono T4.size)
  have R5 := Lib.hid ((R2.out.below b5).more b5.size)
  clear R2 R3 b5 cT
  have cT := HCT.out _ T5
  go_wp2_with fail
  refine (impl_IsValidDictionary Al cl l _ (HRT.out _ T5) hln HSH.out (HM.out _ (HWT.out _ T5))).mono ?_
  rw [← HQ.out]
  rintro e w6 ⟨rfl, b6⟩
  have T6 := T5.trans (b6.mono T5.size)
  have R6 := Lib.hid ((R5.out.below b6).more b6.size)
  have hqq : (q != q) = false := by cases q <;> rfl
  have hB6 := HWT.out _ T6
  clear R5 b6 cT T2 T3 T4 T5
  cases q with
  | false =>
    obtain rfl : vb = false := by rw [HVB.out, ambVB, ambV_no HQ.out.symm]; rfl
    clear hvv hqq
    have BE := HWT.out _ T6
    go_wp2_with fail
    refine (rCut_calls A n cap zs 1 _ (HI.out _ BE) hn6 (by omega)).mono ?_
    rintro e y1 ⟨A4, n4, c4, z4, rfl, i4, d1⟩
    have BE1 := BE.trans (d1.mono BE.size)
    clear d1
    go_wp2_with fail
    refine (drawCountReadings_calls A4 n4 c4 z4 _ i4).mono ?_
    rintro e y2 ⟨ve, le, Ae, ce, xe, rfl, hde, hee, hze, hzel, hzec, hcem, d2⟩
    obtain ⟨Ad, cd, rfl, hrde, -, -⟩ := hde.slice
    have hle := hee.1
    have HSE := Lib.hid (hee.short (by omega))
    have hlne : le.length ≤ 1048576 := by omega
    have hzne : xe.length ≤ 1048576 := by omega
    obtain ⟨y3, hy3⟩ : ∃ y3, y3 = y2.alloc (.cells #[.slice Ad le.length cd] 31) := ⟨_, rfl⟩
    have BE2 := BE1.trans (d2.mono BE1.size)
    have dE : Below y2.heap.size y2 y3 := by rw [hy3]; exact (Below.refl _ _).alloc (Nat.le_refl _) _
    have BE3 := BE2.trans (dE.mono BE2.size)
    have HRE := Lib.hid (show ∀ W', Below y3.heap.size y3 W' → DictR W' W'.heap.size Ad le from fun W' hb => by
      rw [hy3] at hb
      exact ((((hrde.alloc (Nat.le_refl _) _).more (by simp)).below hb).more hb.size))
    have HZE := Lib.hid (show ∀ W', Below y3.heap.size y3 W' → Reads W' W'.heap.size 1 Ae xe.length (ints xe) from fun W' hb => by
      rw [hy3] at hb
      exact ((((hze.alloc (Nat.le_refl _) _).more (by simp)).below hb).more hb.size))
    have HCE := Lib.hid (show ∀ W', Below y3.heap.size y3 W' → W'.cell? ⟨y2.heap.size, 0, none⟩ = some (.slice Ad le.length cd) from fun W' hb => by
      rw [hy3] at hb
      exact ((Box.new y2 31 (.slice Ad le.length cd)).far hb).cell)
    have cE := HCE.out _ (Below.refl _ _)
    clear d2 dE i4 hde hee hze hrde
    go_wp2_with fail
    rw [← hy3]
    clear hy3
    refine (impl_IsUniquelyReadable Ad cd le _ (HRE.out _ (Below.refl _ _)) hlne HSE.out (HM.out _ BE3)).mono ?_
    obtain ⟨ue, hue⟩ : ∃ u, u = uniqB le := ⟨_, rfl⟩
    obtain ⟨qe, hqe⟩ : ∃ u, u = dictB le := ⟨_, rfl⟩
    rw [← hue, ← hqe]
    rintro e y4 ⟨rfl, d4, hrese⟩
    have HUE := Lib.hid (show ue = true → ∀ zs, cntD le zs ≤ 1 from fun h zs => uniq_one (by rw [← hqe]; exact hrese) (by rw [← hue]; exact h) zs)
    have cE4 := HCE.out _ d4
    have BE4 := BE3.trans (d4.mono BE3.size)
    clear hue hqe hrese cE
    go_wp2_with fail
    refine (impl_CountReadings Ad Ae cd ce le xe _ (HRE.out _ d4) hlne HSE.out (HM.out _ BE4) (HZE.out _ d4) hzne hzec hcem).mono ?_
    unfold CountRes
    obtain ⟨be, hbe⟩ : ∃ u, u = countB le xe := ⟨_, rfl⟩
    obtain ⟨ne, hne⟩ : ∃ u, u = countV le xe := ⟨_, rfl⟩
    rw [← hbe, ← hne]
    rintro e y5 ⟨rfl, d5⟩
    have BF := BE4.trans (d5.mono BE4.size)
    have HNE := Lib.hid (show be = true → ue = true → ne ≤ 1 from fun h1 h2 => by
      have h3 := (count_some (by rw [← hbe]; exact h1)).2
      have h4 := HUE.out h2 xe
      rw [hne, h3]
      omega)
    clear hbe hne cE4 d4 d5
    cases qe with
    | false =>
      go_wp2
      go_ret
      exact ⟨rfl, BF⟩
    | true =>
      cases ue with
      | false =>
        go_wp2
        go_ret
        exact ⟨rfl, BF⟩
      | true =>
        cases be with
        | false =>
          go_wp2
          go_ret
          exact ⟨rfl, BF⟩
        | true =>
          have n1 := HNE.out rfl rfl
          go_wp2
          go_ret
          exact ⟨rfl, BF⟩
  | true =>
    have HA := Lib.hid (HRES.out HQ.out.symm)
    by_cases h0 : 0 < (ambD l).length
    · obtain rfl : vb = true := by rw [HVB.out, ambVB_yes HQ.out.symm]; exact decide_eq_true h0
      obtain rfl : u = false := by rw [HU.out, uniqB, ← HQ.out, decide_eq_false (by omega)]; rfl
      have HRA := Lib.hid (show R = ambD l by rw [HRR.out, ambV_yes HQ.out.symm])
      have hr0 : 0 < R.length := by rw [HRA.out]; exact h0
      have H0 := Lib.hid h0
      clear hvv hqq h0
      by_cases h60 : R.length ≤ 60
      · have i60 : (R.length : Int) ≤ 60 := by omega
        have cT := HCT.out _ T6
        go_wp2_with fail
        refine (impl_CountReadings Al A2 cl c2 l R _ (HRT.out _ T6) hln HSH.out (HM.out _ hB6) R6.out (by omega) hc2 hcm2).mono ?_
        unfold CountRes
        obtain ⟨b7, hb7⟩ : ∃ u, u = countB l R := ⟨_, rfl⟩
        obtain ⟨n7, hn7⟩ : ∃ u, u = countV l R := ⟨_, rfl⟩
        rw [← hb7, ← hn7]
        rintro e w7 ⟨rfl, d7⟩
        have HN7 := Lib.hid (show b7 = true → ¬ (n7 < 2) from fun h => by
          have h1 := (count_some (by rw [← hb7]; exact h)).2
          have h2 := amb_two HQ.out.symm HA.out H0.out
          rw [hn7, h1, HRA.out]
          omega)
        have T7 := T6.trans (d7.mono T6.size)
        have R7 := Lib.hid ((R6.out.below d7).more d7.size)
        have cT7 := HCT.out _ T7
        clear hb7 hn7 d7 cT T6 hB6 R6
        obtain ⟨zs9, hz9⟩ : ∃ z, z = R.take (R.length - 1) := ⟨_, rfl⟩
        have hzl9 : zs9.length = R.length - 1 := by rw [hz9, List.length_take]; omega
        obtain ⟨b2x, o2x, hA2, hbl2, hcc⟩ := R7.out.2 hr0
        subst hA2
        have cT8 : w7.drew.cell? ⟨w1.heap.size, 0, none⟩ = some (.slice Al l.length cl) := cT7
        have RZ9 : Reads w7.drew w7.drew.heap.size 1 (some ⟨b2x, o2x, none⟩) zs9.length (ints zs9) := ⟨by simp [ints], fun _ => ⟨b2x, o2x, rfl, hbl2, fun j x hj => hcc j x (by
          rw [hz9, show ints (R.take (R.length - 1)) = (ints R).take (R.length - 1) by simp [ints, List.map_take], List.getElem?_take] at hj
          split at hj
          · exact hj
          · cases hj)⟩⟩
        have TD : Below x1.heap.size x1 w7.drew := T7.drew
        have HCR9 := Lib.hid (show Calls Tryz.prog 25 #[.agg #[.slice Al l.length cl], .slice (some ⟨b2x, o2x, none⟩) zs9.length c2] w7.drew fun e w' => e = .returned (.tuple #[.int .i64 (countV l zs9), .bool (countB l zs9)]) ∧ Below w7.drew.heap.size w7.drew w' from
          (impl_CountReadings Al (some ⟨b2x, o2x, none⟩) cl c2 l zs9 _ (HRT.out _ TD) hln HSH.out (HM.out _ (HWT.out _ TD)) RZ9 (by omega) (by omega) hcm2).mono fun e w' h => h)
        obtain ⟨b8, hb8⟩ : ∃ u, u = countB l zs9 := ⟨_, rfl⟩
        obtain ⟨n8, hn8⟩ : ∃ u, u = countV l zs9 := ⟨_, rfl⟩
        have HN8 := Lib.hid (show b8 = true → ¬ (n8 > 1) from fun h => by
          have h1 := (count_some (by rw [← hb8]; exact h)).2
          have h2 := amb_short HQ.out.symm HA.out H0.out (show zs9.length < (ambD l).length by rw [hzl9, HRA.out]; have := H0.out; omega)
          rw [hn8, h1]
          omega)
        rw [← hb8, ← hn8] at HCR9
        have hp1 : w1.heap.size < w7.drew.heap.size := HP1.out w7 T7
        have l0 : (0 : Int) ≤ (R.length : Int) - 1 := by omega
        have l4 : (1 : Int) ≤ (R.length : Int) := by omega
        have l1 : (R.length : Int) - 1 ≤ (c2 : Int) := by omega
        have l2 : IntKind.i64.wrap ((R.length : Int) - 1) = (R.length : Int) - 1 := IntWalk.i64_in _ (by omega)
        have l3 : ((R.length : Int) - 1).toNat = R.length - 1 := by omega
        clear hb8 hn8 RZ9 hcc hz9 cT7
        cases b7 with
        | false =>
          go_wp2
          first | refine wp_region_noPanic ?_ | skip
          refine wp_region_held_drew (S := fun w' => w'.cell? ⟨w1.heap.size, 0, none⟩ = some (.slice Al l.length cl)) (by kernel_rfl) (by exact cT8) (fun hHeld => ?_)
          (refine wpAnyH_take (i := 0) (v := ?_) rfl (by kernel_rfl) (by kernel_rfl) (by kernel_rfl) (fun _ _ _ h => h) (Or.inl ⟨by rfl, ?_⟩) (by assumption) ?_; rotate_left; focus (intro w hSw; (try dsimp only at hSw); go_simp; try with_reducible rfl))
          (try simp only [List.getElem_toArray, List.getElem_cons_succ, List.getElem_cons_zero, Act.put, List.setIfInBounds_toArray, List.set_cons_zero, List.set_cons_succ])
          (refine wpAnyH_take (i := 1) (v := ?_) rfl (by kernel_rfl) (by kernel_rfl) (by kernel_rfl) (fun _ _ _ h => h) (Or.inl ⟨by rfl, ?_⟩) (by assumption) ?_; rotate_left; focus (intro w hSw; (try dsimp only at hSw); go_simp; try with_reducible rfl))
          (try simp only [List.getElem_toArray, List.getElem_cons_succ, List.getElem_cons_zero, Act.put, List.setIfInBounds_toArray, List.set_cons_zero, List.set_cons_succ])
          (refine wpAnyH_take (i := 2) (v := ?_) rfl (by kernel_rfl) (by kernel_rfl) (by kernel_rfl) (fun _ _ _ h => h) (Or.inl ⟨by rfl, ?_⟩) (by assumption) ?_; rotate_left; focus (intro w hSw; (try dsimp only at hSw); go_simp; try with_reducible rfl))
          (try simp only [List.getElem_toArray, List.getElem_cons_succ, List.getElem_cons_zero, Act.put, List.setIfInBounds_toArray, List.set_cons_zero, List.set_cons_succ])
          (refine wpAnyH_take (i := 3) (v := ?_) rfl (by kernel_rfl) (by kernel_rfl) (by kernel_rfl) (fun _ _ _ h => h) (Or.inl ⟨by rfl, ?_⟩) (by assumption) ?_; rotate_left; focus (intro w hSw; (try dsimp only at hSw); go_simp; try with_reducible rfl))
          (try simp only [List.getElem_toArray, List.getElem_cons_succ, List.getElem_cons_zero, Act.put, List.setIfInBounds_toArray, List.set_cons_zero, List.set_cons_succ])
          (refine wpAnyH_take (i := 4) (v := ?_) rfl (by kernel_rfl) (by kernel_rfl) (by kernel_rfl) (fun _ _ _ h => h) (Or.inl ⟨by rfl, ?_⟩) (by assumption) ?_; rotate_left; focus (intro w hSw; (try dsimp only at hSw); go_simp; try with_reducible rfl))
          (try simp only [List.getElem_toArray, List.getElem_cons_succ, List.getElem_cons_zero, Act.put, List.setIfInBounds_toArray, List.set_cons_zero, List.set_cons_succ])
          (refine wpAnyH_take (i := 5) (v := ?_) rfl (by kernel_rfl) (by kernel_rfl) (by kernel_rfl) (fun _ _ _ h => h) (Or.inl ⟨by rfl, ?_⟩) (by assumption) ?_; rotate_left; focus (intro w hSw; (try dsimp only at hSw); go_simp; try with_reducible rfl))
          (try simp only [List.getElem_toArray, List.getElem_cons_succ, List.getElem_cons_zero, Act.put, List.setIfInBounds_toArray, List.set_cons_zero, List.set_cons_succ])
          refine wpAnyH_ready (rs := [6]) (by kernel_rfl) (by simp) ?_
          refine AllReadyH.cons rfl (fun K hK => ?_) AllReadyH.nil
          go_simp
          rw [← hzl9]
          refine HCR9.out.mono ?_
          rintro e w9 ⟨rfl, b9⟩
          refine hK.out _ _ ((b9.cell (p := ⟨w1.heap.size, 0, none⟩) hp1).trans cT8) (fun hHeld => ?_)
          clear hK K
          (try simp only [List.getElem_toArray, List.getElem_cons_succ, List.getElem_cons_zero, Act.put, List.setIfInBounds_toArray, List.set_cons_zero, List.set_cons_succ])
          (refine wpAnyH_take (i := 7) (v := ?_) rfl (by kernel_rfl) (by kernel_rfl) (by kernel_rfl) (fun _ _ _ h => h) (Or.inl ⟨by rfl, ?_⟩) (by assumption) ?_; rotate_left; focus (intro w hSw; (try dsimp only at hSw); go_simp; try with_reducible rfl))
          (try simp only [List.getElem_toArray, List.getElem_cons_succ, List.getElem_cons_zero, Act.put, List.setIfInBounds_toArray, List.set_cons_zero, List.set_cons_succ])
          (refine wpAnyH_take (i := 8) (v := ?_) rfl (by kernel_rfl) (by kernel_rfl) (by kernel_rfl) (fun _ _ _ h => h) (Or.inl ⟨by rfl, ?_⟩) (by assumption) ?_; rotate_left; focus (intro w hSw; (try dsimp only at hSw); go_simp; try with_reducible rfl))
          (try simp only [List.getElem_toArray, List.getElem_cons_succ, List.getElem_cons_zero, Act.put, List.setIfInBounds_toArray, List.set_cons_zero, List.set_cons_succ])
          (refine wpAnyH_take (i := 9) (v := ?_) rfl (by kernel_rfl) (by kernel_rfl) (by kernel_rfl) (fun _ _ _ h => h) (Or.inl ⟨by rfl, ?_⟩) (by assumption) ?_; rotate_left; focus (intro w hSw; (try dsimp only at hSw); go_simp; try with_reducible rfl))
          (try simp only [List.getElem_toArray, List.getElem_cons_succ, List.getElem_cons_zero, Act.put, List.setIfInBounds_toArray, List.set_cons_zero, List.set_cons_succ])
          (refine wpAnyH_take (i := 10) (v := ?_) rfl (by kernel_rfl) (by kernel_rfl) (by kernel_rfl) (fun _ _ _ h => h) (Or.inl ⟨by rfl, ?_⟩) (by assumption) ?_; rotate_left; focus (intro w hSw; (try dsimp only at hSw); go_simp; try with_reducible rfl))
          (try simp only [List.getElem_toArray, List.getElem_cons_succ, List.getElem_cons_zero, Act.put, List.setIfInBounds_toArray, List.set_cons_zero, List.set_cons_succ])
          (refine wpAnyH_take (i := 11) (v := ?_) rfl (by kernel_rfl) (by kernel_rfl) (by kernel_rfl) (fun _ _ _ h => h) (Or.inl ⟨by rfl, ?_⟩) (by assumption) ?_; rotate_left; focus (intro w hSw; (try dsimp only at hSw); go_simp; try with_reducible rfl))
          (try simp only [List.getElem_toArray, List.getElem_cons_succ, List.getElem_cons_zero, Act.put, List.setIfInBounds_toArray, List.set_cons_zero, List.set_cons_succ])
          refine wpAnyH_done (by kernel_rfl) ?_ _
          first | refine NoPanic.normal ?_ | skip
          clear hHeld cT8
          have T9 := TD.trans (b9.mono TD.size)
          cases b8 with
          | false =>
            have BE := HWT.out _ T9
            go_wp2_with fail
            refine (rCut_calls A n cap zs 1 _ (HI.out _ BE) hn6 (by omega)).mono ?_
            rintro e y1 ⟨A4, n4, c4, z4, rfl, i4, d1⟩
            have BE1 := BE.trans (d1.mono BE.size)
            clear d1
            go_wp2_with fail
            refine (drawCountReadings_calls A4 n4 c4 z4 _ i4).mono ?_
            rintro e y2 ⟨ve, le, Ae, ce, xe, rfl, hde, hee, hze, hzel, hzec, hcem, d2⟩
            obtain ⟨Ad, cd, rfl, hrde, -, -⟩ := hde.slice
            have hle := hee.1
            have HSE := Lib.hid (hee.short (by omega))
            have hlne : le.length ≤ 1048576 := by omega
            have hzne : xe.length ≤ 1048576 := by omega
            obtain ⟨y3, hy3⟩ : ∃ y3, y3 = y2.alloc (.cells #[.slice Ad le.length cd] 31) := ⟨_, rfl⟩
            have BE2 := BE1.trans (d2.mono BE1.size)
            have dE : Below y2.heap.size y2 y3 := by rw [hy3]; exact (Below.refl _ _).alloc (Nat.le_refl _) _
            have BE3 := BE2.trans (dE.mono BE2.size)
            have HRE := Lib.hid (show ∀ W', Below y3.heap.size y3 W' → DictR W' W'.heap.size Ad le from fun W' hb => by
              rw [hy3] at hb
              exact ((((hrde.alloc (Nat.le_refl _) _).more (by simp)).below hb).more hb.size))
            have HZE := Lib.hid (show ∀ W', Below y3.heap.size y3 W' → Reads W' W'.heap.size 1 Ae xe.length (ints xe) from fun W' hb => by
              rw [hy3] at hb
              exact ((((hze.alloc (Nat.le_refl _) _).more (by simp)).below hb).more hb.size))
            have HCE := Lib.hid (show ∀ W', Below y3.heap.size y3 W' → W'.cell? ⟨y2.heap.size, 0, none⟩ = some (.slice Ad le.length cd) from fun W' hb => by
              rw [hy3] at hb
              exact ((Box.new y2 31 (.slice Ad le.length cd)).far hb).cell)
            have cE := HCE.out _ (Below.refl _ _)
            clear d2 dE i4 hde hee hze hrde
            go_wp2_with fail
            rw [← hy3]
            clear hy3
            refine (impl_IsUniquelyReadable Ad cd le _ (HRE.out _ (Below.refl _ _)) hlne HSE.out (HM.out _ BE3)).mono ?_
            obtain ⟨ue, hue⟩ : ∃ u, u = uniqB le := ⟨_, rfl⟩
            obtain ⟨qe, hqe⟩ : ∃ u, u = dictB le := ⟨_, rfl⟩
            rw [← hue, ← hqe]
            rintro e y4 ⟨rfl, d4, hrese⟩
            have HUE := Lib.hid (show ue = true → ∀ zs, cntD le zs ≤ 1 from fun h zs => uniq_one (by rw [← hqe]; exact hrese) (by rw [← hue]; exact h) zs)
            have cE4 := HCE.out _ d4
            have BE4 := BE3.trans (d4.mono BE3.size)
            clear hue hqe hrese cE
            go_wp2_with fail
            refine (impl_CountReadings Ad Ae cd ce le xe _ (HRE.out _ d4) hlne HSE.out (HM.out _ BE4) (HZE.out _ d4) hzne hzec hcem).mono ?_
            unfold CountRes
            obtain ⟨be, hbe⟩ : ∃ u, u = countB le xe := ⟨_, rfl⟩
            obtain ⟨ne, hne⟩ : ∃ u, u = countV le xe := ⟨_, rfl⟩
            rw [← hbe, ← hne]
            rintro e y5 ⟨rfl, d5⟩
            have BF := BE4.trans (d5.mono BE4.size)
            have HNE := Lib.hid (show be = true → ue = true → ne ≤ 1 from fun h1 h2 => by
              have h3 := (count_some (by rw [← hbe]; exact h1)).2
              have h4 := HUE.out h2 xe
              rw [hne, h3]
              omega)
            clear hbe hne cE4 d4 d5
            cases qe with
            | false =>
              go_wp2
              go_ret
              exact ⟨rfl, BF⟩
            | true =>
              cases ue with
              | false =>
                go_wp2
                go_ret
                exact ⟨rfl, BF⟩
              | true =>
                cases be with
                | false =>
                  go_wp2
                  go_ret
                  exact ⟨rfl, BF⟩
                | true =>
                  have n1 := HNE.out rfl rfl
                  go_wp2
                  go_ret
                  exact ⟨rfl, BF⟩
          | true =>
            have n8x := HN8.out rfl
            have BE := HWT.out _ T9
            go_wp2_with fail
            refine (rCut_calls A n cap zs 1 _ (HI.out _ BE) hn6 (by omega)).mono ?_
            rintro e y1 ⟨A4, n4, c4, z4, rfl, i4, d1⟩
            have BE1 := BE.trans (d1.mono BE.size)
            clear d1
            go_wp2_with fail
            refine (drawCountReadings_calls A4 n4 c4 z4 _ i4).mono ?_
            rintro e y2 ⟨ve, le, Ae, ce, xe, rfl, hde, hee, hze, hzel, hzec, hcem, d2⟩
            obtain ⟨Ad, cd, rfl, hrde, -, -⟩ := hde.slice
            have hle := hee.1
            have HSE := Lib.hid (hee.short (by omega))
            have hlne : le.length ≤ 1048576 := by omega
            have hzne : xe.length ≤ 1048576 := by omega
            obtain ⟨y3, hy3⟩ : ∃ y3, y3 = y2.alloc (.cells #[.slice Ad le.length cd] 31) := ⟨_, rfl⟩
            have BE2 := BE1.trans (d2.mono BE1.size)
            have dE : Below y2.heap.size y2 y3 := by rw [hy3]; exact (Below.refl _ _).alloc (Nat.le_refl _) _
            have BE3 := BE2.trans (dE.mono BE2.size)
            have HRE := Lib.hid (show ∀ W', Below y3.heap.size y3 W' → DictR W' W'.heap.size Ad le from fun W' hb => by
              rw [hy3] at hb
              exact ((((hrde.alloc (Nat.le_refl _) _).more (by simp)).below hb).more hb.size))
            have HZE := Lib.hid (show ∀ W', Below y3.heap.size y3 W' → Reads W' W'.heap.size 1 Ae xe.length (ints xe) from fun W' hb => by
              rw [hy3] at hb
              exact ((((hze.alloc (Nat.le_refl _) _).more (by simp)).below hb).more hb.size))
            have HCE := Lib.hid (show ∀ W', Below y3.heap.size y3 W' → W'.cell? ⟨y2.heap.size, 0, none⟩ = some (.slice Ad le.length cd) from fun W' hb => by
              rw [hy3] at hb
              exact ((Box.new y2 31 (.slice Ad le.length cd)).far hb).cell)
            have cE := HCE.out _ (Below.refl _ _)
            clear d2 dE i4 hde hee hze hrde
            go_wp2_with fail
            rw [← hy3]
            clear hy3
            refine (impl_IsUniquelyReadable Ad cd le _ (HRE.out _ (Below.refl _ _)) hlne HSE.out (HM.out _ BE3)).mono ?_
            obtain ⟨ue, hue⟩ : ∃ u, u = uniqB le := ⟨_, rfl⟩
            obtain ⟨qe, hqe⟩ : ∃ u, u = dictB le := ⟨_, rfl⟩
            rw [← hue, ← hqe]
            rintro e y4 ⟨rfl, d4, hrese⟩
            have HUE := Lib.hid (show ue = true → ∀ zs, cntD le zs ≤ 1 from fun h zs => uniq_one (by rw [← hqe]; exact hrese) (by rw [← hue]; exact h) zs)
            have cE4 := HCE.out _ d4
            have BE4 := BE3.trans (d4.mono BE3.size)
            clear hue hqe hrese cE
            go_wp2_with fail
            refine (impl_CountReadings Ad Ae cd ce le xe _ (HRE.out _ d4) hlne HSE.out (HM.out _ BE4) (HZE.out _ d4) hzne hzec hcem).mono ?_
            unfold CountRes
            obtain ⟨be, hbe⟩ : ∃ u, u = countB le xe := ⟨_, rfl⟩
            obtain ⟨ne, hne⟩ : ∃ u, u = countV le xe := ⟨_, rfl⟩
            rw [← hbe, ← hne]
            rintro e y5 ⟨rfl, d5⟩
            have BF := BE4.trans (d5.mono BE4.size)
            have HNE := Lib.hid (show be = true → ue = true → ne ≤ 1 from fun h1 h2 => by
              have h3 := (count_some (by rw [← hbe]; exact h1)).2
              have h4 := HUE.out h2 xe
              rw [hne, h3]
              omega)
            clear hbe hne cE4 d4 d5
            cases qe with
            | false =>
              go_wp2
              go_ret
              exact ⟨rfl, BF⟩
            | true =>
              cases ue with
              | false =>
                go_wp2
                go_ret
                exact ⟨rfl, BF⟩
              | true =>
                cases be with
                | false =>
                  go_wp2
                  go_ret
                  exact ⟨rfl, BF⟩
                | true =>
                  have n1 := HNE.out rfl rfl
                  go_wp2
                  go_ret
                  exact ⟨rfl, BF⟩
        | true =>
          have n7x := HN7.out rfl
          go_wp2
          first | refine wp_region_noPanic ?_ | skip
          refine wp_region_held_drew (S := fun w' => w'.cell? ⟨w1.heap.size, 0, none⟩ = some (.slice Al l.length cl)) (by kernel_rfl) (by exact cT8) (fun hHeld => ?_)
          (refine wpAnyH_take (i := 0) (v := ?_) rfl (by kernel_rfl) (by kernel_rfl) (by kernel_rfl) (fun _ _ _ h => h) (Or.inl ⟨by rfl, ?_⟩) (by assumption) ?_; rotate_left; focus (intro w hSw; (try dsimp only at hSw); go_simp; try with_reducible rfl))
          (try simp only [List.getElem_toArray, List.getElem_cons_succ, List.getElem_cons_zero, Act.put, List.setIfInBounds_toArray, List.set_cons_zero, List.set_cons_succ])
          (refine wpAnyH_take (i := 1) (v := ?_) rfl (by kernel_rfl) (by kernel_rfl) (by kernel_rfl) (fun _ _ _ h => h) (Or.inl ⟨by rfl, ?_⟩) (by assumption) ?_; rotate_left; focus (intro w hSw; (try dsimp only at hSw); go_simp; try with_reducible rfl))
          (try simp only [List.getElem_toArray, List.getElem_cons_succ, List.getElem_cons_zero, Act.put, List.setIfInBounds_toArray, List.set_cons_zero, List.set_cons_succ])
          (refine wpAnyH_take (i := 2) (v := ?_) rfl (by kernel_rfl) (by kernel_rfl) (by kernel_rfl) (fun _ _ _ h => h) (Or.inl ⟨by rfl, ?_⟩) (by assumption) ?_; rotate_left; focus (intro w hSw; (try dsimp only at hSw); go_simp; try with_reducible rfl))
          (try simp only [List.getElem_toArray, List.getElem_cons_succ, List.getElem_cons_zero, Act.put, List.setIfInBounds_toArray, List.set_cons_zero, List.set_cons_succ])
          (refine wpAnyH_take (i := 3) (v := ?_) rfl (by kernel_rfl) (by kernel_rfl) (by kernel_rfl) (fun _ _ _ h => h) (Or.inl ⟨by rfl, ?_⟩) (by assumption) ?_; rotate_left; focus (intro w hSw; (try dsimp only at hSw); go_simp; try with_reducible rfl))
          (try simp only [List.getElem_toArray, List.getElem_cons_succ, List.getElem_cons_zero, Act.put, List.setIfInBounds_toArray, List.set_cons_zero, List.set_cons_succ])
          (refine wpAnyH_take (i := 4) (v := ?_) rfl (by kernel_rfl) (by kernel_rfl) (by kernel_rfl) (fun _ _ _ h => h) (Or.inl ⟨by rfl, ?_⟩) (by assumption) ?_; rotate_left; focus (intro w hSw; (try dsimp only at hSw); go_simp; try with_reducible rfl))
          (try simp only [List.getElem_toArray, List.getElem_cons_succ, List.getElem_cons_zero, Act.put, List.setIfInBounds_toArray, List.set_cons_zero, List.set_cons_succ])
          (refine wpAnyH_take (i := 5) (v := ?_) rfl (by kernel_rfl) (by kernel_rfl) (by kernel_rfl) (fun _ _ _ h => h) (Or.inl ⟨by rfl, ?_⟩) (by assumption) ?_; rotate_left; focus (intro w hSw; (try dsimp only at hSw); go_simp; try with_reducible rfl))
          (try simp only [List.getElem_toArray, List.getElem_cons_succ, List.getElem_cons_zero, Act.put, List.setIfInBounds_toArray, List.set_cons_zero, List.set_cons_succ])
          refine wpAnyH_ready (rs := [6]) (by kernel_rfl) (by simp) ?_
          refine AllReadyH.cons rfl (fun K hK => ?_) AllReadyH.nil
          go_simp
          rw [← hzl9]
          refine HCR9.out.mono ?_
          rintro e w9 ⟨rfl, b9⟩
          refine hK.out _ _ ((b9.cell (p := ⟨w1.heap.size, 0, none⟩) hp1).trans cT8) (fun hHeld => ?_)
          clear hK K
          (try simp only [List.getElem_toArray, List.getElem_cons_succ, List.getElem_cons_zero, Act.put, List.setIfInBounds_toArray, List.set_cons_zero, List.set_cons_succ])
          (refine wpAnyH_take (i := 7) (v := ?_) rfl (by kernel_rfl) (by kernel_rfl) (by kernel_rfl) (fun _ _ _ h => h) (Or.inl ⟨by rfl, ?_⟩) (by assumption) ?_; rotate_left; focus (intro w hSw; (try dsimp only at hSw); go_simp; try with_reducible rfl))
          (try simp only [List.getElem_toArray, List.getElem_cons_succ, List.getElem_cons_zero, Act.put, List.setIfInBounds_toArray, List.set_cons_zero, List.set_cons_succ])
          (refine wpAnyH_take (i := 8) (v := ?_) rfl (by kernel_rfl) (by kernel_rfl) (by kernel_rfl) (fun _ _ _ h => h) (Or.inl ⟨by rfl, ?_⟩) (by assumption) ?_; rotate_left; focus (intro w hSw; (try dsimp only at hSw); go_simp; try with_reducible rfl))
          (try simp only [List.getElem_toArray, List.getElem_cons_succ, List.getElem_cons_zero, Act.put, List.setIfInBounds_toArray, List.set_cons_zero, List.set_cons_succ])
          (refine wpAnyH_take (i := 9) (v := ?_) rfl (by kernel_rfl) (by kernel_rfl) (by kernel_rfl) (fun _ _ _ h => h) (Or.inl ⟨by rfl, ?_⟩) (by assumption) ?_; rotate_left; focus (intro w hSw; (try dsimp only at hSw); go_simp; try with_reducible rfl))
          (try simp only [List.getElem_toArray, List.getElem_cons_succ, List.getElem_cons_zero, Act.put, List.setIfInBounds_toArray, List.set_cons_zero, List.set_cons_succ])
          (refine wpAnyH_take (i := 10) (v := ?_) rfl (by kernel_rfl) (by kernel_rfl) (by kernel_rfl) (fun _ _ _ h => h) (Or.inl ⟨by rfl, ?_⟩) (by assumption) ?_; rotate_left; focus (intro w hSw; (try dsimp only at hSw); go_simp; try with_reducible rfl))
          (try simp only [List.getElem_toArray, List.getElem_cons_succ, List.getElem_cons_zero, Act.put, List.setIfInBounds_toArray, List.set_cons_zero, List.set_cons_succ])
          (refine wpAnyH_take (i := 11) (v := ?_) rfl (by kernel_rfl) (by kernel_rfl) (by kernel_rfl) (fun _ _ _ h => h) (Or.inl ⟨by rfl, ?_⟩) (by assumption) ?_; rotate_left; focus (intro w hSw; (try dsimp only at hSw); go_simp; try with_reducible rfl))
          (try simp only [List.getElem_toArray, List.getElem_cons_succ, List.getElem_cons_zero, Act.put, List.setIfInBounds_toArray, List.set_cons_zero, List.set_cons_succ])
          refine wpAnyH_done (by kernel_rfl) ?_ _
          first | refine NoPanic.normal ?_ | skip
          clear hHeld cT8
          have T9 := TD.trans (b9.mono TD.size)
          cases b8 with
          | false =>
            have BE := HWT.out _ T9
            go_wp2_with fail
            refine (rCut_calls A n cap zs 1 _ (HI.out _ BE) hn6 (by omega)).mono ?_
            rintro e y1 ⟨A4, n4, c4, z4, rfl, i4, d1⟩
            have BE1 := BE.trans (d1.mono BE.size)
            clear d1
            go_wp2_with fail
            refine (drawCountReadings_calls A4 n4 c4 z4 _ i4).mono ?_
            rintro e y2 ⟨ve, le, Ae, ce, xe, rfl, hde, hee, hze, hzel, hzec, hcem, d2⟩
            obtain ⟨Ad, cd, rfl, hrde, -, -⟩ := hde.slice
            have hle := hee.1
            have HSE := Lib.hid (hee.short (by omega))
            have hlne : le.length ≤ 1048576 := by omega
            have hzne : xe.length ≤ 1048576 := by omega
            obtain ⟨y3, hy3⟩ : ∃ y3, y3 = y2.alloc (.cells #[.slice Ad le.length cd] 31) := ⟨_, rfl⟩
            have BE2 := BE1.trans (d2.mono BE1.size)
            have dE : Below y2.heap.size y2 y3 := by rw [hy3]; exact (Below.refl _ _).alloc (Nat.le_refl _) _
            have BE3 := BE2.trans (dE.mono BE2.size)
            have HRE := Lib.hid (show ∀ W', Below y3.heap.size y3 W' → DictR W' W'.heap.size Ad le from fun W' hb => by
              rw [hy3] at hb
              exact ((((hrde.alloc (Nat.le_refl _) _).more (by simp)).below hb).more hb.size))
            have HZE := Lib.hid (show ∀ W', Below y3.heap.size y3 W' → Reads W' W'.heap.size 1 Ae xe.length (ints xe) from fun W' hb => by
              rw [hy3] at hb
              exact ((((hze.alloc (Nat.le_refl _) _).more (by simp)).below hb).more hb.size))
            have HCE := Lib.hid (show ∀ W', Below y3.heap.size y3 W' → W'.cell? ⟨y2.heap.size, 0, none⟩ = some (.slice Ad le.length cd) from fun W' hb => by
              rw [hy3] at hb
              exact ((Box.new y2 31 (.slice Ad le.length cd)).far hb).cell)
            have cE := HCE.out _ (Below.refl _ _)
            clear d2 dE i4 hde hee hze hrde
            go_wp2_with fail
            rw [← hy3]
            clear hy3
            refine (impl_IsUniquelyReadable Ad cd le _ (HRE.out _ (Below.refl _ _)) hlne HSE.out (HM.out _ BE3)).mono ?_
            obtain ⟨ue, hue⟩ : ∃ u, u = uniqB le := ⟨_, rfl⟩
            obtain ⟨qe, hqe⟩ : ∃ u, u = dictB le := ⟨_, rfl⟩
            rw [← hue, ← hqe]
            rintro e y4 ⟨rfl, d4, hrese⟩
            have HUE := Lib.hid (show ue = true → ∀ zs, cntD le zs ≤ 1 from fun h zs => uniq_one (by rw [← hqe]; exact hrese) (by rw [← hue]; exact h) zs)
            have cE4 := HCE.out _ d4
            have BE4 := BE3.trans (d4.mono BE3.size)
            clear hue hqe hrese cE
            go_wp2_with fail
            refine (impl_CountReadings Ad Ae cd ce le xe _ (HRE.out _ d4) hlne HSE.out (HM.out _ BE4) (HZE.out _ d4) hzne hzec hcem).mono ?_
            unfold CountRes
            obtain ⟨be, hbe⟩ : ∃ u, u = countB le xe := ⟨_, rfl⟩
            obtain ⟨ne, hne⟩ : ∃ u, u = countV le xe := ⟨_, rfl⟩
            rw [← hbe, ← hne]
            rintro e y5 ⟨rfl, d5⟩
            have BF := BE4.trans (d5.mono BE4.size)
            have HNE := Lib.hid (show be = true → ue = true → ne ≤ 1 from fun h1 h2 => by
              have h3 := (count_some (by rw [← hbe]; exact h1)).2
              have h4 := HUE.out h2 xe
              rw [hne, h3]
              omega)
            clear hbe hne cE4 d4 d5
            cases qe with
            | false =>
              go_wp2
              go_ret
              exact ⟨rfl, BF⟩
            | true =>
              cases ue with
              | false =>
                go_wp2
                go_ret
                exact ⟨rfl, BF⟩
              | true =>
                cases be with
                | false =>
                  go_wp2
                  go_ret
                  exact ⟨rfl, BF⟩
                | true =>
                  have n1 := HNE.out rfl rfl
                  go_wp2
                  go_ret
                  exact ⟨rfl, BF⟩
          | true =>
            have n8x := HN8.out rfl
            have BE := HWT.out _ T9
            go_wp2_with fail
            refine (rCut_calls A n cap zs 1 _ (HI.out _ BE) hn6 (by omega)).mono ?_
            rintro e y1 ⟨A4, n4, c4, z4, rfl, i4, d1⟩
            have BE1 := BE.trans (d1.mono BE.size)
            clear d1
            go_wp2_with fail
            refine (drawCountReadings_calls A4 n4 c4 z4 _ i4).mono ?_
            rintro e y2 ⟨ve, le, Ae, ce, xe, rfl, hde, hee, hze, hzel, hzec, hcem, d2⟩
            obtain ⟨Ad, cd, rfl, hrde, -, -⟩ := hde.slice
            have hle := hee.1
            have HSE := Lib.hid (hee.short (by omega))
            have hlne : le.length ≤ 1048576 := by omega
            have hzne : xe.length ≤ 1048576 := by omega
            obtain ⟨y3, hy3⟩ : ∃ y3, y3 = y2.alloc (.cells #[.slice Ad le.length cd] 31) := ⟨_, rfl⟩
            have BE2 := BE1.trans (d2.mono BE1.size)
            have dE : Below y2.heap.size y2 y3 := by rw [hy3]; exact (Below.refl _ _).alloc (Nat.le_refl _) _
            have BE3 := BE2.trans (dE.mono BE2.size)
            have HRE := Lib.hid (show ∀ W', Below y3.heap.size y3 W' → DictR W' W'.heap.size Ad le from fun W' hb => by
              rw [hy3] at hb
              exact ((((hrde.alloc (Nat.le_refl _) _).more (by simp)).below hb).more hb.size))
            have HZE := Lib.hid (show ∀ W', Below y3.heap.size y3 W' → Reads W' W'.heap.size 1 Ae xe.length (ints xe) from fun W' hb => by
              rw [hy3] at hb
              exact ((((hze.alloc (Nat.le_refl _) _).more (by simp)).below hb).more hb.size))
            have HCE := Lib.hid (show ∀ W', Below y3.heap.size y3 W' → W'.cell? ⟨y2.heap.size, 0, none⟩ = some (.slice Ad le.length cd) from fun W' hb => by
              rw [hy3] at hb
              exact ((Box.new y2 31 (.slice Ad le.length cd)).far hb).cell)
            have cE := HCE.out _ (Below.refl _ _)
            clear d2 dE i4 hde hee hze hrde
            go_wp2_with fail
            rw [← hy3]
            clear hy3
            refine (impl_IsUniquelyReadable Ad cd le _ (HRE.out _ (Below.refl _ _)) hlne HSE.out (HM.out _ BE3)).mono ?_
            obtain ⟨ue, hue⟩ : ∃ u, u = uniqB le := ⟨_, rfl⟩
            obtain ⟨qe, hqe⟩ : ∃ u, u = dictB le := ⟨_, rfl⟩
            rw [← hue, ← hqe]
            rintro e y4 ⟨rfl, d4, hrese⟩
            have HUE := Lib.hid (show ue = true → ∀ zs, cntD le zs ≤ 1 from fun h zs => uniq_one (by rw [← hqe]; exact hrese) (by rw [← hue]; exact h) zs)
            have cE4 := HCE.out _ d4
            have BE4 := BE3.trans (d4.mono BE3.size)
            clear hue hqe hrese cE
            go_wp2_with fail
            refine (impl_CountReadings Ad Ae cd ce le xe _ (HRE.out _ d4) hlne HSE.out (HM.out _ BE4) (HZE.out _ d4) hzne hzec hcem).mono ?_
            unfold CountRes
            obtain ⟨be, hbe⟩ : ∃ u, u = countB le xe := ⟨_, rfl⟩
            obtain ⟨ne, hne⟩ : ∃ u, u = countV le xe := ⟨_, rfl⟩
            rw [← hbe, ← hne]
            rintro e y5 ⟨rfl, d5⟩
            have BF := BE4.trans (d5.mono BE4.size)
            have HNE := Lib.hid (show be = true → ue = true → ne ≤ 1 from fun h1 h2 => by
              have h3 := (count_some (by rw [← hbe]; exact h1)).2
              have h4 := HUE.out h2 xe
              rw [hne, h3]
              omega)
            clear hbe hne cE4 d4 d5
            cases qe with
            | false =>
              go_wp2
              go_ret
              exact ⟨rfl, BF⟩
            | true =>
              cases ue with
              | false =>
                go_wp2
                go_ret
                exact ⟨rfl, BF⟩
              | true =>
                cases be with
                | false =>
                  go_wp2
                  go_ret
                  exact ⟨rfl, BF⟩
                | true =>
                  have n1 := HNE.out rfl rfl
                  go_wp2
                  go_ret
                  exact ⟨rfl, BF⟩
      · have i60 : ¬ ((R.length : Int) ≤ 60) := by omega
        have BE := HWT.out _ T6
        go_wp2_with fail
        refine (rCut_calls A n cap zs 1 _ (HI.out _ BE) hn6 (by omega)).mono ?_
        rintro e y1 ⟨A4, n4, c4, z4, rfl, i4, d1⟩
        have BE1 := BE.trans (d1.mono BE.size)
        clear d1
        go_wp2_with fail
        refine (drawCountReadings_calls A4 n4 c4 z4 _ i4).mono ?_
        rintro e y2 ⟨ve, le, Ae, ce, xe, rfl, hde, hee, hze, hzel, hzec, hcem, d2⟩
        obtain ⟨Ad, cd, rfl, hrde, -, -⟩ := hde.slice
        have hle := hee.1
        have HSE := Lib.hid (hee.short (by omega))
        have hlne : le.length ≤ 1048576 := by omega
        have hzne : xe.length ≤ 1048576 := by omega
        obtain ⟨y3, hy3⟩ : ∃ y3, y3 = y2.alloc (.cells #[.slice Ad le.length cd] 31) := ⟨_, rfl⟩
        have BE2 := BE1.trans (d2.mono BE1.size)
        have dE : Below y2.heap.size y2 y3 := by rw [hy3]; exact (Below.refl _ _).alloc (Nat.le_refl _) _
        have BE3 := BE2.trans (dE.mono BE2.size)
        have HRE := Lib.hid (show ∀ W', Below y3.heap.size y3 W' → DictR W' W'.heap.size Ad le from fun W' hb => by
          rw [hy3] at hb
          exact ((((hrde.alloc (Nat.le_refl _) _).more (by simp)).below hb).more hb.size))
        have HZE := Lib.hid (show ∀ W', Below y3.heap.size y3 W' → Reads W' W'.heap.size 1 Ae xe.length (ints xe) from fun W' hb => by
          rw [hy3] at hb
          exact ((((hze.alloc (Nat.le_refl _) _).more (by simp)).below hb).more hb.size))
        have HCE := Lib.hid (show ∀ W', Below y3.heap.size y3 W' → W'.cell? ⟨y2.heap.size, 0, none⟩ = some (.slice Ad le.length cd) from fun W' hb => by
          rw [hy3] at hb
          exact ((Box.new y2 31 (.slice Ad le.length cd)).far hb).cell)
        have cE := HCE.out _ (Below.refl _ _)
        clear d2 dE i4 hde hee hze hrde
        go_wp2_with fail
        rw [← hy3]
        clear hy3
        refine (impl_IsUniquelyReadable Ad cd le _ (HRE.out _ (Below.refl _ _)) hlne HSE.out (HM.out _ BE3)).mono ?_
        obtain ⟨ue, hue⟩ : ∃ u, u = uniqB le := ⟨_, rfl⟩
        obtain ⟨qe, hqe⟩ : ∃ u, u = dictB le := ⟨_, rfl⟩
        rw [← hue, ← hqe]
        rintro e y4 ⟨rfl, d4, hrese⟩
        have HUE := Lib.hid (show ue = true → ∀ zs, cntD le zs ≤ 1 from fun h zs => uniq_one (by rw [← hqe]; exact hrese) (by rw [← hue]; exact h) zs)
        have cE4 := HCE.out _ d4
        have BE4 := BE3.trans (d4.mono BE3.size)
        clear hue hqe hrese cE
        go_wp2_with fail
        refine (impl_CountReadings Ad Ae cd ce le xe _ (HRE.out _ d4) hlne HSE.out (HM.out _ BE4) (HZE.out _ d4) hzne hzec hcem).mono ?_
        unfold CountRes
        obtain ⟨be, hbe⟩ : ∃ u, u = countB le xe := ⟨_, rfl⟩
        obtain ⟨ne, hne⟩ : ∃ u, u = countV le xe := ⟨_, rfl⟩
        rw [← hbe, ← hne]
        rintro e y5 ⟨rfl, d5⟩
        have BF := BE4.trans (d5.mono BE4.size)
        have HNE := Lib.hid (show be = true → ue = true → ne ≤ 1 from fun h1 h2 => by
          have h3 := (count_some (by rw [← hbe]; exact h1)).2
          have h4 := HUE.out h2 xe
          rw [hne, h3]
          omega)
        clear hbe hne cE4 d4 d5
        cases qe with
        | false =>
          go_wp2
          go_ret
          exact ⟨rfl, BF⟩
        | true =>
          cases ue with
          | false =>
            go_wp2
            go_ret
            exact ⟨rfl, BF⟩
          | true =>
            cases be with
            | false =>
              go_wp2
              go_ret
              exact ⟨rfl, BF⟩
            | true =>
              have n1 := HNE.out rfl rfl
              go_wp2
              go_ret
              exact ⟨rfl, BF⟩
    · obtain rfl : vb = false := by rw [HVB.out, ambVB_yes HQ.out.symm]; exact decide_eq_false h0
      obtain rfl : u = true := by rw [HU.out, uniqB, ← HQ.out, decide_eq_true (by omega)]; rfl
      clear hvv hqq h0
      have BE := HWT.out _ T6
      go_wp2_with fail
      refine (rCut_calls A n cap zs 1 _ (HI.out _ BE) hn6 (by omega)).mono ?_
      rintro e y1 ⟨A4, n4, c4, z4, rfl, i4, d1⟩
      have BE1 := BE.trans (d1.mono BE.size)
      clear d1
      go_wp2_with fail
      refine (drawCountReadings_calls A4 n4 c4 z4 _ i4).mono ?_
      rintro e y2 ⟨ve, le, Ae, ce, xe, rfl, hde, hee, hze, hzel, hzec, hcem, d2⟩
      obtain ⟨Ad, cd, rfl, hrde, -, -⟩ := hde.slice
      have hle := hee.1
      have HSE := Lib.hid (hee.short (by omega))
      have hlne : le.length ≤ 1048576 := by omega
      have hzne : xe.length ≤ 1048576 := by omega
      obtain ⟨y3, hy3⟩ : ∃ y3, y3 = y2.alloc (.cells #[.slice Ad le.length cd] 31) := ⟨_, rfl⟩
      have BE2 := BE1.trans (d2.mono BE1.size)
      have dE : Below y2.heap.size y2 y3 := by rw [hy3]; exact (Below.refl _ _).alloc (Nat.le_refl _) _
      have BE3 := BE2.trans (dE.mono BE2.size)
      have HRE := Lib.hid (show ∀ W', Below y3.heap.size y3 W' → DictR W' W'.heap.size Ad le from fun W' hb => by
        rw [hy3] at hb
        exact ((((hrde.alloc (Nat.le_refl _) _).more (by simp)).below hb).more hb.size))
      have HZE := Lib.hid (show ∀ W', Below y3.heap.size y3 W' → Reads W' W'.heap.size 1 Ae xe.length (ints xe) from fun W' hb => by
        rw [hy3] at hb
        exact ((((hze.alloc (Nat.le_refl _) _).more (by simp)).below hb).more hb.size))
      have HCE := Lib.hid (show ∀ W', Below y3.heap.size y3 W' → W'.cell? ⟨y2.heap.size, 0, none⟩ = some (.slice Ad le.length cd) from fun W' hb => by
        rw [hy3] at hb
        exact ((Box.new y2 31 (.slice Ad le.length cd)).far hb).cell)
      have cE := HCE.out _ (Below.refl _ _)
      clear d2 dE i4 hde hee hze hrde
      go_wp2_with fail
      rw [← hy3]
      clear hy3
      refine (impl_IsUniquelyReadable Ad cd le _ (HRE.out _ (Below.refl _ _)) hlne HSE.out (HM.out _ BE3)).mono ?_
      obtain ⟨ue, hue⟩ : ∃ u, u = uniqB le := ⟨_, rfl⟩
      obtain ⟨qe, hqe⟩ : ∃ u, u = dictB le := ⟨_, rfl⟩
      rw [← hue, ← hqe]
      rintro e y4 ⟨rfl, d4, hrese⟩
      have HUE := Lib.hid (show ue = true → ∀ zs, cntD le zs ≤ 1 from fun h zs => uniq_one (by rw [← hqe]; exact hrese) (by rw [← hue]; exact h) zs)
      have cE4 := HCE.out _ d4
      have BE4 := BE3.trans (d4.mono BE3.size)
      clear hue hqe hrese cE
      go_wp2_with fail
      refine (impl_CountReadings Ad Ae cd ce le xe _ (HRE.out _ d4) hlne HSE.out (HM.out _ BE4) (HZE.out _ d4) hzne hzec hcem).mono ?_
      unfold CountRes
      obtain ⟨be, hbe⟩ : ∃ u, u = countB le xe := ⟨_, rfl⟩
      obtain ⟨ne, hne⟩ : ∃ u, u = countV le xe := ⟨_, rfl⟩
      rw [← hbe, ← hne]
      rintro e y5 ⟨rfl, d5⟩
      have BF := BE4.trans (d5.mono BE4.size)
      have HNE := Lib.hid (show be = true → ue = true → ne ≤ 1 from fun h1 h2 => by
        have h3 := (count_some (by rw [← hbe]; exact h1)).2
        have h4 := HUE.out h2 xe
        rw [hne, h3]
        omega)
      clear hbe hne cE4 d4 d5
      cases qe with
      | false =>
        go_wp2
        go_ret
        exact ⟨rfl, BF⟩
      | true =>
        cases ue with
        | false =>
          go_wp2
          go_ret
          exact ⟨rfl, BF⟩
        | true =>
          cases be with
          | false =>
            go_wp2
            go_ret
            exact ⟨rfl, BF⟩
          | true =>
            have n1 := HNE.out rfl rfl
            go_wp2
            go_ret
            exact ⟨rfl, BF⟩
end Go.Proofs.YtekidodfcanjaaaGreatDoor
