/-
  The law FnTheoryConflicts returns true for every code: its walk over the contracts.
-/
import Derived.Test.YtekidodfcanjaaaGreatDoorAmbI
import Derived.Test.YtekidodfcanjaaaGreatDoorGridPl
import Derived.Test.YtekidodfcanjaaaGreatDoorBndS
import Derived.Test.YtekidodfcanjaaaGreatDoorPairI
import Derived.Test.YtekidodfcanjaaaGreatDoorPairS
import Derived.Test.YtekidodfcanjaaaGreatDoorCountI
import Derived.Test.YtekidodfcanjaaaGreatDoorPutS
import Derived.Test.YtekidodfcanjaaaGreatDoorRText
namespace Go.Proofs.YtekidodfcanjaaaGreatDoor
open Go.RowKit
set_option linter.unusedVariables false
set_option linter.unusedSimpArgs false
set_option maxRecDepth 100000

theorem count_yesC {l : List EntD} {zs : List Int} (hv : dictB l = true) (hs : strokesB zs = true) (hc : cntD l zs ≤ 1000000) : countB l zs = true ∧ countV l zs = ((cntD l zs : Nat) : Int) := by
  unfold countB countV countD
  rw [hv, hs]
  simp [hc]
/-- Rows of ints that can be read at any later time. -/
theorem ownSS_reads {w : World} {lo hi : Nat} {v : Value} {rows : List (List Int)} (h : OwnSS w lo hi v rows) : ∃ A cap, v = .slice A rows.length cap ∧ rows.length ≤ cap ∧ ∀ W', Below w.heap.size w W' → ∀ (k : Nat) r, rows[k]? = some r → ∃ (b off : Nat) (a : Option Addr) (c : Nat), A = some ⟨b, off, none⟩ ∧ b < w.heap.size ∧ W'.cell? ⟨b, off + k, none⟩ = some (.slice a r.length c) ∧ Reads W' w.heap.size 1 a r.length (ints r) := by
  obtain ⟨vs, h1, h2, h3⟩ := h
  obtain ⟨A, cap, rfl, hr, hn, hm⟩ := h1.slice
  refine ⟨A, cap, rfl, hn, fun W' hb k r hk => ?_⟩
  have hkl := (List.getElem?_eq_some_iff.1 hk).1
  obtain ⟨b, off, hA, hbl, hc⟩ := hr.2 (by omega)
  obtain ⟨u, hu, ru⟩ := h2.at_ hk
  obtain ⟨a, c, rfl, rd, -, -⟩ := (Own.of_row ru).slice
  exact ⟨b, off, a, c, hA, hbl, (hb.cell (p := ⟨b, off + k, none⟩) hbl).trans (hc k _ hu), rd.below hb⟩

set_option maxHeartbeats 16000000 in
theorem law_TheoryConflicts (A : Option Addr) (n cap : Nat) (zs : List Int) (W : World) (h : Ints .u8 W A n cap zs) (hm : MaxOk W) :
    Calls Tryz.prog 4 #[.slice A n cap] W fun e W' => e = .returned (.bool true) ∧ Below W.heap.size W W' := by
  have HM := Lib.hid (show ∀ W', Below W.heap.size W W' → MaxOk W' from fun W' hb => hm.below hb)
  clear hm
  by_cases hbig : 65536 < n
  · go_enter Tryz.func4, Tryz.ntmps4
    go_wp2_with fail
    refine (rBigT_calls A n cap _).mono ?_
    rw [show decide (65536 < n) = true by simp [hbig]]
    rintro e w1 ⟨rfl, rfl⟩
    go_wp2
    go_ret
    exact ⟨rfl, Below.refl _ _⟩
  go_enter Tryz.func4, Tryz.ntmps4
  go_wp2_with fail
  refine (rBigT_calls A n cap _).mono ?_
  rw [show decide (65536 < n) = false by simp [hbig]]
  rintro e w0 ⟨rfl, rfl⟩
  go_wp2_with fail
  refine (drawBoundaryConflicts_calls A n cap zs _ h).mono ?_
  rintro e w1 ⟨v, l, rfl, hd, he, b1⟩
  obtain ⟨Al, cl, rfl, hrd, -, -⟩ := hd.slice
  have HSH := Lib.hid (he.short (by omega))
  have hl41 := he.1
  have hln : l.length ≤ 1048576 := by omega
  obtain ⟨x1, hx1⟩ : ∃ x1, x1 = w1.alloc (.cells #[.slice Al l.length cl] 31) := ⟨_, rfl⟩
  have B1 : Below W.heap.size W x1 := by rw [hx1]; exact b1.alloc b1.size _
  have HRT := Lib.hid (show ∀ W', Below x1.heap.size x1 W' → DictR W' W'.heap.size Al l from fun W' hb => by
    rw [hx1] at hb
    exact ((((hrd.alloc (Nat.le_refl _) _).more (by simp)).below hb).more hb.size))
  have HRX := Lib.hid (show ∀ W', Below x1.heap.size x1 W' → DictR W' x1.heap.size Al l from fun W' hb => by
    rw [hx1] at hb ⊢
    exact ((hrd.alloc (Nat.le_refl _) _).more (by simp)).below hb)
  have hx1s : w1.heap.size < x1.heap.size := by rw [hx1]; simp
  have HCT := Lib.hid (show ∀ W', Below x1.heap.size x1 W' → W'.cell? ⟨w1.heap.size, 0, none⟩ = some (.slice Al l.length cl) from fun W' hb => by
    rw [hx1] at hb
    exact ((Box.new w1 31 (.slice Al l.length cl)).far hb).cell)
  have HWT := Lib.hid (show ∀ W', Below x1.heap.size x1 W' → Below W.heap.size W W' from fun W' hb => B1.trans (hb.mono B1.size))
  have cT := HCT.out _ (Below.refl _ _)
  obtain ⟨q, hq⟩ : ∃ q, q = dictB l := ⟨_, rfl⟩
  obtain ⟨L, hL⟩ : ∃ q, q = bndD l := ⟨_, rfl⟩
  obtain ⟨P, hP⟩ : ∃ q, q = pairD l := ⟨_, rfl⟩
  have HLL := Lib.hid hL
  have HPP := Lib.hid hP
  have HROW := Lib.hid (show ∀ r ∈ L, dictB l = true ∧ ∃ (i k m : Nat) (c : EntD), r = [(i : Int), (k : Int), (m : Int)] ∧ l[m]? = some c ∧ strokesB c.1 = true ∧ 2 ≤ cntD l c.1 ∧ cntD l c.1 ≤ 1000000 from fun r hr => by rw [hL] at hr; exact bnd_count hr)
  have HQ := Lib.hid hq
  have HER := Lib.hid (show ∀ r ∈ bndD l, r.length ≤ 1048576 from fun r hr => by obtain ⟨-, i, k, m, a, b, c, h1, -⟩ := bnd_row hr; rw [h1]; simp)
  have HDR := Lib.hid (show ∀ r ∈ pairD l, r.length ≤ 1048576 from fun r hr => Nat.le_trans (pairD_row l r hr) (by omega))
  have hel := bndD_len l
  have hdl := pairD_len l
  rw [← hL] at HER hel
  rw [← hP] at HDR hdl
  clear h hd he b1 hrd hq hbig hL hP
  go_wp2_with fail
  rw [← hx1]
  clear hx1
  refine (impl_BoundaryConflicts Al cl l _ (HRT.out _ (Below.refl _ _)) hln HSH.out (HM.out _ B1)).mono ?_
  unfold RowsRes
  rw [← HQ.out, ← HLL.out]
  rintro e w2 ⟨v2, rfl, o2, b2⟩
  have O2 := Lib.hid o2
  have T2 := b2
  clear o2 cT
  have cT := HCT.out _ T2
  go_wp2_with fail
  refine (spec_BoundaryConflicts Al cl l _ (HRT.out _ T2) hln HSH.out).mono ?_
  unfold RowsRes
  rw [← HQ.out, ← HLL.out]
  rintro e w3 ⟨v3, rfl, o3, b3⟩
  have O3 := Lib.hid o3
  have O23 := Lib.hid (O2.out.below b3)
  have T3 := T2.trans (b3.mono T2.size)
  clear o3 cT
  have cT := HCT.out _ T3
  go_wp2_with fail
  refine (impl_PrefixPairs Al cl l _ (HRT.out _ T3) hln HSH.out (HM.out _ (HWT.out _ T3))).mono ?_
  unfold RowsRes
  rw [← HQ.out, ← HPP.out]
  rintro e w4 ⟨v4, rfl, o4, b4⟩
  have O4 := Lib.hid o4
  have O24 := Lib.hid (O23.out.below b4)
  have O34 := Lib.hid (O3.out.below b4)
  have T4 := T3.trans (b4.mono T3.size)
  clear o4 cT
  have cT := HCT.out _ T4
  go_wp2_with fail
  refine (spec_PrefixPairs Al cl l _ (HRT.out _ T4) hln HSH.out).mono ?_
  unfold RowsRes
  rw [← HQ.out, ← HPP.out]
  rintro e w5 ⟨v5, rfl, o5, b5⟩
  have O5 := Lib.hid o5
  have O25 := Lib.hid (O24.out.below b5)
  have O35 := Lib.hid (O34.out.below b5)
  have O45 := Lib.hid (O4.out.below b5)
  have T5 := T4.trans (b5.mono T4.size)
  clear o5 cT
  have cT := HCT.out _ T5
  have hqq : (q != q) = false := by cases q <;> rfl
  go_wp2_with fail
  refine (rLists_same _ _ _ _ v2 v3 L _ O25.out O35.out (by omega) HER.out).mono ?_
  rintro e w6 ⟨rfl, b6⟩
  have T6 := T5.trans (b6.mono T5.size)
  have O46 := Lib.hid (O45.out.below b6)
  have O56 := Lib.hid (O5.out.below b6)
  have O26 := Lib.hid (O25.out.below b6)
  go_wp2_with fail
  refine (rLists_same _ _ _ _ v4 v5 P _ O46.out O56.out (by omega) HDR.out).mono ?_
  rintro e w7 ⟨rfl, b7⟩
  have T7 := T6.trans (b7.mono T6.size)
  obtain ⟨AL, cL, hvL, hcL, hRL⟩ := ownSS_reads (O26.out.below b7)
  obtain ⟨AG, cG, hvG, hcG, hRG⟩ := ownSS_reads (O46.out.below b7)
  subst hvL hvG
  have HRL := Lib.hid hRL
  have HRG := Lib.hid hRG
  clear hRL hRG cT hqq O2 O3 O4 O5 O23 O24 O34 O25 O35 O45 O46 O56 O26 b2 b3 b4 b5 b6 b7
  have cT := HCT.out _ T7
  have HT7 := Lib.hid (show ∀ W', Below w7.heap.size w7 W' → Below x1.heap.size x1 W' from fun W' hb => T7.trans (hb.mono T7.size))
  go_wp2_with fail
  refine (impl_IsUniquelyReadable Al cl l _ (HRT.out _ T7) hln HSH.out (HM.out _ (HWT.out _ T7))).mono ?_
  obtain ⟨u, hu⟩ : ∃ u, u = uniqB l := ⟨_, rfl⟩
  rw [← HQ.out, ← hu]
  have HU := Lib.hid hu
  clear hu
  rintro e w8 ⟨rfl, b8, hres⟩
  have HRES := Lib.hid hres
  have T8 := T7.trans (b8.mono T7.size)
  have HT8 := Lib.hid (show ∀ W', Below w8.heap.size w8 W' → Below x1.heap.size x1 W' from fun W' hb => T8.trans (hb.mono T8.size))
  have HX18 := Lib.hid T8.size
  have HW78 := Lib.hid b8.size
  have HP18 := Lib.hid (Nat.lt_of_lt_of_le hx1s T8.size)
  have HB78 := Lib.hid (show ∀ W', Below w8.heap.size w8 W' → Below w7.heap.size w7 W' from fun W' hb => b8.trans (hb.mono b8.size))
  clear hres b8 cT T7 T8 HT7
  cases q with
  | false =>
    have hl0 : L = [] := by rw [HLL.out, bndD_no HQ.out.symm]
    have i9 : ¬ ((0 : Int) < (L.length : Int)) := by rw [hl0]; decide
    clear hl0
    go_wp2
    go_loopw [14] (fun i wr => i = .int .i64 0 ∧ Below w8.heap.size w8 wr) (fun _ _ => 0)
    case atStart => exact ⟨rfl, Below.refl _ _⟩
    case round =>
      obtain ⟨rfl, hb⟩ := hrel
      have BF := HWT.out _ (HT8.out _ hb)
      go_wp2
      go_ret
      exact ⟨rfl, BF⟩
  | true =>
    by_cases hP : P.length = 0
    · obtain rfl : u = true := by rw [HU.out]; exact pairs_uniq HQ.out.symm (HRES.out rfl) (by rw [← HPP.out]; exact List.eq_nil_of_length_eq_zero hP)
      have g1 : ((P.length : Int) == 0) = true := by rw [hP]; rfl
      have hl0 : L.length = 0 := by
        cases hc : L with
        | nil => rfl
        | cons r L' =>
          have h1 := bnd_ambig (HRES.out rfl) (show r ∈ bndD l by rw [← HLL.out, hc]; simp)
          rw [← HU.out] at h1
          cases h1
      have i9 : ¬ ((0 : Int) < (L.length : Int)) := by omega
      have i8 : ¬ ((L.length : Int) > 0) := by omega
      clear hP hl0
      go_wp2
      go_loopw [14] (fun i wr => i = .int .i64 0 ∧ Below w8.heap.size w8 wr) (fun _ _ => 0)
      case atStart => exact ⟨rfl, Below.refl _ _⟩
      case round =>
        obtain ⟨rfl, hb⟩ := hrel
        have BF := HWT.out _ (HT8.out _ hb)
        go_wp2
        go_ret
        exact ⟨rfl, BF⟩
    · have g1 : ((P.length : Int) == 0) = false := by rw [beq_eq_false_iff_ne]; omega
      clear hP
      by_cases hL0 : L.length = 0
      · have i9 : ¬ ((0 : Int) < (L.length : Int)) := by omega
        have i8 : ¬ ((L.length : Int) > 0) := by omega
        clear hL0
        cases u with
        | true =>
          go_wp2
          go_loopw [14] (fun i wr => i = .int .i64 0 ∧ Below w8.heap.size w8 wr) (fun _ _ => 0)
          case atStart => exact ⟨rfl, Below.refl _ _⟩
          case round =>
            obtain ⟨rfl, hb⟩ := hrel
            have BF := HWT.out _ (HT8.out _ hb)
            go_wp2
            go_ret
            exact ⟨rfl, BF⟩
        | false =>
          go_wp2
          go_loopw [14] (fun i wr => i = .int .i64 0 ∧ Below w8.heap.size w8 wr) (fun _ _ => 0)
          case atStart => exact ⟨rfl, Below.refl _ _⟩
          case round =>
            obtain ⟨rfl, hb⟩ := hrel
            have BF := HWT.out _ (HT8.out _ hb)
            go_wp2
            go_ret
            exact ⟨rfl, BF⟩
      · obtain rfl : u = false := by
          cases hc : L with
          | nil => rw [hc] at hL0; exact absurd rfl hL0
          | cons r L' =>
            rw [HU.out]
            exact bnd_ambig (HRES.out rfl) (show r ∈ bndD l by rw [← HLL.out, hc]; simp)
        have i8 : (L.length : Int) > 0 := by omega
        clear hL0
        go_wp2
        go_loopw [14] (fun i wr => ∃ k : Nat, k ≤ L.length ∧ i = .int .i64 k ∧ Below w8.heap.size w8 wr) (fun i _ => L.length - (intOf i).toNat)
        case atStart => exact ⟨0, Nat.zero_le _, rfl, Below.refl _ _⟩
        case round =>
          obtain ⟨k, hk, rfl, hb⟩ := hrel
          by_cases hlt : k < L.length
          · obtain ⟨r, hr⟩ := some_at L hlt
            obtain ⟨hvd, i, j, m, c, rfl, hcm, hst, hc2, hc9⟩ := HROW.out r (List.mem_of_getElem? hr)
            obtain ⟨bL, oL, aR, cR, hAL, hbL, cL1, rdR⟩ := HRL.out wr (HB78.out _ hb) k _ hr
            subst hAL
            obtain ⟨bR, oR, hAR, hbR, hcR⟩ := rdR.2 (by simp)
            subst hAR
            have cR2 : wr.cell? ⟨bR, oR + 2, none⟩ = some (.int .i64 (m : Int)) := hcR 2 _ (by simp [ints])
            obtain ⟨o1, t1⟩ := c
            simp only at hst hc2 hc9
            have hol := dict_out hvd hcm
            simp only at hol
            have hml := (List.getElem?_eq_some_iff.1 hcm).1
            obtain ⟨bD, oD, hAD, hbD, hcD⟩ := (HRX.out _ (HT8.out _ hb)) (by omega)
            subst hAD
            have cT := HCT.out _ (HT8.out _ hb)
            obtain ⟨ai, ci, cD1, -, rI, hci, hcim⟩ := DictR.at_ hcD hcm
            have k0 : (0 : Int) ≤ (k : Int) := by omega
            have k1 : (k : Int) < (L.length : Int) := by omega
            have i0 : (0 : Int) ≤ (m : Int) := by omega
            have i1 : (m : Int) < (l.length : Int) := by omega
            have S0 : wr.drew.cell? ⟨w1.heap.size, 0, none⟩ = some (.slice (some ⟨bD, oD, none⟩) l.length cl) ∧ wr.drew.cell? ⟨bL, oL + k, none⟩ = some (.slice (some ⟨bR, oR, none⟩) [(i : Int), (j : Int), (m : Int)].length cR) ∧ wr.drew.cell? ⟨bR, oR + 2, none⟩ = some (.int .i64 (m : Int)) ∧ wr.drew.cell? ⟨bD, oD + m * 2, none⟩ = some (.slice ai o1.length ci) := ⟨cT, cL1, cR2, cD1⟩
            have hp1 : w1.heap.size < w8.heap.size := HP18.out
            have hp4 : bD < w8.heap.size := Nat.lt_of_lt_of_le hbD HX18.out
            have hp2 : bL < w8.heap.size := Nat.lt_of_lt_of_le hbL HW78.out
            have hp3 : bR < w8.heap.size := Nat.lt_of_lt_of_le hbR HW78.out
            have HKEEP := Lib.hid (show ∀ W', Below w8.heap.size w8 W' → W'.cell? ⟨w1.heap.size, 0, none⟩ = some (.slice (some ⟨bD, oD, none⟩) l.length cl) ∧ W'.cell? ⟨bL, oL + k, none⟩ = some (.slice (some ⟨bR, oR, none⟩) [(i : Int), (j : Int), (m : Int)].length cR) ∧ W'.cell? ⟨bR, oR + 2, none⟩ = some (.int .i64 (m : Int)) ∧ W'.cell? ⟨bD, oD + m * 2, none⟩ = some (.slice ai o1.length ci) from fun W' h' => ⟨((h'.cell (p := ⟨w1.heap.size, 0, none⟩) hp1).trans (hb.cell (p := ⟨w1.heap.size, 0, none⟩) hp1).symm).trans cT, ((h'.cell (p := ⟨bL, oL + k, none⟩) hp2).trans (hb.cell (p := ⟨bL, oL + k, none⟩) hp2).symm).trans cL1, ((h'.cell (p := ⟨bR, oR + 2, none⟩) hp3).trans (hb.cell (p := ⟨bR, oR + 2, none⟩) hp3).symm).trans cR2, ((h'.cell (p := ⟨bD, oD + m * 2, none⟩) hp4).trans (hb.cell (p := ⟨bD, oD + m * 2, none⟩) hp4).symm).trans cD1⟩)
            have SD := hb.drew
            have HDRD := Lib.hid (show DictR wr.drew wr.drew.heap.size (some ⟨bD, oD, none⟩) l from HRT.out _ (HT8.out _ SD))
            have HMD := Lib.hid (HM.out _ (HWT.out _ (HT8.out _ SD)))
            have HZD := Lib.hid (show Reads wr.drew wr.drew.heap.size 1 ai o1.length (ints o1) from Reads.more (show Reads wr x1.heap.size 1 ai o1.length (ints o1) from rI) (HT8.out _ hb).size)
            obtain ⟨hcb, hcv⟩ := count_yesC hvd hst hc9
            obtain ⟨cv, hcv2⟩ : ∃ cv, cv = countV l o1 := ⟨_, rfl⟩
            have n2 : ¬ (cv < 2) := by rw [hcv2, hcv]; omega
            have HCB := Lib.hid hcb
            have HCV := Lib.hid hcv2
            clear hr hcm hcR hcD rdR cT cL1 cR2 cD1 rI hvd hst hc2 hc9 hcb hcv hcv2
            go_wp2
            first | refine wp_region_noPanic ?_ | skip
            refine wp_region_held_drew (S := fun w' => w'.cell? ⟨w1.heap.size, 0, none⟩ = some (.slice (some ⟨bD, oD, none⟩) l.length cl) ∧ w'.cell? ⟨bL, oL + k, none⟩ = some (.slice (some ⟨bR, oR, none⟩) [(i : Int), (j : Int), (m : Int)].length cR) ∧ w'.cell? ⟨bR, oR + 2, none⟩ = some (.int .i64 (m : Int)) ∧ w'.cell? ⟨bD, oD + m * 2, none⟩ = some (.slice ai o1.length ci)) (by kernel_rfl) (by exact S0) (fun hHeld => ?_)
            (refine wpAnyH_take (i := 0) (v := ?_) rfl (by kernel_rfl) (by kernel_rfl) (by kernel_rfl) (fun _ _ _ h => h) (Or.inl ⟨by rfl, ?_⟩) (by assumption) ?_; rotate_left; focus (intro w hSw; (try dsimp only at hSw); go_simp; try with_reducible rfl))
            (try simp only [List.getElem_toArray, List.getElem_cons_succ, List.getElem_cons_zero, Act.put, List.setIfInBounds_toArray, List.set_cons_zero, List.set_cons_succ])
            (refine wpAnyH_take (i := 1) (v := ?_) rfl (by kernel_rfl) (by kernel_rfl) (by kernel_rfl) (fun _ _ _ h => h) (Or.inl ⟨by rfl, ?_⟩) (by assumption) ?_; rotate_left; focus (intro w hSw; (try dsimp only at hSw); go_simp; try with_reducible rfl))
            (try simp only [List.getElem_toArray, List.getElem_cons_succ, List.getElem_cons_zero, Act.put, List.setIfInBounds_toArray, List.set_cons_zero, List.set_cons_succ])
            (refine wpAnyH_take (i := 2) (v := ?_) rfl (by kernel_rfl) (by kernel_rfl) (by kernel_rfl) (fun _ _ _ h => h) (Or.inl ⟨by rfl, ?_⟩) (by assumption) ?_; rotate_left; focus (intro w hSw; (try dsimp only at hSw); go_simp; try with_reducible rfl))
            (try simp only [List.getElem_toArray, List.getElem_cons_succ, List.getElem_cons_zero, Act.put, List.setIfInBounds_toArray, List.set_cons_zero, List.set_cons_succ])
            (refine wpAnyH_take (i := 3) (v := ?_) rfl (by kernel_rfl) (by kernel_rfl) (by kernel_rfl) (fun _ _ _ h => h) (Or.inl ⟨by rfl, ?_⟩) (by assumption) ?_; rotate_left; focus (intro w hSw; (try dsimp only at hSw); go_simp; try with_reducible rfl))
            (try simp only [List.getElem_toArray, List.getElem_cons_succ, List.getElem_cons_zero, Act.put, List.setIfInBounds_toArray, List.set_cons_zero, List.set_cons_succ])
            (refine wpAnyH_take (i := 4) (v := ?_) rfl (by kernel_rfl) (by kernel_rfl) (by kernel_rfl) (fun _ _ _ h => h) (Or.inl ⟨by rfl, ?_⟩) (by assumption) ?_; rotate_left; focus (intro w hSw; (try dsimp only at hSw); go_simp; try with_reducible rfl))
            (try simp only [List.getElem_toArray, List.getElem_cons_succ, List.getElem_cons_zero, Act.put, List.setIfInBounds_toArray, List.set_cons_zero, List.set_cons_succ])
            (refine wpAnyH_take (i := 5) (v := ?_) rfl (by kernel_rfl) (by kernel_rfl) (by kernel_rfl) (fun _ _ _ h => h) (Or.inl ⟨by rfl, ?_⟩) (by assumption) ?_; rotate_left; focus (intro w hSw; (try dsimp only at hSw); go_simp; try with_reducible rfl))
            (try simp only [List.getElem_toArray, List.getElem_cons_succ, List.getElem_cons_zero, Act.put, List.setIfInBounds_toArray, List.set_cons_zero, List.set_cons_succ])
            (refine wpAnyH_take (i := 6) (v := ?_) rfl (by kernel_rfl) (by kernel_rfl) (by kernel_rfl) (fun _ _ _ h => h) (Or.inl ⟨by rfl, ?_⟩) (by assumption) ?_; rotate_left; focus (intro w hSw; (try dsimp only at hSw); go_simp; try with_reducible rfl))
            (try simp only [List.getElem_toArray, List.getElem_cons_succ, List.getElem_cons_zero, Act.put, List.setIfInBounds_toArray, List.set_cons_zero, List.set_cons_succ])
            (refine wpAnyH_take (i := 7) (v := ?_) rfl (by kernel_rfl) (by kernel_rfl) (by kernel_rfl) (fun _ _ _ h => h) (Or.inl ⟨by rfl, ?_⟩) (by assumption) ?_; rotate_left; focus (intro w hSw; (try dsimp only at hSw); go_simp; try with_reducible rfl))
            (try simp only [List.getElem_toArray, List.getElem_cons_succ, List.getElem_cons_zero, Act.put, List.setIfInBounds_toArray, List.set_cons_zero, List.set_cons_succ])
            (refine wpAnyH_take (i := 8) (v := ?_) rfl (by kernel_rfl) (by kernel_rfl) (by kernel_rfl) (fun _ _ _ h => h) (Or.inl ⟨by rfl, ?_⟩) (by assumption) ?_; rotate_left; focus (intro w hSw; (try dsimp only at hSw); go_simp; try with_reducible rfl))
            (try simp only [List.getElem_toArray, List.getElem_cons_succ, List.getElem_cons_zero, Act.put, List.setIfInBounds_toArray, List.set_cons_zero, List.set_cons_succ])
            (refine wpAnyH_take (i := 9) (v := ?_) rfl (by kernel_rfl) (by kernel_rfl) (by kernel_rfl) (fun _ _ _ h => h) (Or.inl ⟨by rfl, ?_⟩) (by assumption) ?_; rotate_left; focus (intro w hSw; (try dsimp only at hSw); go_simp; try with_reducible rfl))
            (try simp only [List.getElem_toArray, List.getElem_cons_succ, List.getElem_cons_zero, Act.put, List.setIfInBounds_toArray, List.set_cons_zero, List.set_cons_succ])
            (refine wpAnyH_take (i := 10) (v := ?_) rfl (by kernel_rfl) (by kernel_rfl) (by kernel_rfl) (fun _ _ _ h => h) (Or.inl ⟨by rfl, ?_⟩) (by assumption) ?_; rotate_left; focus (intro w hSw; (try dsimp only at hSw); go_simp; try with_reducible rfl))
            (try simp only [List.getElem_toArray, List.getElem_cons_succ, List.getElem_cons_zero, Act.put, List.setIfInBounds_toArray, List.set_cons_zero, List.set_cons_succ])
            (refine wpAnyH_take (i := 11) (v := ?_) rfl (by kernel_rfl) (by kernel_rfl) (by kernel_rfl) (fun _ _ _ h => h) (Or.inl ⟨by rfl, ?_⟩) (by assumption) ?_; rotate_left; focus (intro w hSw; (try dsimp only at hSw); go_simp; try with_reducible rfl))
            (try simp only [List.getElem_toArray, List.getElem_cons_succ, List.getElem_cons_zero, Act.put, List.setIfInBounds_toArray, List.set_cons_zero, List.set_cons_succ])
            refine wpAnyH_ready (rs := [12]) (by kernel_rfl) (by simp) ?_
            refine AllReadyH.cons rfl (fun K hK => ?_) AllReadyH.nil
            go_simp
            refine (impl_CountReadings (some ⟨bD, oD, none⟩) ai cl ci l o1 _ HDRD.out hln HSH.out HMD.out HZD.out (by omega) hci hcim).mono ?_
            unfold CountRes
            rw [HCB.out, ← HCV.out]
            rintro e w9 ⟨rfl, b9⟩
            refine hK.out _ _ (HKEEP.out w9 (SD.trans (b9.mono SD.size))) (fun hHeld => ?_)
            clear hK K
            (try simp only [List.getElem_toArray, List.getElem_cons_succ, List.getElem_cons_zero, Act.put, List.setIfInBounds_toArray, List.set_cons_zero, List.set_cons_succ])
            (refine wpAnyH_take (i := 13) (v := ?_) rfl (by kernel_rfl) (by kernel_rfl) (by kernel_rfl) (fun _ _ _ h => h) (Or.inl ⟨by rfl, ?_⟩) (by assumption) ?_; rotate_left; focus (intro w hSw; (try dsimp only at hSw); go_simp; try with_reducible rfl))
            (try simp only [List.getElem_toArray, List.getElem_cons_succ, List.getElem_cons_zero, Act.put, List.setIfInBounds_toArray, List.set_cons_zero, List.set_cons_succ])
            (refine wpAnyH_take (i := 14) (v := ?_) rfl (by kernel_rfl) (by kernel_rfl) (by kernel_rfl) (fun _ _ _ h => h) (Or.inl ⟨by rfl, ?_⟩) (by assumption) ?_; rotate_left; focus (intro w hSw; (try dsimp only at hSw); go_simp; try with_reducible rfl))
            (try simp only [List.getElem_toArray, List.getElem_cons_succ, List.getElem_cons_zero, Act.put, List.setIfInBounds_toArray, List.set_cons_zero, List.set_cons_succ])
            (refine wpAnyH_take (i := 15) (v := ?_) rfl (by kernel_rfl) (by kernel_rfl) (by kernel_rfl) (fun _ _ _ h => h) (Or.inl ⟨by rfl, ?_⟩) (by assumption) ?_; rotate_left; focus (intro w hSw; (try dsimp only at hSw); go_simp; try with_reducible rfl))
            (try simp only [List.getElem_toArray, List.getElem_cons_succ, List.getElem_cons_zero, Act.put, List.setIfInBounds_toArray, List.set_cons_zero, List.set_cons_succ])
            (refine wpAnyH_take (i := 16) (v := ?_) rfl (by kernel_rfl) (by kernel_rfl) (by kernel_rfl) (fun _ _ _ h => h) (Or.inl ⟨by rfl, ?_⟩) (by assumption) ?_; rotate_left; focus (intro w hSw; (try dsimp only at hSw); go_simp; try with_reducible rfl))
            (try simp only [List.getElem_toArray, List.getElem_cons_succ, List.getElem_cons_zero, Act.put, List.setIfInBounds_toArray, List.set_cons_zero, List.set_cons_succ])
            (refine wpAnyH_take (i := 17) (v := ?_) rfl (by kernel_rfl) (by kernel_rfl) (by kernel_rfl) (fun _ _ _ h => h) (Or.inl ⟨by rfl, ?_⟩) (by assumption) ?_; rotate_left; focus (intro w hSw; (try dsimp only at hSw); go_simp; try with_reducible rfl))
            (try simp only [List.getElem_toArray, List.getElem_cons_succ, List.getElem_cons_zero, Act.put, List.setIfInBounds_toArray, List.set_cons_zero, List.set_cons_succ])
            refine wpAnyH_done (by kernel_rfl) ?_ _
            first | refine NoPanic.normal ?_ | skip
            clear hHeld S0
            have BF := SD.trans (b9.mono SD.size)
            go_wp2
            go_roundw
            case rel => exact ⟨k + 1, hlt, by go_num, BF⟩
            case measure => simp [intOf]; omega
          · obtain rfl : k = L.length := by omega
            have BF := HWT.out _ (HT8.out _ hb)
            go_wp2
            go_ret
            exact ⟨rfl, BF⟩
end Go.Proofs.YtekidodfcanjaaaGreatDoor
