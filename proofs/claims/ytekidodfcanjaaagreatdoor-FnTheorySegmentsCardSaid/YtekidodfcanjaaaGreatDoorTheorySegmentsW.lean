/-
  The law FnTheorySegments returns true for every code: its walk over the contracts.
-/
import Derived.Test.YtekidodfcanjaaaGreatDoorTheoryPl
import Derived.Test.YtekidodfcanjaaaGreatDoorErrS
import Derived.Test.YtekidodfcanjaaaGreatDoorErrI
import Derived.Test.YtekidodfcanjaaaGreatDoorDupS
import Derived.Test.YtekidodfcanjaaaGreatDoorDupI
import Derived.Test.YtekidodfcanjaaaGreatDoorSegI
import Derived.Test.YtekidodfcanjaaaGreatDoorAtI
import Derived.Test.YtekidodfcanjaaaGreatDoorPutS
import Derived.Test.YtekidodfcanjaaaGreatDoorRText
import Derived.Test.YtekidodfcanjaaaGreatDoorStrokes
import Derived.Test.YtekidodfcanjaaaGreatDoorIns
namespace Go.Proofs.YtekidodfcanjaaaGreatDoor
open Go.RowKit
set_option linter.unusedVariables false
set_option linter.unusedSimpArgs false
set_option maxRecDepth 100000

theorem good_app (x y : List Int) : goodB (x ++ y) = (goodB x && goodB y) := by simp [goodB, List.all_append]
theorem outs_strokes {l : List EntD} (h : dictB l = true) {i k : Nat} {a b : EntD} (ha : l[i]? = some a) (hb : l[k]? = some b) : strokesB (a.1 ++ b.1) = true := by
  have h1 := (ent_parts (dict_ent h ha)).1
  have h2 := (ent_parts (dict_ent h hb)).1
  have h3 := (out_len h1).2
  have h4 := (out_len h2).2
  simp only [outB, Bool.and_eq_true] at h1 h2
  unfold strokesB
  rw [good_app, h1.2, h2.2]
  simp
  omega
set_option maxHeartbeats 1000000 in
theorem impl_Segment (A B : Option Addr) (cap cb : Nat) (l : List EntD) (zs : List Int) (w : World) (hr : DictR w w.heap.size A l) (hn : l.length ≤ 1048576) (hs : ShortD l) (hmx : MaxOk w) (hv : dictB l = true) (hz : Reads w w.heap.size 1 B zs.length (ints zs)) (hzs : strokesB zs = true) (hzn : zs.length ≤ 1048576) (hcb : zs.length ≤ cb) (hcm : cb ≤ maxLen) :
    Calls Tryz.prog 40 #[.agg #[.slice A l.length cap], .slice B zs.length cb] w fun e w' => ∃ v, e = .returned (.tuple #[v, .bool true]) ∧ Own w' w.heap.size w'.heap.size 62 3 v (segD l zs).length (piecesV (segD l zs)) ∧ Below w.heap.size w w' := by
  obtain ⟨W1, hW1⟩ : ∃ W1, W1 = w.alloc (.cells #[.slice A l.length cap] 31) := ⟨_, rfl⟩
  have hb1 : Below w.heap.size w W1 := by rw [hW1]; exact (Below.refl _ _).alloc (Nat.le_refl _) _
  have bP : Box W1 w.heap.size 31 (.slice A l.length cap) := by rw [hW1]; exact Box.new w _ _
  have HM := Lib.hid (impl_isMatched A B cap cb l zs W1 ((hr.below hb1).more hb1.size) hn hs (hmx.below hb1) ((hz.below hb1).more hb1.size) hzn)
  have HR := Lib.hid (fun (W' : World) (hb : Below w.heap.size w W') => (hr.below hb).more hb.size)
  have HZ := Lib.hid (fun (W' : World) (hb : Below w.heap.size w W') => (hz.below hb).more hb.size)
  have HV := Lib.hid hv
  have HZS := Lib.hid hzs
  clear hr hs hmx hv hz hzs
  go_enter Tryz.func40, Tryz.ntmps40
  go_wp2_with fail
  rw [← hW1]
  clear hW1
  refine HM.out.mono ?_
  rw [HV.out, HZS.out]
  rintro e w2 ⟨rfl, b2⟩
  have bP2 := bP.far b2
  have B2 := hb1.trans (b2.mono hb1.size)
  have cP2 := bP2.cell
  clear HM bP
  go_wp2_with fail
  refine (impl_segment A B cap cb l zs _ (HR.out _ B2) HV.out (HZ.out _ B2) hzn hcb hcm).mono ?_
  rintro e w3 ⟨v, rfl, o3, b3⟩
  have O3 := Lib.hid (Own.of_row (o3.1.base (lo' := w.heap.size) B2.size))
  have B3 := B2.trans (b3.mono B2.size)
  clear o3
  go_wp2
  go_ret2
  exact ⟨v, rfl, O3.out, B3⟩

theorem cells_int (xs : List Int) : ∀ u ∈ ints xs, u.oneCell' = true := fun u hu => by obtain ⟨z, _, rfl⟩ := List.mem_map.1 hu; rfl
/-- Rows of ints that can be read at any later time. -/
theorem ownSS_reads {w : World} {lo hi : Nat} {v : Value} {rows : List (List Int)} (h : OwnSS w lo hi v rows) : ∃ A cap, v = .slice A rows.length cap ∧ rows.length ≤ cap ∧ ∀ W', Below w.heap.size w W' → ∀ (k : Nat) r, rows[k]? = some r → ∃ (b off : Nat) (a : Option Addr) (c : Nat), A = some ⟨b, off, none⟩ ∧ W'.cell? ⟨b, off + k, none⟩ = some (.slice a r.length c) ∧ Reads W' W'.heap.size 1 a r.length (ints r) := by
  obtain ⟨vs, h1, h2, h3⟩ := h
  obtain ⟨A, cap, rfl, hr, hn, hm⟩ := h1.slice
  refine ⟨A, cap, rfl, hn, fun W' hb k r hk => ?_⟩
  have hkl := (List.getElem?_eq_some_iff.1 hk).1
  obtain ⟨b, off, hA, hbl, hc⟩ := hr.2 (by omega)
  obtain ⟨u, hu, ru⟩ := h2.at_ hk
  obtain ⟨a, c, rfl, rd, -, -⟩ := (Own.of_row ru).slice
  exact ⟨b, off, a, c, hA, (hb.cell (p := ⟨b, off + k, none⟩) hbl).trans (hc k _ hu), (rd.below hb).more hb.size⟩
theorem errD_short {l : List EntD} : ∀ r ∈ errD l, r.length ≤ 1048576 := by
  intro r hr
  obtain ⟨-, i, k, a, b, rfl, -⟩ := errD_what hr
  simp
theorem dupD_short {l : List EntD} (hl : l.length ≤ 1000) : ∀ r ∈ dupD l, r.length ≤ 1048576 := by
  intro r hr
  unfold dupD at hr
  split at hr
  · obtain ⟨t, e, -⟩ := dupT_text l _ r hr
    rw [e]
    have := dupG_len l t l.length
    omega
  · cases hr

set_option maxHeartbeats 16000000 in
theorem law_TheorySegments (A : Option Addr) (n cap : Nat) (zs : List Int) (W : World) (h : Ints .u8 W A n cap zs) (hm : MaxOk W) :
    Calls Tryz.prog 7 #[.slice A n cap] W fun e W' => e = .returned (.bool true) ∧ Below W.heap.size W W' := by
  have HM := Lib.hid (show ∀ W', Below W.heap.size W W' → MaxOk W' from fun W' hb => hm.below hb)
  clear hm
  by_cases hbig : 65536 < n
  · go_enter Tryz.func7, Tryz.ntmps7
    go_wp2_with fail
    refine (rBigT_calls A n cap _).mono ?_
    rw [show decide (65536 < n) = true by simp [hbig]]
    rintro e w1 ⟨rfl, rfl⟩
    go_wp2
    go_ret
    exact ⟨rfl, Below.refl _ _⟩
  go_enter Tryz.func7, Tryz.ntmps7
  go_wp2_with fail
  refine (rBigT_calls A n cap _).mono ?_
  rw [show decide (65536 < n) = false by simp [hbig]]
  rintro e w0 ⟨rfl, rfl⟩
  go_wp2_with fail
  refine (drawSegmentationErrors_calls A n cap zs _ h).mono ?_
  rintro e w1 ⟨v, l, rfl, hd, he, b1⟩
  obtain ⟨Al, cl, rfl, hrd, -, -⟩ := hd.slice
  have HSH := Lib.hid (he.short (by omega))
  have hl41 := he.1
  have hln : l.length ≤ 1048576 := by omega
  obtain ⟨x1, hx1⟩ : ∃ x1, x1 = w1.alloc (.cells #[.slice Al l.length cl] 31) := ⟨_, rfl⟩
  have B1 : Below W.heap.size W x1 := by rw [hx1]; exact b1.alloc b1.size _
  have HRT := Lib.hid (show ∀ W', Below x1.heap.size x1 W' → DictR W' W'.heap.size Al l from fun W' hb => by
    rw [hx1] at hb
    exact ((((hrd.alloc (Nat.le_refl _) _).more (by simp)).below hb).more hb.size))
  have HCT := Lib.hid (show ∀ W', Below x1.heap.size x1 W' → W'.cell? ⟨w1.heap.size, 0, none⟩ = some (.slice Al l.length cl) from fun W' hb => by
    rw [hx1] at hb
    exact ((Box.new w1 31 (.slice Al l.length cl)).far hb).cell)
  have HWT := Lib.hid (show ∀ W', Below x1.heap.size x1 W' → Below W.heap.size W W' from fun W' hb => B1.trans (hb.mono B1.size))
  have cT := HCT.out _ (Below.refl _ _)
  obtain ⟨q, hq⟩ : ∃ q, q = dictB l := ⟨_, rfl⟩
  have HQ := Lib.hid hq
  have HER := Lib.hid (errD_short (l := l))
  have HDR := Lib.hid (dupD_short (l := l) (by omega))
  have hel := errD_len l
  have hdl := dupD_len l
  clear h hd he b1 hrd hq hbig
  go_wp2_with fail
  rw [← hx1]
  clear hx1
  refine (impl_SegmentationErrors Al cl l _ (HRT.out _ (Below.refl _ _)) hln HSH.out (HM.out _ B1)).mono ?_
  unfold RowsRes
  rw [← HQ.out]
  rintro e w2 ⟨v2, rfl, o2, b2⟩
  have O2 := Lib.hid o2
  have T2 := b2
  clear o2 cT
  have cT := HCT.out _ T2
  go_wp2_with fail
  refine (spec_SegmentationErrors Al cl l _ (HRT.out _ T2) hln HSH.out).mono ?_
  unfold RowsRes
  rw [← HQ.out]
  rintro e w3 ⟨v3, rfl, o3, b3⟩
  have O3 := Lib.hid o3
  have O23 := Lib.hid (O2.out.below b3)
  have T3 := T2.trans (b3.mono T2.size)
  clear o3 cT
  have cT := HCT.out _ T3
  go_wp2_with fail
  refine (impl_DuplicateTexts Al cl l _ (HRT.out _ T3) hln HSH.out (HM.out _ (HWT.out _ T3))).mono ?_
  unfold RowsRes
  rw [← HQ.out]
  rintro e w4 ⟨v4, rfl, o4, b4⟩
  have O4 := Lib.hid o4
  have O24 := Lib.hid (O23.out.below b4)
  have O34 := Lib.hid (O3.out.below b4)
  have T4 := T3.trans (b4.mono T3.size)
  clear o4 cT
  have cT := HCT.out _ T4
  go_wp2_with fail
  refine (spec_DuplicateTexts Al cl l _ (HRT.out _ T4) hln HSH.out).mono ?_
  unfold RowsRes
  rw [← HQ.out]
  rintro e w5 ⟨v5, rfl, o5, b5⟩
  have O5 := Lib.hid o5
  have O25 := Lib.hid (O24.out.below b5)
  have O35 := Lib.hid (O34.out.below b5)
  have O45 := Lib.hid (O4.out.below b5)
  have T5 := T4.trans (b5.mono T4.size)
  clear o5 cT
  have cT := HCT.out _ T5
  have hqq : (q != q) = false := by cases q <;> rfl
  go_wp2_with fail
  refine (rLists_same _ _ _ _ v2 v3 (errD l) _ O25.out O35.out (by omega) HER.out).mono ?_
  rintro e w6 ⟨rfl, b6⟩
  have T6 := T5.trans (b6.mono T5.size)
  have O46 := Lib.hid (O45.out.below b6)
  have O56 := Lib.hid (O5.out.below b6)
  have O26 := Lib.hid (O25.out.below b6)
  go_wp2_with fail
  refine (rLists_same _ _ _ _ v4 v5 (dupD l) _ O46.out O56.out (by omega) HDR.out).mono ?_
  rintro e w7 ⟨rfl, b7⟩
  have T7 := T6.trans (b7.mono T6.size)
  obtain ⟨AL, cL, hvL, hcL, hRL⟩ := ownSS_reads (O26.out.below b7)
  obtain ⟨AG, cG, hvG, hcG, hRG⟩ := ownSS_reads (O46.out.below b7)
  subst hvL hvG
  have HRL := Lib.hid hRL
  have HRG := Lib.hid hRG
  clear hRL hRG cT hqq O2 O3 O4 O5 O23 O24 O34 O25 O35 O45 O46 O56 O26 b2 b3 b4 b5 b6 b7
  have HT7 := Lib.hid (show ∀ W', Below w7.heap.size w7 W' → Below x1.heap.size x1 W' from fun W' hb => T7.trans (hb.mono T7.size))
  go_wp2
  go_loopw [12] (fun i wr => ∃ k : Nat, k ≤ (errD l).length ∧ i = .int .i64 k ∧ Below w7.heap.size w7 wr) (fun i _ => (errD l).length - (intOf i).toNat)
  case atStart => exact ⟨0, Nat.zero_le _, rfl, Below.refl _ _⟩
  case round =>
    obtain ⟨k, hk, rfl, hb⟩ := hrel
    have cT := HCT.out _ (HT7.out _ hb)
    by_cases hlt : k < (errD l).length
    · obtain ⟨r, hr⟩ := some_at (errD l) hlt
      obtain ⟨hvd, i, m, a, b, rfl, hi, hm2, hai, hbm, hbad⟩ := errD_what (List.mem_of_getElem? hr)
      obtain ⟨bL, oL, aR, cR, hAL, cL1, rdR⟩ := HRL.out wr hb k _ hr
      subst hAL
      obtain ⟨bR, oR, hAR, -, hcR⟩ := rdR.2 (by simp)
      subst hAR
      have cR0 : wr.cell? ⟨bR, oR, none⟩ = some (.int .i64 (i : Int)) := hcR 0 _ (by simp [ints])
      have cR1 : wr.cell? ⟨bR, oR + 1, none⟩ = some (.int .i64 (m : Int)) := hcR 1 _ (by simp [ints])
      obtain ⟨bD, oD, hAD, -, hcD⟩ := (HRT.out _ (HT7.out _ hb)) (by omega)
      subst hAD
      obtain ⟨oi, ti⟩ := a
      obtain ⟨om, tm⟩ := b
      obtain ⟨ai, ci, cD1, -, rI, -, -⟩ := DictR.at_ hcD hai
      obtain ⟨am, cm, cD2, -, rM, -, -⟩ := DictR.at_ hcD hbm
      have hlen2 := dict_out hvd hai
      have hlen3 := dict_out hvd hbm
      have HST := Lib.hid (outs_strokes hvd hai hbm)
      have HBAD := Lib.hid (segBad_not hbad)
      have HVD := Lib.hid hvd
      have HRI := Lib.hid (show ∀ W', Below wr.heap.size wr W' → Reads W' W'.heap.size 1 ai oi.length (ints oi) from fun W' hb' => (rI.below hb').more hb'.size)
      have HRM := Lib.hid (show ∀ W', Below wr.heap.size wr W' → Reads W' W'.heap.size 1 am om.length (ints om) from fun W' hb' => (rM.below hb').more hb'.size)
      simp only at hlen2 hlen3
      simp only [List.length_cons, List.length_nil] at cL1
      have k0 : (0 : Int) ≤ (k : Int) := by omega
      have k1 : (k : Int) < ((errD l).length : Int) := by omega
      have i0 : (0 : Int) ≤ (i : Int) := by omega
      have i1 : (i : Int) < (l.length : Int) := by omega
      have m0 : (0 : Int) ≤ (m : Int) := by omega
      have m1 : (m : Int) < (l.length : Int) := by omega
      clear hr hcR hcD hai hbm hbad rdR rI rM hvd
      go_wp2
      go_quiet (fail)
      obtain ⟨nq1, hnq⟩ : ∃ nq1, nq1 = nq := ⟨_, rfl⟩
      subst hnq
      go_wp2
      go_quiet (fail)
      obtain ⟨w8, hw8⟩ : ∃ w8, w8 = (wr.drewN nq1).drewN nq := ⟨_, rfl⟩
      rw [← hw8]
      have b8 : Below wr.heap.size wr w8 := by rw [hw8]; exact below_drewN (below_drewN (Below.refl _ _) _) _
      have B8 := hb.trans (b8.mono hb.size)
      clear hw8 cL1 cR0 cR1 cD1 cD2 cT k0 k1 i0 i1 m0 m1
      have cT8 : w8.drew.cell? ⟨w1.heap.size, 0, none⟩ = some (.slice (some ⟨bD, oD, none⟩) l.length cl) := HCT.out _ (HT7.out _ B8.drew)
      have HMX := Lib.hid (fun (W' : World) (hb' : Below w8.heap.size w8 W') => HM.out W' (HWT.out _ (HT7.out _ (B8.trans (hb'.mono B8.size)))))
      have HRD8 := Lib.hid (fun (W' : World) (hb' : Below w8.heap.size w8 W') => HRT.out W' (HT7.out _ (B8.trans (hb'.mono B8.size))))
      have HCT8 := Lib.hid (fun (W' : World) (hb' : Below w8.heap.size w8 W') => HCT.out W' (HT7.out _ (B8.trans (hb'.mono B8.size))))
      obtain ⟨zz, hzz⟩ : ∃ zz, zz = oi ++ om := ⟨_, rfl⟩
      have hzl : zz.length = oi.length + om.length := by rw [hzz, List.length_append]
      have HZV := Lib.hid (show ints oi ++ ints om = ints zz by rw [hzz]; simp [ints])
      rw [← hzz] at HST HBAD
      have HZL := Lib.hid hzl
      clear hzz hzl
      have SB0 := (Below.refl w8.heap.size w8).drew
      go_wp2
      first | refine wp_region_noPanic ?_ | skip
      refine wp_region_held_drew (S := fun w' => w'.cell? ⟨w1.heap.size, 0, none⟩ = some (.slice (some ⟨bD, oD, none⟩) l.length cl)) (by kernel_rfl) (by exact cT8) (fun hHeld => ?_)
      (refine wpAnyH_take (i := 0) (v := ?_) rfl (by kernel_rfl) (by kernel_rfl) (by kernel_rfl) (fun _ _ _ h => h) (Or.inl ⟨by rfl, ?_⟩) (by assumption) ?_; rotate_left; focus (intro w hSw; (try dsimp only at hSw); go_simp; try with_reducible rfl))
      (try simp only [List.getElem_toArray, List.getElem_cons_succ, List.getElem_cons_zero, Act.put, List.setIfInBounds_toArray, List.set_cons_zero, List.set_cons_succ])
      (refine wpAnyH_take (i := 2) (v := ?_) rfl (by kernel_rfl) (by kernel_rfl) (by kernel_rfl) (fun _ _ _ h => h) (Or.inl ⟨by rfl, ?_⟩) (by assumption) ?_; rotate_left; focus (intro w hSw; (try dsimp only at hSw); go_simp; try with_reducible rfl))
      (try simp only [List.getElem_toArray, List.getElem_cons_succ, List.getElem_cons_zero, Act.put, List.setIfInBounds_toArray, List.set_cons_zero, List.set_cons_succ])
      (refine wpAnyH_take (i := 4) (v := ?_) rfl (by kernel_rfl) (by kernel_rfl) (by kernel_rfl) (fun _ _ _ h => h) (Or.inl ⟨by rfl, ?_⟩) (by assumption) ?_; rotate_left; focus (intro w hSw; (try dsimp only at hSw); go_simp; try with_reducible rfl))
      (try simp only [List.getElem_toArray, List.getElem_cons_succ, List.getElem_cons_zero, Act.put, List.setIfInBounds_toArray, List.set_cons_zero, List.set_cons_succ])
      refine wpAnyH_ready (rs := [1]) (by kernel_rfl) (by simp) ?_
      refine AllReadyH.cons rfl (fun K hK => ?_) AllReadyH.nil
      go_simp
      have own0 : (w8.drew.alloc (.cells #[] 3)).ownsRow w8.heap.size 3 1 (.slice (some ⟨w8.heap.size, 0, none⟩) 0 0) 0 [] := World.ownsRow_made _ _ _ (Nat.le_refl _) (by simp) rfl
      have SA := SB0.alloc (Nat.le_refl _) (.cells #[] 3)
      refine hK.out _ _ (HCT8.out _ SA) (fun hHeld => ?_)
      clear hK K
      (try simp only [List.getElem_toArray, List.getElem_cons_succ, List.getElem_cons_zero, Act.put, List.setIfInBounds_toArray, List.set_cons_zero, List.set_cons_succ])
      refine wpAnyH_ready (rs := [3]) (by kernel_rfl) (by simp) ?_
      refine AllReadyH.cons rfl (fun K hK => ?_) AllReadyH.nil
      refine step_append_src own0 SA.size (HRI.out _ (b8.trans (SA.mono b8.size))) (cells_int oi) (.tmp 93) (.tmp 94) 26 Tryz.underlying26 info_int (by omega) (by unfold maxLen; omega) ⟨rfl, rfl, rfl, rfl, rfl, by decide⟩ (.inl ⟨rfl, rfl⟩) ?_
      intro v9 w9 own9 gr9
      have S9 := SA.grown gr9 SA.size (fun g hg => (own0.lt g hg).1)
      refine hK.out _ _ (HCT8.out _ S9) (fun hHeld => ?_)
      clear hK K
      (try simp only [List.getElem_toArray, List.getElem_cons_succ, List.getElem_cons_zero, Act.put, List.setIfInBounds_toArray, List.set_cons_zero, List.set_cons_succ])
      refine wpAnyH_ready (rs := [5]) (by kernel_rfl) (by simp) ?_
      refine AllReadyH.cons rfl (fun K hK => ?_) AllReadyH.nil
      refine step_append_src own9 S9.size (HRM.out _ (b8.trans (S9.mono b8.size))) (cells_int om) (.tmp 95) (.tmp 96) 26 Tryz.underlying26 info_int (by omega) (by unfold maxLen; omega) ⟨rfl, rfl, rfl, rfl, rfl, by decide⟩ (.inl ⟨rfl, rfl⟩) ?_
      intro v10 w10 own10 gr10
      have S10 := S9.grown gr10 S9.size (fun g hg => (own9.lt g hg).1)
      have own11 : w10.ownsRow w8.heap.size 3 1 v10 zz.length (ints zz) := by
        rw [HZL.out, ← HZV.out]
        have h := own10
        rw [Nat.zero_add, List.nil_append] at h
        exact h
      obtain ⟨A10, k10, hv10, rd10, hk10, hm10⟩ := (Own.of_row own11).slice
      subst hv10
      refine hK.out _ _ (HCT8.out _ S10) (fun hHeld => ?_)
      clear hK K
      (try simp only [List.getElem_toArray, List.getElem_cons_succ, List.getElem_cons_zero, Act.put, List.setIfInBounds_toArray, List.set_cons_zero, List.set_cons_succ])
      refine wpAnyH_ready (rs := [6]) (by kernel_rfl) (by simp) ?_
      refine AllReadyH.cons rfl (fun K hK => ?_) AllReadyH.nil
      go_simp
      refine (impl_Segment (some ⟨bD, oD, none⟩) A10 cl k10 l zz _ (HRD8.out _ S10) hln HSH.out (HMX.out _ S10) HVD.out rd10 HST.out (by rw [HZL.out]; omega) hk10 hm10).mono ?_
      rintro e w11 ⟨v11, rfl, o11, b11⟩
      have S11 := S10.trans (b11.mono S10.size)
      refine hK.out _ _ (HCT8.out _ S11) (fun hHeld => ?_)
      clear hK K
      (try simp only [List.getElem_toArray, List.getElem_cons_succ, List.getElem_cons_zero, Act.put, List.setIfInBounds_toArray, List.set_cons_zero, List.set_cons_succ])
      (refine wpAnyH_take (i := 7) (v := ?_) rfl (by kernel_rfl) (by kernel_rfl) (by kernel_rfl) (fun _ _ _ h => h) (Or.inl ⟨by rfl, ?_⟩) (by assumption) ?_; rotate_left; focus (intro w hSw; (try dsimp only at hSw); go_simp; try with_reducible rfl))
      (try simp only [List.getElem_toArray, List.getElem_cons_succ, List.getElem_cons_zero, Act.put, List.setIfInBounds_toArray, List.set_cons_zero, List.set_cons_succ])
      (refine wpAnyH_take (i := 8) (v := ?_) rfl (by kernel_rfl) (by kernel_rfl) (by kernel_rfl) (fun _ _ _ h => h) (Or.inl ⟨by rfl, ?_⟩) (by assumption) ?_; rotate_left; focus (intro w hSw; (try dsimp only at hSw); go_simp; try with_reducible rfl))
      (try simp only [List.getElem_toArray, List.getElem_cons_succ, List.getElem_cons_zero, Act.put, List.setIfInBounds_toArray, List.set_cons_zero, List.set_cons_succ])
      (refine wpAnyH_take (i := 9) (v := ?_) rfl (by kernel_rfl) (by kernel_rfl) (by kernel_rfl) (fun _ _ _ h => h) (Or.inl ⟨by rfl, ?_⟩) (by assumption) ?_; rotate_left; focus (intro w hSw; (try dsimp only at hSw); go_simp; try with_reducible rfl))
      (try simp only [List.getElem_toArray, List.getElem_cons_succ, List.getElem_cons_zero, Act.put, List.setIfInBounds_toArray, List.set_cons_zero, List.set_cons_succ])
      (refine wpAnyH_take (i := 10) (v := ?_) rfl (by kernel_rfl) (by kernel_rfl) (by kernel_rfl) (fun _ _ _ h => h) (Or.inl ⟨by rfl, ?_⟩) (by assumption) ?_; rotate_left; focus (intro w hSw; (try dsimp only at hSw); go_simp; try with_reducible rfl))
      (try simp only [List.getElem_toArray, List.getElem_cons_succ, List.getElem_cons_zero, Act.put, List.setIfInBounds_toArray, List.set_cons_zero, List.set_cons_succ])
      (refine wpAnyH_take (i := 11) (v := ?_) rfl (by kernel_rfl) (by kernel_rfl) (by kernel_rfl) (fun _ _ _ h => h) (Or.inl ⟨by rfl, ?_⟩) (by assumption) ?_; rotate_left; focus (intro w hSw; (try dsimp only at hSw); go_simp; try with_reducible rfl))
      (try simp only [List.getElem_toArray, List.getElem_cons_succ, List.getElem_cons_zero, Act.put, List.setIfInBounds_toArray, List.set_cons_zero, List.set_cons_succ])
      refine wpAnyH_done (by kernel_rfl) ?_ _
      first | refine NoPanic.normal ?_ | skip
      obtain ⟨A11, k11, hv11, -, -, -⟩ := o11.slice
      subst hv11
      have B11 := B8.trans (S11.mono B8.size)
      obtain ⟨ps, hps⟩ : ∃ ps, ps = segD l zz := ⟨_, rfl⟩
      rw [← hps] at o11 HBAD ⊢
      clear hps hHeld cT8 SB0
      by_cases h2 : ps.length = 2
      · have i2 : ((ps.length : Int) == 2) = true := by simp [h2]
        obtain ⟨g11, k12, hv, -, -, -, -, -, hc11, -⟩ := o11.open_ (by omega)
        injection hv with hv1 _ hv2
        subst hv1 hv2
        obtain ⟨p0, hp0⟩ := some_at ps (show 0 < ps.length by omega)
        have c11 : w11.cell? ⟨g11, 1, none⟩ = some (.int .i64 p0.2.1) := (hc11 1 (by omega)).trans (by have := (piecesV_at hp0).2.1; simpa using this)
        have hne : ((p0.2.1 : Int) == (oi.length : Int)) = false := by
          have := HBAD.out
          have hf : segFst ps = p0.2.1 := by unfold segFst; rw [hp0]
          rw [hf] at this
          simp only [beq_eq_false_iff_ne, ne_eq]
          intro e
          exact this ⟨h2, by omega⟩
        have j0 : (0 : Int) < (ps.length : Int) := by omega
        have h2' := Lib.hid h2
        clear hc11 hp0 h2 o11
        go_wp2
        go_roundw
        case rel => exact ⟨k + 1, hlt, by go_num, B11⟩
        case measure => simp [intOf]; omega
      · have i2 : ((ps.length : Int) == 2) = false := by simp; omega
        have j2 : (ps.length == 2) = false := by simp; omega
        clear o11
        go_wp2
        go_roundw
        case rel => exact ⟨k + 1, hlt, by go_num, B11⟩
        case measure => simp [intOf]; omega
    · obtain rfl : k = (errD l).length := by omega
      have HB0 := Lib.hid hb
      clear cT hb
      go_wp2
      go_loopw [17] (fun i wr => ∃ k : Nat, k ≤ (dupD l).length ∧ i = .int .i64 k ∧ Below w7.heap.size w7 wr) (fun i _ => (dupD l).length - (intOf i).toNat)
      case atStart => exact ⟨0, Nat.zero_le _, rfl, HB0.out⟩
      case round =>
        obtain ⟨k, hk, rfl, hb⟩ := hrel
        by_cases hlt : k < (dupD l).length
        · obtain ⟨r, hr⟩ := some_at (dupD l) hlt
          obtain ⟨hr1, t, htx⟩ := dupD_text (List.mem_of_getElem? hr)
          have HTX := Lib.hid htx
          have HR0 := Lib.hid hr
          have hrl := HDR.out r (List.mem_of_getElem? hr)
          have k0 : (0 : Int) ≤ (k : Int) := by omega
          have k1 : (k : Int) < ((dupD l).length : Int) := by omega
          have HB1 := Lib.hid hb
          clear hr htx hb
          go_wp2
          go_loopw [18] (fun j wr => ∃ m : Nat, 1 ≤ m ∧ m ≤ r.length ∧ j = .int .i64 m ∧ Below w7.heap.size w7 wr) (fun j _ => r.length - (intOf j).toNat)
          case atStart => exact ⟨1, Nat.le_refl _, by omega, rfl, HB1.out⟩
          case round =>
            obtain ⟨m, hm1, hm2, rfl, hb⟩ := hrel
            obtain ⟨bL, oL, aR, cR, hAL, cL1, rdR⟩ := HRG.out wr hb k _ HR0.out
            subst hAL
            by_cases hmt : m < r.length
            · obtain ⟨bR, oR, hAR, -, hcR⟩ := rdR.2 (by omega)
              subst hAR
              obtain ⟨x0, hx0⟩ := some_at r (show 0 < r.length by omega)
              obtain ⟨xm, hxm⟩ := some_at r hmt
              have cR0 : wr.cell? ⟨bR, oR, none⟩ = some (.int .i64 x0) := hcR 0 _ (ints_at _ hx0)
              have cRm : wr.cell? ⟨bR, oR + m, none⟩ = some (.int .i64 xm) := hcR m _ (ints_at _ hxm)
              obtain ⟨i, ca, rfl, hi, hai, hta⟩ := HTX.out 0 x0 hx0
              obtain ⟨i2, cb, rfl, hi2, hbi, htb⟩ := HTX.out m xm hxm
              obtain ⟨bD, oD, hAD, -, hcD⟩ := (HRT.out _ (HT7.out _ hb)) (by omega)
              subst hAD
              have cT := HCT.out _ (HT7.out _ hb)
              obtain ⟨o1, t1⟩ := ca
              obtain ⟨o2, t2⟩ := cb
              simp only at hta htb
              subst hta htb
              obtain ⟨-, -, -, cD1, -, -, -⟩ := DictR.at_ hcD hai
              obtain ⟨-, -, -, cD2, -, -, -⟩ := DictR.at_ hcD hbi
              have e1 : (t2.toList == t2.toList) = true := by simp
              have j0 : (0 : Int) ≤ (m : Int) := by omega
              have j1 : (m : Int) < (r.length : Int) := by omega
              have i0 : (0 : Int) ≤ (i : Int) := by omega
              have i1 : (i : Int) < (l.length : Int) := by omega
              have n0 : (0 : Int) ≤ (i2 : Int) := by omega
              have n1 : (i2 : Int) < (l.length : Int) := by omega
              have p0 : (0 : Int) < (r.length : Int) := by omega
              clear hx0 hxm hcR hcD hai hbi rdR
              go_wp2
              go_quiet (fail)
              go_wp2
              go_roundw
              case rel => exact ⟨m + 1, by omega, by omega, by go_num, below_drewN hb _⟩
              case measure => simp [intOf]; omega
            · obtain rfl : m = r.length := by omega
              clear rdR
              go_wp2
              go_roundw
              case rel => exact ⟨k + 1, hlt, by go_num, hb⟩
              case measure => simp [intOf]; omega
        · obtain rfl : k = (dupD l).length := by omega
          go_wp2
          go_ret
          exact ⟨rfl, HWT.out _ (HT7.out _ hb)⟩
end Go.Proofs.YtekidodfcanjaaaGreatDoor
