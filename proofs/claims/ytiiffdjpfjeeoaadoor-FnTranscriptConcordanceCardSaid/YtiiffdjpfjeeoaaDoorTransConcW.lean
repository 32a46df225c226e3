/-
  The law FnTranscriptConcordance returns true for every code: its walk over the contracts.
-/
import Derived.Test.YtiiffdjpfjeeoaaDoorConcI
import Derived.Test.YtiiffdjpfjeeoaaDoorConcS
import Derived.Test.YtiiffdjpfjeeoaaDoorFindI
import Derived.Test.YtiiffdjpfjeeoaaDoorFindS
import Derived.Test.YtiiffdjpfjeeoaaDoorDrawConc
import Derived.Test.YtiiffdjpfjeeoaaDoorCut
import Derived.Test.YtiiffdjpfjeeoaaDoorRText
namespace Go.Proofs.YtiiffdjpfjeeoaaDoor
open Go.RowKit
set_option linter.unusedVariables false
set_option maxRecDepth 100000

theorem TameT.short {l : List TurnD} (h : TameT l) : ShortT l := fun c hc => by have := h c hc; omega
theorem findL_short (l : List TurnD) (ph : ByteArray) : ∀ r ∈ findL l ph, r.length ≤ 1048576 := by
  intro r hr
  unfold findL at hr
  split at hr
  · have := placesT_two _ _ _ r hr; omega
  · simp at hr

set_option maxHeartbeats 8000000 in
theorem law_TransConc (A : Option Addr) (n cap : Nat) (zs : List Int) (W : World) (h : Ints .u8 W A n cap zs) (hm : MaxOk W) :
    Calls Tryd.prog 4 #[.slice A n cap] W fun e W' => e = .returned (.bool true) ∧ Below W.heap.size W W' := by
  have HM := Lib.hid (show ∀ W', Below W.heap.size W W' → MaxOk W' from fun W' hb => hm.below hb)
  clear hm
  by_cases hbig : 65536 < n
  · go_enter Tryd.func4, Tryd.ntmps4
    go_wp2_with fail
    refine (rBigT_calls A n cap _).mono ?_
    rw [show decide (65536 < n) = true by simp [hbig]]
    rintro e w1 ⟨rfl, rfl⟩
    go_wp2
    go_ret
    exact ⟨rfl, Below.refl _ _⟩
  have HI := Lib.hid (show ∀ W', Below W.heap.size W W' → Ints .u8 W' A n cap zs from fun W' hb => ⟨(h.1.below hb).more hb.size, h.2⟩)
  go_enter Tryd.func4, Tryd.ntmps4
  go_wp2_with fail
  refine (rBigT_calls A n cap _).mono ?_
  rw [show decide (65536 < n) = false by simp [hbig]]
  rintro e w0 ⟨rfl, rfl⟩
  go_wp2_with fail
  refine (drawConcordance_calls A n cap zs _ h).mono ?_
  rintro e w1 ⟨v, l, word, wd, rfl, own1, hl, ht, hwd, b1⟩
  obtain ⟨A1, c1, rfl, r1, -, -⟩ := own1.slice
  have HWD := Lib.hid hwd
  have hws : word.size ≤ 10 := wdL_size word hwd
  have HSH := Lib.hid ht.short
  have hlm : l.length ≤ 1048576 := by omega
  have B1 := b1.alloc b1.size (.cells #[.slice A1 l.length c1] 31)
  have HCT := Lib.hid (show ∀ W', Below (w1.alloc (.cells #[.slice A1 l.length c1] 31)).heap.size (w1.alloc (.cells #[.slice A1 l.length c1] 31)) W' → W'.cell? ⟨w1.heap.size, 0, none⟩ = some (.slice A1 l.length c1) from fun W' hb => ((Box.new w1 31 (.slice A1 l.length c1)).far hb).cell)
  have HRT := Lib.hid (show ∀ W', Below (w1.alloc (.cells #[.slice A1 l.length c1] 31)).heap.size (w1.alloc (.cells #[.slice A1 l.length c1] 31)) W' → Reads W' W'.heap.size 2 A1 l.length (turnsV l) from fun W' hb => (((r1.below ((Below.refl _ _).alloc (Nat.le_refl _) _)).more (by simp)).below hb).more hb.size)
  have cT := HCT.out _ (Below.refl _ _)
  obtain ⟨q, hcb⟩ : ∃ q, q = concB l word wd := ⟨_, rfl⟩
  have HCB := Lib.hid hcb
  clear h ht own1 hwd r1 b1 hcb hl
  go_wp2_with fail
  generalize hWT : w1.alloc (.cells #[.slice A1 l.length c1] 31) = wt at *
  clear hWT
  refine (impl_Concordance A1 c1 l word wd _ (HRT.out _ (Below.refl _ _)) hlm HSH.out (by omega) (HM.out _ B1)).mono ?_
  unfold ConcRes
  rw [← HCB.out]
  rintro e w2 ⟨v2, rfl, own2, b2⟩
  obtain ⟨A2, c2, rfl, r2, -, -⟩ := own2.slice
  have B2 := B1.trans (b2.mono B1.size)
  clear cT own2
  have cT := HCT.out _ b2
  go_wp2_with fail
  refine (spec_Concordance A1 c1 l word wd _ (HRT.out _ b2) hlm HSH.out (by omega)).mono ?_
  unfold ConcRes
  rw [← HCB.out]
  rintro e w3 ⟨v3, rfl, own3, b3⟩
  obtain ⟨A3, c3, rfl, r3, -, -⟩ := own3.slice
  have B3 := B2.trans (b3.mono B2.size)
  have T3 := b2.trans (b3.mono b2.size)
  have r23 := (r2.below b3).more b3.size
  have hZl := concL_len l word wd
  have HZ := Lib.hid (show ∃ Z, Z = concL l word wd from ⟨_, rfl⟩)
  clear cT own3 r2
  have hqq : (q != q) = false := by cases q <;> rfl
  go_wp2_with fail
  refine (rTexts_same A2 A3 c2 c3 (concL l word wd) _ (by omega) r23 r3).mono ?_
  rintro e w4 ⟨rfl, b4⟩
  have B4 := B3.trans (b4.mono B3.size)
  have T4 := T3.trans (b4.mono T3.size)
  clear r23 r3
  go_wp2_with fail
  refine (rCut_calls A n cap zs 1 _ (HI.out _ B4) (by omega) (by omega)).mono ?_
  rintro e w5 ⟨A5, n5, c5, zs5, rfl, h5, b5⟩
  have B5 := B4.trans (b5.mono B4.size)
  have T5 := T4.trans (b5.mono T4.size)
  have H5 := Lib.hid h5
  clear h5
  go_wp2_with fail
  refine (drawFindPhrase_calls A5 n5 c5 zs5 _ H5.out).mono ?_
  rintro e w6 ⟨v6, l6, ph, rfl, own6, hl6, ht6, hph, b6⟩
  obtain ⟨A6, c6, rfl, r6, -, -⟩ := own6.slice
  have HSH6 := Lib.hid ht6.short
  have hlm6 : l6.length ≤ 1048576 := by omega
  have B6 := B5.trans (b6.mono B5.size)
  have T6 := T5.trans (b6.mono T5.size)
  have B6a := B6.alloc B6.size (.cells #[.slice A6 l6.length c6] 31)
  have T6a := T6.alloc T6.size (.cells #[.slice A6 l6.length c6] 31)
  have HCT6 := Lib.hid (show ∀ W', Below (w6.alloc (.cells #[.slice A6 l6.length c6] 31)).heap.size (w6.alloc (.cells #[.slice A6 l6.length c6] 31)) W' → W'.cell? ⟨w6.heap.size, 0, none⟩ = some (.slice A6 l6.length c6) from fun W' hb => ((Box.new w6 31 (.slice A6 l6.length c6)).far hb).cell)
  have HRT6 := Lib.hid (show ∀ W', Below (w6.alloc (.cells #[.slice A6 l6.length c6] 31)).heap.size (w6.alloc (.cells #[.slice A6 l6.length c6] 31)) W' → Reads W' W'.heap.size 2 A6 l6.length (turnsV l6) from fun W' hb => (((r6.below ((Below.refl _ _).alloc (Nat.le_refl _) _)).more (by simp)).below hb).more hb.size)
  have cT6 := HCT6.out _ (Below.refl _ _)
  obtain ⟨q2, hfb⟩ : ∃ q2, q2 = findB l6 ph := ⟨_, rfl⟩
  have HFB := Lib.hid hfb
  clear ht6 own6 r6 hfb hl6
  go_wp2_with fail
  generalize hWT : w6.alloc (.cells #[.slice A6 l6.length c6] 31) = wu at *
  clear hWT
  refine (impl_FindPhrase A6 c6 l6 ph _ (HRT6.out _ (Below.refl _ _)) hlm6 HSH6.out (by omega) (HM.out _ B6a)).mono ?_
  unfold FindRes
  rw [← HFB.out]
  rintro e w7 ⟨v7, rfl, own7, b7⟩
  have O7 := Lib.hid own7
  have B7 := B6a.trans (b7.mono B6a.size)
  have T7 := T6a.trans (b7.mono T6a.size)
  clear cT6 own7
  have cT6 := HCT6.out _ b7
  go_wp2_with fail
  refine (spec_FindPhrase A6 c6 l6 ph _ (HRT6.out _ b7) hlm6 HSH6.out (by omega)).mono ?_
  unfold FindRes
  rw [← HFB.out]
  rintro e w8 ⟨v8, rfl, own8, b8⟩
  have O8 := Lib.hid own8
  have O78 := Lib.hid (O7.out.below b8)
  have B8 := B7.trans (b8.mono B7.size)
  have T8 := T7.trans (b8.mono T7.size)
  clear cT6 own8
  have hqq2 : (q2 != q2) = false := by cases q2 <;> rfl
  go_wp2_with fail
  refine (rLists_same _ _ _ _ v7 v8 (findL l6 ph) _ O78.out O8.out (by have := findL_len l6 ph; omega) (findL_short l6 ph)).mono ?_
  rintro e w9 ⟨rfl, b9⟩
  have B9 := B8.trans (b9.mono B8.size)
  have T9 := T8.trans (b9.mono T8.size)
  clear hqq hqq2
  have cT := HCT.out _ T9
  cases q
  · go_wp2
    go_ret
    exact ⟨rfl, B9⟩
  obtain ⟨q3, hfb⟩ : ∃ q3, q3 = findB l word := ⟨_, rfl⟩
  have HFB3 := Lib.hid hfb
  clear hfb
  go_wp2_with fail
  refine (impl_FindPhrase A1 c1 l word _ (HRT.out _ T9) hlm HSH.out (by omega) (HM.out _ B9)).mono ?_
  unfold FindRes
  rw [← HFB3.out]
  rintro e w10 ⟨v10, rfl, own10, b10⟩
  obtain ⟨A10, c10, rfl, -, -⟩ := own10.slice
  have B10 := B9.trans (b10.mono B9.size)
  clear cT own10
  cases q3
  · go_wp2
    go_ret
    exact ⟨rfl, B10⟩
  · have hle := conc_find (wdL_words word HWD.out) HCB.out.symm HFB3.out.symm
    have hlb : (((findL l word).length : Int) == ((concL l word wd).length : Int)) = true := by rw [hle]; simp
    clear hle
    go_wp2
    go_ret
    exact ⟨rfl, B10⟩
end Go.Proofs.YtiiffdjpfjeeoaaDoor
