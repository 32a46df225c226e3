/-
  The law FnExactMergeCues returns true: its walk over the contracts.
-/
import Derived.Test.YticdjneihcimeaaSpecMerge
import Derived.Test.YticdjneihcimeaaMarkCue
namespace Go.Proofs.Yticdjneihcimeaa
open Go.RowKit
set_option linter.unusedVariables false

set_option maxHeartbeats 4000000 in
theorem law_MergeCues (v0 : Value) (l : List CueD) (gap : Int) (W : World) (w0 : CuesArg W v0 l) (w1 : (Lit.int .i64 gap).wf = true) :
    Calls Try.prog 6 #[v0, .int .i64 gap] W fun e W' => e = .returned (.bool true) ∧ Below W.heap.size W W' := by
  obtain ⟨A, cap, rfl, hr, hlc, hcm, htx, hft⟩ := w0
  have hlm : l.length ≤ maxLen := Nat.le_trans hlc hcm
  have HF := Lib.hid hft
  have HT := Lib.hid htx
  clear hft htx
  have i0 : -9223372036854775808 ≤ gap ∧ gap ≤ 9223372036854775807 := by simpa [Lit.wf, IntKind.min, IntKind.max, IntKind.signed, IntKind.bits] using w1
  clear w1
  go_enter Try.func6, Try.ntmps6
  go_wp2_with fail
  refine (szCueS_calls A cap l 1048576 _ hr hlm HT.out (by omega) (by omega)).mono ?_
  rintro e w1 ⟨r, rfl, hrr, b1⟩
  rcases hrr with hneg | ⟨hpos, hsm⟩
  · go_wp2
    go_ret
    exact ⟨rfl, b1⟩
  have HS := Lib.hid hsm
  have hn : l.length ≤ 1048576 := by unfold Small at hsm; omega
  have s1 := b1.size
  clear hsm
  have hdl : ((mergeL l gap).getD []).length ≤ 1048576 := (by have := merge_le l gap; omega)
  obtain ⟨xs, hxs⟩ : ∃ xs, xs = (mergeL l gap).getD [] := ⟨_, rfl⟩
  rw [← hxs] at hdl
  have HX := Lib.hid hxs
  clear hxs
  go_wp2_with fail
  refine (toCueS_calls A cap l _ ((hr.below b1).more s1) hn).mono ?_
  rintro e w2 ⟨v2, rfl, o2, b2⟩
  obtain ⟨A2, c2, rfl, r2, -, -⟩ := o2.slice
  have s2 := b2.size
  go_wp2_with fail
  refine (spec_MergeCues A2 c2 l gap _ r2 hn HT.out).mono ?_
  rintro e w3 ⟨v3, rfl, ow, b3⟩
  rw [← HX.out] at ow
  obtain ⟨Aw, cw, rfl, rw3, -, -⟩ := ow.slice
  have s3 := b3.size
  have B3 : Below W.heap.size W w3 := (b1.trans (b2.mono s1)).trans (b3.mono (by omega))
  go_wp2_with fail
  refine (toCueS_calls A cap l _ ((hr.below B3).more (by omega)) hn).mono ?_
  rintro e w4 ⟨v4, rfl, ox, b4⟩
  obtain ⟨Ax, cx, rfl, rx, -, -⟩ := ox.slice
  have s4 := b4.size
  go_wp2_with fail
  refine (impl_MergeCues Ax cx l gap _ rx hn HT.out HF.out).mono ?_
  rintro e w5 ⟨v5, rfl, og, b5⟩
  rw [← HX.out] at og
  obtain ⟨Ag, cg, rfl, rg, -, -⟩ := og.slice
  have s5 := b5.size
  have ow5 := (ow.below b4).below b5
  have ox5 := ox.below b5
  go_wp2_with fail
  refine (eqCueS_calls Ag Aw cg cw _ _ _ (Reads.of_own og.1) (Reads.of_own ow5.1) hdl).mono ?_
  rintro e w6 ⟨rfl, b6⟩
  have s6 := b6.size
  have ow6 := ow5.below b6
  have ox6 := ox5.below b6
  have og6 := og.below b6
  have B6 : Below W.heap.size W w6 := ((B3.trans (b4.mono (by omega))).trans (b5.mono (by omega))).trans (b6.mono (by omega))
  go_wp2_with fail
  refine (toCueS_calls A cap l _ ((hr.below B6).more (by omega)) hn).mono ?_
  rintro e w7 ⟨v7, rfl, oc, b7⟩
  obtain ⟨Ac, cc, rfl, rc, -, -⟩ := oc.slice
  have s7 := b7.size
  have ow7 := ow6.below b7
  have ox7 := ox6.below b7
  have og7 := og6.below b7
  go_wp2_with fail
  refine (eqCueS_calls Ax Ac cx cc _ _ _ (Reads.of_own ox7.1) (Reads.of_own oc.1) hn).mono ?_
  rintro e w8 ⟨rfl, b8⟩
  have s8 := b8.size
  have ow8 := ow7.below b8
  have ox8 := ox7.below b8
  have og8 := og7.below b8
  have B8 : Below W.heap.size W w8 := (B6.trans (b7.mono (by omega))).trans (b8.mono (by omega))
  go_wp2_with fail
  refine (markCueS_calls _ _ _ _ 1 _ ox8 (by omega) (by omega)).mono ?_
  rintro e w9 ⟨rfl, ox9, n9⟩
  have s9 := n9.size
  have ow9 := ow8.only n9 (.inl (by omega))
  have og9 := og8.only n9 (.inr (by omega))
  have B9 : Below W.heap.size W w9 := B8.trans (n9.below (by omega) (by omega))
  go_wp2_with fail
  refine (eqCueS_calls Ag Aw cg cw _ _ _ (Reads.of_own og9.1) (Reads.of_own ow9.1) hdl).mono ?_
  rintro e w10 ⟨rfl, b10⟩
  have s10 := b10.size
  have ow10 := ow9.below b10
  have og10 := og9.below b10
  have B10 : Below W.heap.size W w10 := B9.trans (b10.mono (by omega))
  go_wp2_with fail
  refine (markCueS_calls _ _ _ _ 1 _ og10 (by omega) (by omega)).mono ?_
  rintro e w11 ⟨rfl, og11, n11⟩
  have s11 := n11.size
  have ow11 := ow10.only n11 (.inl (by omega))
  have B11 : Below W.heap.size W w11 := B10.trans (n11.below (by omega) (by omega))
  go_wp2_with fail
  refine (heldCueS_calls Ag cg _ 1 _ (Reads.of_own og11.1) (by omega) (by omega)).mono ?_
  rintro e w12 ⟨rfl, b12⟩
  have s12 := b12.size
  have ow12 := ow11.below b12
  have og12 := og11.below b12
  have B12 : Below W.heap.size W w12 := B11.trans (b12.mono (by omega))
  go_wp2_with fail
  refine (toCueS_calls A cap l _ ((hr.below B12).more (by omega)) hn).mono ?_
  rintro e w13 ⟨v13, rfl, o13, b13⟩
  obtain ⟨A13, c13, rfl, r13, -, -⟩ := o13.slice
  have s13 := b13.size
  go_wp2_with fail
  refine (impl_MergeCues A13 c13 l gap _ r13 hn HT.out HF.out).mono ?_
  rintro e w14 ⟨v14, rfl, oh, b14⟩
  rw [← HX.out] at oh
  obtain ⟨Ah, ch, rfl, rh, -, -⟩ := oh.slice
  have s14 := b14.size
  have ow14 := (ow12.below b13).below b14
  have og14 := (og12.below b13).below b14
  go_wp2_with fail
  refine (eqCueS_calls Ah Aw ch cw _ _ _ (Reads.of_own oh.1) (Reads.of_own ow14.1) hdl).mono ?_
  rintro e w15 ⟨rfl, b15⟩
  have s15 := b15.size
  have og15 := og14.below b15
  have B15 : Below W.heap.size W w15 := ((B12.trans (b13.mono (by omega))).trans (b14.mono (by omega))).trans (b15.mono (by omega))
  go_wp2_with fail
  refine (heldCueS_calls Ag cg _ 1 _ (Reads.of_own og15.1) (by omega) (by omega)).mono ?_
  rintro e w16 ⟨rfl, b16⟩
  go_wp2
  go_ret
  exact ⟨rfl, B15.trans (b16.mono (by omega))⟩
end Go.Proofs.Yticdjneihcimeaa
