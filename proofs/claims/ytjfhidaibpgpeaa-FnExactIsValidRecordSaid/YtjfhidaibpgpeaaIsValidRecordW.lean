/-
  The law FnExactIsValidRecord returns true for every record: its walk over the contracts.
-/
import Derived.Test.YtjfhidaibpgpeaaRecArg
import Derived.Test.YtjfhidaibpgpeaaRecI
namespace Go.Proofs.Ytjfhidaibpgpeaa
open Go.RowKit
set_option linter.unusedVariables false
set_option maxRecDepth 100000

set_option maxHeartbeats 2000000 in
theorem law_IsValidRecord (v0 : Value) (x : RecD) (W : World) (w0 : RecArg W v0 x) :
    Calls Try.prog 3 #[v0] W fun e W' => e = .returned (.bool true) ∧ Below W.heap.size W W' := by
  obtain ⟨s, t⟩ := x
  obtain ⟨rfl, hs, ht⟩ := w0
  simp only at hs ht ⊢
  have b0 : Below W.heap.size W (W.alloc (.cells #[.string s, .string t] 23)) := (Below.refl _ _).alloc (Nat.le_refl _) _
  have t0 := Two.new W 23 (.string s) (.string t)
  go_enter Try.func3, Try.ntmps3
  go_wp2_with fail
  generalize hW0 : W.alloc (.cells #[.string s, .string t] 23) = wz at *
  clear hW0
  have s0 := b0.size
  refine (szRec_calls s t 1048576 _ hs ht (by omega) (by omega)).mono ?_
  rintro e w1 ⟨rfl, b1⟩
  have B1 := b0.trans (b1.mono s0)
  have t1 := t0.far b1
  by_cases hl : (s.size : Int) + (t.size : Int) ≤ 1048576
  case neg =>
    rw [szR2_no hl]
    clear hl
    go_wp2
    go_ret
    exact ⟨rfl, B1⟩
  have h1 : s.size ≤ 1048576 := by omega
  have h2 : t.size ≤ 1048576 := by omega
  rw [szR2_yes hl]
  have i1 : ¬ (1048576 : Int) - (s.size : Int) - (t.size : Int) < 0 := by omega
  clear hl
  have c0 := t1.cell0
  have c1 := t1.cell1
  have s1 := b1.size
  go_wp2_with fail
  refine (toRec_calls s t _).mono ?_
  rintro e w2 ⟨rfl, b2⟩
  have B2 := B1.trans (b2.mono (by omega))
  have t2 := t1.far b2
  have s2 := b2.size
  clear c0 c1
  go_wp2_with fail
  refine (spec_IsValidRecord s t _ (by omega) (by omega)).mono ?_
  rintro e w3 ⟨rfl, b3⟩
  have B3 := B2.trans (b3.mono (by omega))
  have t3 := t2.far b3
  have s3 := b3.size
  have c0 := t3.cell0
  have c1 := t3.cell1
  go_wp2_with fail
  refine (toRec_calls s t _).mono ?_
  rintro e w4 ⟨rfl, b4⟩
  have B4 := B3.trans (b4.mono (by omega))
  have s4 := b4.size
  clear c0 c1
  go_wp2_with fail
  refine (impl_IsValidRecord s t _ (by omega) (by omega)).mono ?_
  rintro e w5 ⟨rfl, b5⟩
  have B5 := B4.trans (b5.mono (by omega))
  cases hr : recB (s, t)
  · go_wp2
    go_ret
    exact ⟨rfl, B5⟩
  · go_wp2
    go_ret
    exact ⟨rfl, B5⟩
end Go.Proofs.Ytjfhidaibpgpeaa
