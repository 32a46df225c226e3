/-
  The law FnExactEncodeRecord returns true for every number and record: its walk over the contracts.
-/
import Derived.Test.YtjfhidaibpgpeaaDoorRecArg
import Derived.Test.YtjfhidaibpgpeaaDoorSealI
import Derived.Test.YtjfhidaibpgpeaaDoorBase
namespace Go.Proofs.YtjfhidaibpgpeaaDoor
open Go.RowKit
set_option linter.unusedVariables false
set_option maxRecDepth 100000

set_option maxHeartbeats 2000000 in
theorem law_EncodeRecord (z : Int) (v0 : Value) (x : RecD) (W : World) (wz : (Lit.int .i64 z).wf = true) (w0 : RecArg W v0 x) (htab : Lib.TabIs Tryd.prog W "internal/strconv.uint64pow10" .u64 Lib.pow10Tab) :
    Calls Tryd.prog 3 #[.int .i64 z, v0] W fun e W' => e = .returned (.bool true) ∧ Below W.heap.size W W' := by
  obtain ⟨s, t⟩ := x
  obtain ⟨rfl, hs, ht⟩ := w0
  simp only at hs ht ⊢
  have HTB := Lib.hid (Lib.tabBelow_of_tabIs htab)
  clear htab
  have b0 : Below W.heap.size W (W.alloc (.cells #[.string s, .string t] 23)) := (Below.refl _ _).alloc (Nat.le_refl _) _
  have t0 := Two.new W 23 (.string s) (.string t)
  go_enter Tryd.func3, Tryd.ntmps3
  go_wp2_with fail
  generalize hW0 : W.alloc (.cells #[.string s, .string t] 23) = wz at *
  clear hW0
  have s0 := b0.size
  refine (szRec_calls s t 1048576 _ hs ht (by omega) (by omega)).mono ?_
  rintro e w1 ⟨rfl, b1⟩
  have B1 := b0.trans (b1.mono s0)
  have t1 := t0.far b1
  by_cases hl : (s.size : Int) + (t.size : Int) ≤ 1048576
  case neg =>
    rw [szR2_no hl]
    clear hl
    go_wp2
    go_ret
    exact ⟨rfl, B1⟩
  have h1 : s.size ≤ 1048576 := by omega
  have h2 : t.size ≤ 1048576 := by omega
  rw [szR2_yes hl]
  have i1 : ¬ (1048576 : Int) - (s.size : Int) - (t.size : Int) < 0 := by omega
  clear hl
  have c0 := t1.cell0
  have c1 := t1.cell1
  have s1 := b1.size
  go_wp2_with fail
  refine (toRec_calls s t _).mono ?_
  rintro e w2 ⟨rfl, b2⟩
  have B2 := B1.trans (b2.mono (by omega))
  have t2 := t1.far b2
  have s2 := b2.size
  clear c0 c1
  go_wp2_with fail
  refine (spec_EncodeRecord z s t _ (by omega) (by omega)).mono ?_
  rintro e w3 ⟨x3, y3, rfl, hx3, b3⟩
  have B3 := B2.trans (b3.mono (by omega))
  have t3 := t2.far b3
  have s3 := b3.size
  have c0 := t3.cell0
  have c1 := t3.cell1
  have HX3 := Lib.hid hx3
  clear hx3
  go_wp2_with fail
  refine (toRec_calls s t _).mono ?_
  rintro e w4 ⟨rfl, b4⟩
  have B4 := B3.trans (b4.mono (by omega))
  have s4 := b4.size
  clear c0 c1
  go_wp2_with fail
  refine (impl_EncodeRecord z s t _ (by omega) (by omega) (HTB.out _ B4)).mono ?_
  rintro e w5 ⟨x5, y5, rfl, hx5, b5⟩
  have B5 := B4.trans (b5.mono (by omega))
  obtain ⟨rfl, rfl⟩ := enc_one HX3.out hx5
  clear hx5
  cases y3
  · go_wp2
    go_ret
    exact ⟨rfl, B5⟩
  · go_wp2
    go_ret
    exact ⟨rfl, B5⟩
end Go.Proofs.YtjfhidaibpgpeaaDoor
