/-
  The law FnExactIsValidLog returns true for every log: its walk over the contracts.
-/
import Derived.Test.YtjfhidaibpgpeaaDoorLogK
import Derived.Test.YtjfhidaibpgpeaaDoorRecArg
namespace Go.Proofs.YtjfhidaibpgpeaaDoor
open Go.RowKit
set_option linter.unusedVariables false
set_option maxRecDepth 100000

set_option maxHeartbeats 4000000 in
theorem law_IsValidLog (v0 : Value) (x : ByteArray × ByteArray × Int) (W : World) (w0 : LogArg W v0 x) (htab : Lib.TabIs Tryd.prog W "internal/strconv.uint64pow10" .u64 Lib.pow10Tab) (hm : MaxOk W) :
    Calls Tryd.prog 5 #[v0] W fun e W' => e = .returned (.bool true) ∧ Below W.heap.size W W' := by
  obtain ⟨D, P, n⟩ := x
  obtain ⟨rfl, hs, ht, -⟩ := w0
  simp only at hs ht ⊢
  have HM := Lib.hid hm
  have HTB := Lib.hid (Lib.tabBelow_of_tabIs htab)
  clear hm htab
  have b0 : Below W.heap.size W (W.alloc (.cells #[.string D, .string P, .int .i64 n] 36)) := (Below.refl _ _).alloc (Nat.le_refl _) _
  have t0 := Three.new W 36 (.string D) (.string P) (.int .i64 n)
  go_enter Tryd.func5, Tryd.ntmps5
  go_wp2_with fail
  generalize hW0 : W.alloc (.cells #[.string D, .string P, .int .i64 n] 36) = wz at *
  clear hW0
  have s0 := b0.size
  refine (szLog_calls D P n 1048576 _ hs ht (by omega) (by omega)).mono ?_
  rintro e w1 ⟨rfl, b1⟩
  have B1 := b0.trans (b1.mono s0)
  have t1 := t0.far b1
  by_cases hl : (D.size : Int) + (P.size : Int) ≤ 1048576
  case neg =>
    rw [szR2_no hl]
    clear hl
    go_wp2
    go_ret
    exact ⟨rfl, B1⟩
  have h1 : D.size ≤ 1048576 := by omega
  have h2 : P.size ≤ 1048576 := by omega
  rw [szR2_yes hl]
  have i1 : ¬ (1048576 : Int) - (D.size : Int) - (P.size : Int) < 0 := by omega
  clear hl
  have c0 := t1.cell0
  have c1 := t1.cell1
  have c2 := t1.cell2
  have s1 := b1.size
  go_wp2_with fail
  refine (toLog_calls D P n _).mono ?_
  rintro e w2 ⟨rfl, b2⟩
  have B2 := B1.trans (b2.mono (by omega))
  have t2 := t1.far b2
  have s2 := b2.size
  clear c0 c1 c2
  go_wp2_with fail
  refine (spec_IsValidLog D P n _ h1 h2).mono ?_
  rintro e w3 ⟨b, rfl, hb, b3⟩
  have B3 := B2.trans (b3.mono (by omega))
  have t3 := t2.far b3
  have s3 := b3.size
  have c0 := t3.cell0
  have c1 := t3.cell1
  have c2 := t3.cell2
  have HB := Lib.hid hb
  clear hb
  go_wp2_with fail
  refine (toLog_calls D P n _).mono ?_
  rintro e w4 ⟨rfl, b4⟩
  have B4 := B3.trans (b4.mono (by omega))
  have s4 := b4.size
  clear c0 c1 c2
  go_wp2_with fail
  refine (impl_IsValidLog D P n _ h1 h2 (HTB.out _ B4) (HM.out.below B4)).mono ?_
  rintro e w5 ⟨b', rfl, hb', b5⟩
  have B5 := B4.trans (b5.mono (by omega))
  obtain rfl : b = b' := by
    have := HB.out.trans hb'.symm
    exact Bool.eq_iff_iff.2 this
  clear hb'
  cases b
  · go_wp2
    go_ret
    exact ⟨rfl, B5⟩
  · go_wp2
    go_ret
    exact ⟨rfl, B5⟩
end Go.Proofs.YtjfhidaibpgpeaaDoor
