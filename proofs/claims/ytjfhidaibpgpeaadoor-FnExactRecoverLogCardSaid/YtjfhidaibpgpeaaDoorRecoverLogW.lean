/-
  The law FnExactRecoverLog returns true for every text: its walk over the contracts.
-/
import Derived.Test.YtjfhidaibpgpeaaDoorRecover
namespace Go.Proofs.YtjfhidaibpgpeaaDoor
open Go.RowKit
set_option linter.unusedVariables false
set_option maxRecDepth 100000

set_option maxHeartbeats 4000000 in
theorem law_RecoverLog (s : ByteArray) (W : World) (hs : s.size ≤ 9223372036854775807) (htab : Lib.TabIs Tryd.prog W "internal/strconv.uint64pow10" .u64 Lib.pow10Tab) (hm : MaxOk W) :
    Calls Tryd.prog 4 #[.string s] W fun e W' => e = .returned (.bool true) ∧ Below W.heap.size W W' := by
  have HT := Lib.hid (Lib.tabBelow_of_tabIs htab)
  have HM := Lib.hid hm
  clear htab hm
  by_cases h1 : s.size ≤ 1048576
  case neg =>
    have i1 : (1048576 : Int) < (s.size : Int) := by omega
    go_enter Tryd.func4, Tryd.ntmps4
    go_wp2
    go_ret
    exact ⟨rfl, Below.refl _ _⟩
  have i1 : ¬ (1048576 : Int) < (s.size : Int) := by omega
  go_enter Tryd.func4, Tryd.ntmps4
  go_wp2_with fail
  refine (spec_RecoverLog s _ h1).mono ?_
  intro x w1 hx
  have b1 := hx.2
  obtain ⟨D, n, a, b, rfl, -⟩ := recover_one hx hx
  have HX := Lib.hid hx
  have t1 := Three.new w1 31 (.string D) (.string ⟨#[]⟩) (.int .i64 n)
  have B1 := b1.alloc b1.size (.cells #[.string D, .string ⟨#[]⟩, .int .i64 n] 31)
  clear hx
  go_wp2_with fail
  generalize hW1 : w1.alloc (.cells #[.string D, .string ⟨#[]⟩, .int .i64 n] 31) = x1 at *
  clear hW1
  refine (impl_RecoverLog s _ h1 (HT.out _ B1) (HM.out.below B1)).mono ?_
  intro y w2 hy
  have b2 := hy.2
  obtain ⟨D', n', a', b', he, rfl⟩ := recover_one HX.out hy
  injection he with he
  injection he with he
  have he' := congrArg Array.toList he
  simp only [List.cons.injEq, Value.agg.injEq, Value.int.injEq, Value.bool.injEq, true_and, and_true] at he'
  obtain ⟨he1, rfl, rfl⟩ := he'
  have he2 := congrArg Array.toList he1
  simp only [List.cons.injEq, Value.string.injEq, Value.int.injEq, true_and, and_true] at he2
  obtain ⟨rfl, rfl⟩ := he2
  have B2 := B1.trans (b2.mono B1.size)
  have t2 := t1.far b2
  have t3 := t2.far ((Below.refl _ _).alloc (Nat.le_refl _) (.cells #[.string D, .string ⟨#[]⟩, .int .i64 n] 31))
  have u3 := Three.new w2 31 (.string D) (.string ⟨#[]⟩) (.int .i64 n)
  have B3 := B2.alloc B2.size (.cells #[.string D, .string ⟨#[]⟩, .int .i64 n] 31)
  clear hy he he1
  have c0 := t3.cell0
  have c1 := t3.cell1
  have c2 := t3.cell2
  have d0 := u3.cell0
  have d1 := u3.cell1
  have d2 := u3.cell2
  go_wp2_with fail
  refine (eqLog_same D ⟨#[]⟩ n _).mono ?_
  rintro e w4 ⟨rfl, b4⟩
  have B4 := B3.trans (b4.mono B3.size)
  clear c0 c1 c2 d0 d1 d2
  cases b
  · go_wp2
    go_ret
    exact ⟨rfl, B4⟩
  · go_wp2
    go_ret
    exact ⟨rfl, B4⟩
end Go.Proofs.YtjfhidaibpgpeaaDoor
