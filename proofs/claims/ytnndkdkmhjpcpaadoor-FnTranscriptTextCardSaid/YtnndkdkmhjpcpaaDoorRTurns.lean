/-
  The laws' rTurns on two transcripts that hold the same turns.
-/
import Derived.Test.YtnndkdkmhjpcpaaDoorSplitI
namespace Go.Proofs.YtnndkdkmhjpcpaaDoor
open Go.RowKit
set_option linter.unusedVariables false
set_option linter.unusedSimpArgs false
set_option maxRecDepth 100000

set_option maxHeartbeats 2000000 in
theorem rTurns_same (A B : Option Addr) (ca cb : Nat) (l : List TurnD) (w : World) (hn : l.length ≤ 1048576) (ha : Reads w w.heap.size 2 A l.length (turnsV l)) (hb : Reads w w.heap.size 2 B l.length (turnsV l)) :
    Calls Tryd.prog 13 #[.agg #[.slice A l.length ca], .agg #[.slice B l.length cb]] w fun e w' => e = .returned (.bool true) ∧ Below w.heap.size w w' := by
  obtain ⟨W1, hW1⟩ : ∃ W1, W1 = (w.alloc (.cells #[.slice A l.length ca] 26)).alloc (.cells #[.slice B l.length cb] 26) := ⟨_, rfl⟩
  have hb1 : Below w.heap.size w W1 := by rw [hW1]; exact ((Below.refl _ _).alloc (Nat.le_refl _) _).alloc (by simp) _
  have bA : Box W1 w.heap.size 26 (.slice A l.length ca) := by rw [hW1]; exact (Box.new w _ _).alloc _
  have bB : Box W1 (w.heap.size + 1) 26 (.slice B l.length cb) := by rw [hW1]; have := Box.new (w.alloc (.cells #[.slice A l.length ca] 26)) 26 (.slice B l.length cb); simpa using this
  have cA := bA.cell
  have cB := bB.cell
  go_enter Tryd.func13, Tryd.ntmps13
  go_upto_region 1 with fail
  rw [← hW1]
  have HW1 := Lib.hid hW1
  clear hW1
  go_wp2
  go_loopw [5] (fun i wr => ∃ k : Nat, k ≤ l.length ∧ i = .int .i64 k ∧ Box wr w.heap.size 26 (.slice A l.length ca) ∧ Box wr (w.heap.size + 1) 26 (.slice B l.length cb) ∧ Below w.heap.size w wr) (fun i _ => l.length - (intOf i).toNat)
  case atStart => exact ⟨0, Nat.zero_le _, rfl, bA, bB, hb1⟩
  case round =>
    clear bA bB cA cB hb1
    obtain ⟨k, hk, rfl, bA, bB, hbl⟩ := hrel
    have cA := bA.cell
    have cB := bB.cell
    by_cases hlt : k < l.length
    · obtain ⟨ga, oa, rfl, hga, hca⟩ := (ha.below hbl).2 (by omega)
      obtain ⟨gb, ob, rfl, hgb, hcb⟩ := (hb.below hbl).2 (by omega)
      obtain ⟨⟨sp, tx⟩, hx⟩ := some_at l hlt
      obtain ⟨c1, c2⟩ := Reads.turn hca hx
      obtain ⟨d1, d2⟩ := Reads.turn hcb hx
      simp only at c1 c2 d1 d2
      have i0 : (0 : Int) ≤ (k : Int) := by omega
      have i1 : (k : Int) < (l.length : Int) := by omega
      have e1 : (sp.toList == sp.toList) = true := by simp
      have e2 : (tx.toList == tx.toList) = true := by simp
      clear hx hca hcb
      go_wp2
      go_quiet (fail)
      go_wp2
      go_roundw
      case rel => exact ⟨k + 1, by omega, by go_num, bA.far (below_drewN (Below.refl _ _) _), bB.far (below_drewN (Below.refl _ _) _), below_drewN hbl _⟩
      case measure => simp [intOf]; omega
    · obtain rfl : k = l.length := by omega
      go_wp2
      go_ret
      exact ⟨rfl, hbl⟩
end Go.Proofs.YtnndkdkmhjpcpaaDoor
