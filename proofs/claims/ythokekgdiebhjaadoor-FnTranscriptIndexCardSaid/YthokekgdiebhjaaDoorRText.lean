/-
  Contracts of the laws' small words: rBig, and rInts, rTexts, rLists at equal values.
-/
import Derived.Test.YthokekgdiebhjaaDoorRowsSS
import Derived.Test.YthokekgdiebhjaaDoorStrs
import Derived.Test.YthokekgdiebhjaaDoorBase
namespace Go.Proofs.YthokekgdiebhjaaDoor
open Go.RowKit
set_option linter.unusedVariables false
set_option maxRecDepth 100000

theorem rBigT_calls (A : Option Addr) (n cap : Nat) (w : World) : Calls Tryd.prog 5 #[.slice A n cap] w fun e w' => e = .returned (.bool (decide (65536 < n))) ∧ w = w' := by
  by_cases h : 65536 < n
  · have h' : (65536 : Int) < (n : Int) := by omega
    go_enter Tryd.func5, Tryd.ntmps5
    go_wp2
    go_ret
    exact ⟨ret_bool (by simp [h]), rfl⟩
  · have h' : ¬ (65536 : Int) < (n : Int) := by omega
    go_enter Tryd.func5, Tryd.ntmps5
    go_wp2
    go_ret
    exact ⟨ret_bool (by simp), rfl⟩

set_option maxHeartbeats 2000000 in
theorem rInts_same (A B : Option Addr) (ca cb : Nat) (l : List Int) (w : World) (hn : l.length ≤ 1048576) (ha : Reads w w.heap.size 1 A l.length (ints l)) (hb : Reads w w.heap.size 1 B l.length (ints l)) :
    Calls Tryd.prog 9 #[.slice A l.length ca, .slice B l.length cb] w fun e w' => e = .returned (.bool true) ∧ Below w.heap.size w w' := by
  go_enter Tryd.func9, Tryd.ntmps9
  go_wp2
  go_loopw [5] (fun i wr => ∃ k : Nat, k ≤ l.length ∧ i = .int .i64 k ∧ Below w.heap.size w wr) (fun i _ => l.length - (intOf i).toNat)
  case atStart => exact ⟨0, Nat.zero_le _, rfl, Below.refl _ _⟩
  case round =>
    obtain ⟨k, hk, rfl, hbl⟩ := hrel
    by_cases hlt : k < l.length
    · obtain ⟨b, off, rfl, hb0, hc⟩ := (ha.below hbl).2 (by omega)
      obtain ⟨b', off', rfl, hb0', hc'⟩ := (hb.below hbl).2 (by omega)
      obtain ⟨x, hx⟩ := some_at l hlt
      have c1 : wr.cell? ⟨b, off + k, none⟩ = some (.int .i64 x) := hc k _ (ints_at l hx)
      have d1 : wr.cell? ⟨b', off' + k, none⟩ = some (.int .i64 x) := hc' k _ (ints_at l hx)
      have i1 : (k : Int) < (l.length : Int) := by omega
      have i0 : (0 : Int) ≤ (k : Int) := by omega
      clear hc hc' hx
      go_wp2
      go_quiet (fail)
      go_wp2
      go_roundw
      case rel => exact ⟨k + 1, by omega, by go_num, below_drewN hbl _⟩
      case measure => simp [intOf]; omega
    · obtain rfl : k = l.length := by omega
      go_wp2
      go_ret
      exact ⟨rfl, hbl⟩

end Go.Proofs.YthokekgdiebhjaaDoor
