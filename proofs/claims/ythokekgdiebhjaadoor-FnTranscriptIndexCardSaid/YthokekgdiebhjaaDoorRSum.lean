/-
  Contracts of the laws' sum and test of a list of numbers.
-/
import Derived.Test.YthokekgdiebhjaaDoorInts
namespace Go.Proofs.YthokekgdiebhjaaDoor
open Go.RowKit
set_option linter.unusedVariables false
set_option linter.unusedSimpArgs false
set_option maxRecDepth 100000

set_option maxHeartbeats 2000000 in
theorem rHas_calls (A : Option Addr) (ca : Nat) (l : List Int) (x : Int) (w : World) (hr : Reads w w.heap.size 1 A l.length (ints l)) (hn : l.length ≤ 1048576) :
    Calls Tryd.prog 12 #[.slice A l.length ca, .int .i64 x] w fun e w' => e = .returned (.bool (decide (x ∈ l))) ∧ w = w' := by
  go_enter Tryd.func12, Tryd.ntmps12
  go_wp2
  go_loop [5] (fun i => ∃ k : Nat, k ≤ l.length ∧ i = .int .i64 k ∧ x ∉ l.take k) (fun i => l.length - (intOf i).toNat)
  case atStart => exact ⟨0, Nat.zero_le _, rfl, by simp⟩
  case round =>
    obtain ⟨k, hk, rfl, hno⟩ := hrel
    have HNO := Lib.hid hno
    clear hno
    by_cases hlt : k < l.length
    · obtain ⟨b, off, rfl, hb0, hc⟩ := hr.2 (by omega)
      obtain ⟨y, hy⟩ := some_at l hlt
      have c1 : w.cell? ⟨b, off + k, none⟩ = some (.int .i64 y) := hc k _ (ints_at _ hy)
      have i0 : (0 : Int) ≤ (k : Int) := by omega
      have i1 : (k : Int) < (l.length : Int) := by omega
      have HY := Lib.hid hy
      clear hy hc
      by_cases hxy : y = x
      · subst hxy
        go_wp2
        go_ret
        exact ⟨ret_bool (by simp [List.mem_of_getElem? HY.out]), rfl⟩
      · have e1 : (y == x) = false := by simp [hxy]
        have HXY := Lib.hid hxy
        clear hxy
        go_wp2
        go_round
        case rel => exact ⟨k + 1, by omega, by go_num, by
          rw [take_succ_of HY.out, List.mem_append, List.mem_singleton]
          rintro (h | h)
          · exact HNO.out h
          · exact HXY.out h.symm⟩
        case measure => simp [intOf]; omega
    · obtain rfl : k = l.length := by omega
      have hno := HNO.out
      rw [List.take_length] at hno
      go_wp2
      go_ret
      exact ⟨ret_bool (by simp [hno]), rfl⟩
end Go.Proofs.YthokekgdiebhjaaDoor
