/-
  Contracts of the laws' sum and test of a list of numbers.
-/
import Derived.Test.YtfgfbnmcihjfmaaInts
namespace Go.Proofs.Ytfgfbnmcihjfmaa
open Go.RowKit
set_option linter.unusedVariables false
set_option linter.unusedSimpArgs false
set_option maxRecDepth 100000

set_option maxHeartbeats 2000000 in
theorem rSumI_calls (A : Option Addr) (ca : Nat) (l : List Int) (w : World) (hr : Reads w w.heap.size 1 A l.length (ints l)) (hn : l.length ≤ 1000) (hz : ∀ z ∈ l, 0 ≤ z ∧ z ≤ 1000000) :
    Calls Try.prog 17 #[.slice A l.length ca] w fun e w' => e = .returned (.int .i64 l.sum) ∧ w = w' := by
  have HZ := Lib.hid hz
  clear hz
  go_enter Try.func17, Try.ntmps17
  go_wp2
  go_loop [3, 4] (fun s i => ∃ k : Nat, k ≤ l.length ∧ i = .int .i64 k ∧ s = .int .i64 (l.take k).sum ∧ 0 ≤ (l.take k).sum ∧ (l.take k).sum ≤ 1000000 * k) (fun _ i => l.length - (intOf i).toNat)
  case atStart => exact ⟨0, Nat.zero_le _, rfl, rfl, by simp, by simp⟩
  case round =>
    obtain ⟨k, hk, rfl, rfl, h0, h1⟩ := hrel
    by_cases hlt : k < l.length
    · obtain ⟨b, off, rfl, hb0, hc⟩ := hr.2 (by omega)
      obtain ⟨x, hx⟩ := some_at l hlt
      have c1 : w.cell? ⟨b, off + k, none⟩ = some (.int .i64 x) := hc k _ (ints_at _ hx)
      have hxz := HZ.out x (List.mem_of_getElem? hx)
      have hsum : (l.take (k + 1)).sum = (l.take k).sum + x := by rw [take_succ_of hx, List.sum_append]; simp
      have HS := Lib.hid hsum
      obtain ⟨s, hs⟩ : ∃ s, s = (l.take k).sum := ⟨_, rfl⟩
      rw [← hs] at h0 h1 HS ⊢
      have i0 : (0 : Int) ≤ (k : Int) := by omega
      have i1 : (k : Int) < (l.length : Int) := by omega
      clear hx hc hsum hs
      go_wp2
      go_round
      case rel => exact ⟨k + 1, by omega, by go_num, by first | (rw [HS.out]; done) | (rw [HS.out]; congr 1; exact IntWalk.i64_in _ (by omega)), by rw [HS.out]; omega, by rw [HS.out]; omega⟩
      case measure => simp [intOf]; omega
    · obtain rfl : k = l.length := by omega
      rw [List.take_length]
      go_wp2
      go_ret
      exact ⟨rfl, rfl⟩

end Go.Proofs.Ytfgfbnmcihjfmaa
