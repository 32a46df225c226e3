/-
  Contracts of the laws' small words: rBig, rCues (at equal tracks), rAt.
-/
import Derived.Test.YticdjneihcimeaaValid
import Derived.Test.YticdjneihcimeaaIn
import Derived.Test.YticdjneihcimeaaOwn
import Derived.IntWalk
namespace Go.Proofs.Yticdjneihcimeaa
open Go.RowKit
set_option linter.unusedVariables false

theorem rBig_calls (A : Option Addr) (n cap : Nat) (w : World) : Calls Try.prog 20 #[.slice A n cap] w fun e w' => e = .returned (.bool (decide (65536 < n))) ∧ w = w' := by
  by_cases h : 65536 < n
  · have h' : (65536 : Int) < (n : Int) := by omega
    go_enter Try.func20, Try.ntmps20
    go_wp2
    go_ret
    exact ⟨ret_bool (by simp [h]), rfl⟩
  · have h' : ¬ (65536 : Int) < (n : Int) := by omega
    go_enter Try.func20, Try.ntmps20
    go_wp2
    go_ret
    exact ⟨ret_bool (by simp), rfl⟩

set_option maxHeartbeats 2000000 in
/-- At two equal tracks rCues says yes. -/
theorem rCues_same (A B : Option Addr) (ca cb : Nat) (l : List CueD) (w : World) (hn : l.length ≤ 1048576) (ha : Reads w w.heap.size 3 A l.length (cuesV l)) (hb : Reads w w.heap.size 3 B l.length (cuesV l)) :
    Calls Try.prog 24 #[.slice A l.length ca, .slice B l.length cb] w fun e w' => e = .returned (.bool true) ∧ Below w.heap.size w w' := by
  go_enter Try.func24, Try.ntmps24
  go_wp2
  go_loopw [5] (fun i wr => ∃ k : Nat, k ≤ l.length ∧ i = .int .i64 k ∧ Below w.heap.size w wr) (fun i _ => l.length - (intOf i).toNat)
  case atStart => exact ⟨0, Nat.zero_le _, rfl, Below.refl _ _⟩
  case round =>
    obtain ⟨k, hk, rfl, hbl⟩ := hrel
    by_cases hlt : k < l.length
    · obtain ⟨b, off, rfl, hb0, hc⟩ := (ha.below hbl).2 (by omega)
      obtain ⟨b', off', rfl, hb0', hc'⟩ := (hb.below hbl).2 (by omega)
      obtain ⟨⟨s, e, t⟩, hx⟩ := some_at l hlt
      obtain ⟨c1, c2, c3⟩ := Reads.cue (B := 0) (n := 0) hc hx
      obtain ⟨d1, d2, d3⟩ := Reads.cue (B := 0) (n := 0) hc' hx
      simp only at c1 c2 c3 d1 d2 d3
      have i1 : (k : Int) < (l.length : Int) := by omega
      have i0 : (0 : Int) ≤ (k : Int) := by omega
      clear hc hc' hx
      go_wp2
      go_quiet (fail)
      go_wp2
      go_roundw
      case rel => exact ⟨k + 1, by omega, by go_num, below_drewN hbl _⟩
      case measure => simp [intOf]; omega
    · obtain rfl : k = l.length := by omega
      go_wp2
      go_ret
      exact ⟨rfl, hbl⟩

theorem rAt_calls (A : Option Addr) (n cap : Nat) (zs : List Int) (i : Nat) (w : World) (h : Ints .u8 w A n cap zs) (hi : i ≤ 1000) (hn : n ≤ 65536) : Calls Try.prog 28 #[.slice A n cap, .int .i64 i] w fun e w' => ∃ x : Int, e = .returned (.int .i64 x) ∧ (0 ≤ x ∧ x ≤ 255) ∧ w = w' := by
  obtain ⟨h1, h2, h3, h4, h5⟩ := h
  by_cases hin : i < n
  · obtain ⟨b, off, rfl, hb0, hc⟩ := h1.2 (by omega)
    obtain ⟨z, hz⟩ := some_at zs (show i < zs.length by omega)
    have c1 : w.cell? ⟨b, off + i, none⟩ = some (.int .u8 z) := hc i _ (by simp [hz])
    have hw := h5 z (List.mem_of_getElem? hz)
    have hzz : 0 ≤ z ∧ z ≤ 255 := by simpa [Lit.wf, IntKind.min, IntKind.max, IntKind.signed, IntKind.bits] using hw
    obtain ⟨z0, z9⟩ := hzz
    have i0 : (0 : Int) ≤ (i : Int) := by omega
    have i1 : (i : Int) < (n : Int) := by omega
    clear hc hz h5 h1 h4 hw
    go_enter Try.func28, Try.ntmps28
    go_wp2
    go_ret
    exact ⟨z, rfl, ⟨z0, z9⟩, rfl⟩
  · have i1 : ¬ (i : Int) < (n : Int) := by omega
    clear h1 h4 h5
    go_enter Try.func28, Try.ntmps28
    go_wp2
    go_ret
    exact ⟨_, rfl, by omega, rfl⟩
end Go.Proofs.Yticdjneihcimeaa
