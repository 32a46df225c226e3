/-
  Contracts of the laws' helpers over []int: toIntS, eqIntS, markIntS, heldIntS.
-/
import Derived.Test.YtfgfbnmcihjfmaaIn
namespace Go.Proofs.Ytfgfbnmcihjfmaa
open Go.RowKit
set_option linter.unusedVariables false

/-- toIntS copies into new memory. -/
def Copied (zs : List Int) (w : World) (e : Ending) (w' : World) : Prop := ∃ v, e = .returned v ∧ Own w' w.heap.size w'.heap.size 3 1 v zs.length (ints zs) ∧ Below w.heap.size w w'

set_option maxHeartbeats 1000000 in
theorem toIntS_calls (A : Option Addr) (cap : Nat) (zs : List Int) (w : World) (hr : Reads w w.heap.size 1 A zs.length (ints zs)) (hn : zs.length ≤ 1048576) :
    Calls Try.prog 6 #[.slice A zs.length cap] w (Copied zs w) := by
  have hmk := run_make_rowN (P := Try.prog) 22 3 Try.underlying22 info_int .i64 .i64 zs.length zs.length (Nat.le_refl _) (by omega) (by omega)
  go_enter Try.func6, Try.ntmps6
  go_wp2
  go_loopw [4] (fun i wr => ∃ k : Nat, k ≤ zs.length ∧ i = .int .i64 k ∧ wr.ownsRow w.heap.size 3 1 (.slice (some ⟨w.heap.size, 0, none⟩) zs.length zs.length) zs.length (filled (ints zs) (.int .i64 0) k) ∧ Below w.heap.size w wr)
    (fun i _ => zs.length - (intOf i).toNat)
  case atStart =>
    refine ⟨0, Nat.zero_le _, rfl, ?_, (Below.refl _ _).alloc (Nat.le_refl _) _⟩
    have h := World.ownsRow_lit (base := w.heap.size) (e := 3) (size := 1) w (madeCells #[Value.int IntKind.i64 0] zs.length) zs.length (Nat.le_refl _) (by unfold maxLen; omega) (by simp [madeCells])
    rw [filled_zero, ints_length, ← toList_madeCells_one]
    exact h
  case round =>
    obtain ⟨k, hk, rfl, hown, hb⟩ := hrel
    have hsz := hb.size
    by_cases hlt : k < zs.length
    · obtain ⟨b, off, rfl, hb0, hc⟩ := hr.2 (by omega)
      obtain ⟨x, hx⟩ := some_at zs hlt
      have cx : wr.cell? ⟨b, off + k, none⟩ = some (.int .i64 x) := (hb.cell hb0).trans (hc k _ (ints_at zs hx))
      have ct : wr.cell? ⟨w.heap.size, k, none⟩ = some (.int .i64 0) := (hown.cellAt k (by omega)).trans (filled_at _ _ (by rw [ints_length]; exact hlt))
      have cf : wr.frozen? ⟨w.heap.size, k, none⟩ = false := hown.frozenAt k
      have HX := Lib.hid hx
      clear hx
      go_wp2
      go_roundw
      case rel =>
        refine ⟨k + 1, by omega, by go_num, ?_, hb.setCell (Nat.le_refl _) _⟩
        have h := (hown.stored k (.int .i64 x)).1
        rwa [filled_set _ _ (ints_at zs HX.out)] at h
      case measure => simp [intOf]; omega
    · obtain rfl : k = zs.length := by omega
      go_wp2
      go_ret
      refine ⟨_, rfl, ⟨?_, fun g hg => ?_⟩, hb⟩
      · rwa [← ints_length zs, filled_all, ints_length] at hown
      · exact (hown.lt g hg).2

set_option maxHeartbeats 1000000 in
theorem eqIntS_calls (A B : Option Addr) (ca cb : Nat) (xs ys : List Int) (w : World) (hx : Reads w w.heap.size 1 A xs.length (ints xs)) (hy : Reads w w.heap.size 1 B ys.length (ints ys)) (hn : xs.length ≤ 1048576) :
    Calls Try.prog 8 #[.slice A xs.length ca, .slice B ys.length cb] w fun e w' => e = .returned (.bool (decide (xs = ys))) ∧ Below w.heap.size w w' := by
  by_cases hl : xs.length = ys.length
  · have h2 : ((xs.length : Int) != (ys.length : Int)) = false := by rw [hl]; simp
    have HL := Lib.hid hl
    clear hl
    go_enter Try.func8, Try.ntmps8
    go_wp2
    go_loopw [5] (fun i wr => ∃ k : Nat, k ≤ xs.length ∧ i = .int .i64 k ∧ (∀ j, j < k → xs[j]? = ys[j]?) ∧ Below w.heap.size w wr)
      (fun i _ => xs.length - (intOf i).toNat)
    case atStart => exact ⟨0, Nat.zero_le _, rfl, fun j hj => absurd hj (Nat.not_lt_zero _), Below.refl _ _⟩
    case round =>
      obtain ⟨k, hk, rfl, hall, hb⟩ := hrel
      have HA := Lib.hid hall
      clear hall
      by_cases hlt : k < xs.length
      · have hlt2 : k < ys.length := by have := HL.out; omega
        obtain ⟨b, off, rfl, hb0, hc⟩ := hx.2 (by omega)
        obtain ⟨b', off', rfl, hb0', hc'⟩ := hy.2 (by omega)
        obtain ⟨x, hxk⟩ := some_at xs hlt
        obtain ⟨y, hyk⟩ := some_at ys hlt2
        have cx : wr.cell? ⟨b, off + k, none⟩ = some (.int .i64 x) := (hb.cell hb0).trans (hc k _ (ints_at xs hxk))
        have cy : wr.cell? ⟨b', off' + k, none⟩ = some (.int .i64 y) := (hb.cell hb0').trans (hc' k _ (ints_at ys hyk))
        have HX := Lib.hid hxk
        have HY := Lib.hid hyk
        have i1 : (k : Int) < (xs.length : Int) := by omega
        have i2 : (k : Int) < (ys.length : Int) := by omega
        have i0 : (0 : Int) ≤ (k : Int) := by omega
        clear hxk hyk hc hc'
        by_cases hxy : x = y
        · subst hxy
          go_wp2
          go_quiet (fail)
          go_wp2
          go_roundw
          case rel => exact ⟨k + 1, by omega, by go_num, fun j hj => by
            rcases Nat.lt_or_ge j k with h | h
            · exact HA.out j h
            · rw [show j = k by omega, HX.out, HY.out], below_drewN hb _⟩
          case measure => simp [intOf]; omega
        · have t1 : (x != y) = true := by simpa using hxy
          have HN := Lib.hid hxy
          clear hxy
          go_wp2
          go_quiet (fail)
          go_wp2
          go_ret
          exact ⟨ret_bool (ne_of_at HX.out HY.out HN.out), below_drewN hb _⟩
      · obtain rfl : k = xs.length := by omega
        go_wp2
        go_ret
        exact ⟨ret_bool (eq_of_all HL.out HA.out), hb⟩
  · have h2 : ((xs.length : Int) != (ys.length : Int)) = true := by simp; omega
    have HL := Lib.hid hl
    clear hl
    go_enter Try.func8, Try.ntmps8
    go_wp2
    go_ret
    exact ⟨ret_bool (ne_of_length HL.out), Below.refl _ _⟩

set_option maxHeartbeats 1000000 in
theorem markIntS_calls (lo hi : Nat) (v : Value) (n : Nat) (xs : List Value) (k0 : Int) (w : World) (h : Own w lo hi 3 1 v n xs) (hk0 : 0 ≤ k0) (hk1 : k0 + n ≤ 4611686018427387904) :
    Calls Try.prog 9 #[v, .int .i64 k0] w fun e w' => e = .returned (.int .i64 (k0 + n)) ∧ Own w' lo hi 3 1 v n (ints (marks k0 n)) ∧ Only lo hi w w' := by
  obtain ⟨A, cap, rfl, -, hnc, hcm⟩ := h.slice
  have hxl : xs.length = n := by simpa using h.1.1
  unfold maxLen at hcm
  go_enter Try.func9, Try.ntmps9
  go_wp2
  go_loopw [1, 5] (fun kv i wr => ∃ k : Nat, k ≤ n ∧ i = .int .i64 k ∧ kv = .int .i64 (k0 + k) ∧ Own wr lo hi 3 1 (.slice A n cap) n (marked xs k0 k) ∧ Only lo hi w wr)
    (fun _ i _ => n - (intOf i).toNat)
  case atStart => exact ⟨0, Nat.zero_le _, rfl, by simp, by rw [marked_zero]; exact h, Only.refl _⟩
  case round =>
    obtain ⟨k, hk, rfl, rfl, hown, ho⟩ := hrel
    have HX := Lib.hid hxl
    by_cases hlt : k < n
    · obtain ⟨g, cap', hv, hg1, hg2, hg3, -, -, hc, hf⟩ := hown.open_ (by omega)
      simp only [Value.slice.injEq, true_and] at hv
      obtain ⟨rfl, rfl⟩ := hv
      obtain ⟨y, hy⟩ := some_at xs (show k < xs.length by omega)
      have ct : wr.cell? ⟨g, k, none⟩ = some y := (hc k (by omega)).trans ((marked_at xs k0 k).trans hy)
      have cf : wr.frozen? ⟨g, k, none⟩ = false := hf k
      clear hxl hy hc hf
      go_wp2
      go_roundw
      case rel => exact ⟨k + 1, by omega, by go_num, by go_num, by
        have h1 := hown.set_ k (.int .i64 (k0 + (k : Int)))
        rwa [marked_set _ _ (by have := HX.out; omega)] at h1, ho.setCell hg1 hg2 _⟩
      case measure => simp [intOf]; omega
    · obtain rfl : k = n := by omega
      clear hxl
      go_wp2
      go_ret
      exact ⟨rfl, by have h1 := HX.out; subst h1; rwa [marked_all] at hown, ho⟩

set_option maxHeartbeats 1000000 in
theorem heldIntS_calls (A : Option Addr) (cap : Nat) (n : Nat) (k0 : Int) (w : World) (hr : Reads w w.heap.size 1 A n (ints (marks k0 n))) (hk0 : 0 ≤ k0) (hk1 : k0 + n ≤ 4611686018427387904) :
    Calls Try.prog 10 #[.slice A n cap, .int .i64 k0] w fun e w' => e = .returned (.int .i64 (k0 + n)) ∧ w = w' := by
  go_enter Try.func10, Try.ntmps10
  go_wp2
  go_loop [1, 5] (fun kv i => ∃ k : Nat, k ≤ n ∧ i = .int .i64 k ∧ kv = .int .i64 (k0 + k))
    (fun _ i => n - (intOf i).toNat)
  case atStart => exact ⟨0, Nat.zero_le _, rfl, by simp⟩
  case round =>
    obtain ⟨k, hk, rfl, rfl⟩ := hrel
    by_cases hlt : k < n
    · obtain ⟨b, off, rfl, hb0, hc⟩ := hr.2 (by omega)
      have cx : w.cell? ⟨b, off + k, none⟩ = some (.int .i64 (k0 + (k : Int))) := hc k _ (ints_at _ (by simp [marks, hlt]))
      clear hc
      go_wp2
      go_round
      case rel => exact ⟨k + 1, by omega, by go_num, by go_num⟩
      case measure => simp [intOf]; omega
    · obtain rfl : k = n := by omega
      go_wp2
      go_ret
      exact ⟨rfl, rfl⟩
end Go.Proofs.Ytfgfbnmcihjfmaa
