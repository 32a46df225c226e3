/-
  Contracts of markTurnS, heldTurnS and their kin over transcripts: the laws' marks.
-/
import Derived.Test.YthokekgdiebhjaaDoorTurns
import Derived.Deep.RegionHeld3
namespace Go.Proofs.YthokekgdiebhjaaDoor
open Go.RowKit
set_option linter.unusedVariables false
set_option maxRecDepth 100000

def mturn (k : Nat) : TurnD := (mtext k, mtext (k + 1))
def marksT (k0 n : Nat) : List TurnD := (List.range n).map fun j => mturn (k0 + 2 * j)
theorem marksT_length (k n : Nat) : (marksT k n).length = n := by simp [marksT]
theorem marksT_at {k0 n j : Nat} (h : j < n) : (marksT k0 n)[j]? = some (mturn (k0 + 2 * j)) := by simp [marksT, h]
def markedT (l : List TurnD) (k0 i : Nat) : List TurnD := marksT k0 i ++ l.drop i
theorem markedT_zero (l : List TurnD) (k : Nat) : markedT l k 0 = l := by simp [markedT, marksT]
theorem markedT_all (l : List TurnD) (k : Nat) : markedT l k l.length = marksT k l.length := by simp [markedT]
theorem markedT_length (l : List TurnD) (k : Nat) {i : Nat} (h : i ≤ l.length) : (markedT l k i).length = l.length := by simp [markedT, marksT_length]; omega
theorem markedT_set (l : List TurnD) (k : Nat) {i : Nat} (h : i < l.length) : (markedT l k i).set i (mturn (k + 2 * i)) = markedT l k (i + 1) := by
  unfold markedT
  rw [List.set_append_right _ _ (by rw [marksT_length]; exact Nat.le_refl _), marksT_length, Nat.sub_self, ← List.getElem_cons_drop (h := h), List.set_cons_zero]
  simp [marksT, List.range_succ]

set_option maxHeartbeats 1000000 in
theorem markTurnS_calls (lo hi : Nat) (v : Value) (l : List TurnD) (k0 : Nat) (w : World) (h : Own w lo hi 52 2 v l.length (turnsV l)) (hk0 : 0 < k0) (hk1 : k0 + 2 * l.length ≤ 4000000000) :
    Calls Tryd.prog 41 #[v, .int .i64 k0] w fun e w' => e = .returned (.int .i64 (k0 + 2 * l.length)) ∧ Own w' lo hi 52 2 v l.length (turnsV (marksT k0 l.length)) ∧ Only lo hi w w' := by
  obtain ⟨A, cap, rfl, -, hnc, hcm⟩ := h.slice
  unfold maxLen at hcm
  go_enter Tryd.func41, Tryd.ntmps41
  go_wp2
  go_loopw [1, 5] (fun kv i wr => ∃ k : Nat, k ≤ l.length ∧ i = .int .i64 k ∧ (∃ m : Nat, kv = .int .i64 m ∧ 0 < m ∧ m = k0 + 2 * k) ∧ Own wr lo hi 52 2 (.slice A l.length cap) l.length (turnsV (markedT l k0 k)) ∧ Only lo hi w wr)
    (fun _ i _ => l.length - (intOf i).toNat)
  case atStart => exact ⟨0, Nat.zero_le _, rfl, ⟨k0, rfl, hk0, by omega⟩, by rw [markedT_zero]; exact h, Only.refl _⟩
  case round =>
    obtain ⟨k, hk, rfl, ⟨m, rfl, hm0, hme⟩, hown, ho⟩ := hrel
    have hm1 : m ≤ 4000000000 := by omega
    have HM := Lib.hid hme
    clear hme
    by_cases hlt : k < l.length
    · obtain ⟨g, cap', hv, hg1, hg2, hg3, -, -, hc, hf⟩ := hown.open_ (by omega)
      simp only [Value.slice.injEq, true_and] at hv
      obtain ⟨rfl, rfl⟩ := hv
      have hml := markedT_length l k0 hk
      have HML := Lib.hid hml
      clear hc hml
      go_wp2_with fail
      refine (markText_calls m _ hm0 (by omega)).mono ?_
      rintro e w1 ⟨rfl, hb1⟩
      have o1 := hown.below hb1
      obtain ⟨y, hy⟩ := some_at (turnsV (markedT l k0 k)) (show k * 2 < _ by rw [turnsV_length, HML.out]; omega)
      have d1 : w1.cell? ⟨g, k * 2, none⟩ = some y := (o1.1.cellAt _ (by omega)).trans hy
      have f1 : w1.frozen? ⟨g, k * 2, none⟩ = false := o1.1.frozenAt _
      have hsz1 := hb1.size
      have HY := Lib.hid hy
      clear hy hf
      go_wp2_with fail
      have o2 := o1.set_ (k * 2) (.string (mtext m))
      refine (markText_calls (m + 1) _ (by omega) (by omega)).mono ?_
      rintro e w2 ⟨rfl, hb2⟩
      have o3 := o2.below hb2
      obtain ⟨y2, hy2⟩ := some_at ((turnsV (markedT l k0 k)).set (k * 2) (.string (mtext m))) (show k * 2 + 1 < _ by rw [List.length_set, turnsV_length, HML.out]; omega)
      have d2 : w2.cell? ⟨g, k * 2 + 1, none⟩ = some y2 := (o3.1.cellAt _ (by omega)).trans hy2
      have f2 : w2.frozen? ⟨g, k * 2 + 1, none⟩ = false := o3.1.frozenAt _
      have hsz2 := hb2.size
      have HY2 := Lib.hid hy2
      clear hy2 d1 f1
      go_wp2
      go_roundw
      case rel => exact ⟨k + 1, by omega, by go_num, ⟨m + 2, by go_num, by omega, by have := HM.out; omega⟩, by
        have h1 := o3.set_ (k * 2 + 1) (.string (mtext (m + 1)))
        have h2 := turnsV_set (l := markedT l k0 k) (k := k) (by have := HML.out; omega) (mturn m)
        simp only [mturn] at h2
        rw [h2] at h1
        rw [← markedT_set l k0 hlt, ← HM.out]
        exact h1, ((((ho.trans (Only.of_below hb1)).setCell hg1 hg2 _).trans (Only.of_below hb2)).setCell hg1 hg2 _)⟩
      case measure => simp [intOf]; omega
    · obtain rfl : k = l.length := by omega
      go_wp2
      go_ret
      exact ⟨ret_int (by have := HM.out; omega), by rwa [markedT_all] at hown, ho⟩

/-- A cell of old memory and the frame are carried over a call. -/
theorem held_step {w wx w1 : World} {a : Addr} {v : Value} (ha : a.block < w.heap.size) (h : wx.cell? a = some v ∧ Below w.heap.size w wx) (hb : Below wx.heap.size wx w1) : w1.cell? a = some v ∧ Below w.heap.size w w1 :=
  ⟨(hb.cell (by have := h.2.size; omega)).trans h.1, h.2.trans (hb.mono h.2.size)⟩
theorem held_drew {w wx : World} {a : Addr} {v : Value} (h : wx.cell? a = some v ∧ Below w.heap.size w wx) : wx.drew.cell? a = some v ∧ Below w.heap.size w wx.drew := ⟨h.1, h.2.drew⟩

theorem markTranscript_calls (lo hi : Nat) (v : Value) (l : List TurnD) (k0 : Nat) (w : World) (h : Own w lo hi 52 2 v l.length (turnsV l)) (hlo : hi ≤ w.heap.size) (hk0 : 0 < k0) (hk1 : k0 + 2 * l.length ≤ 4000000000) :
    Calls Tryd.prog 17 #[.agg #[v], .int .i64 k0] w fun e w' => e = .returned (.int .i64 (k0 + 2 * l.length)) ∧ Own w' lo hi 52 2 v l.length (turnsV (marksT k0 l.length)) ∧ Only lo hi w w' := by
  obtain ⟨A, cap, rfl, -, hnc, hcm⟩ := h.slice
  have hb0 : Below w.heap.size w (w.alloc (.cells #[.slice A l.length cap] 26)) := (Below.refl _ _).alloc (Nat.le_refl _) _
  go_enter Tryd.func17, Tryd.ntmps17
  go_wp2_with fail
  refine (markTurnS_calls lo hi _ l k0 _ (h.below hb0) hk0 hk1).mono ?_
  rintro e w1 ⟨rfl, o1, ho⟩
  go_wp2
  go_ret
  exact ⟨rfl, o1, (Only.of_below hb0).trans ho⟩
end Go.Proofs.YthokekgdiebhjaaDoor
