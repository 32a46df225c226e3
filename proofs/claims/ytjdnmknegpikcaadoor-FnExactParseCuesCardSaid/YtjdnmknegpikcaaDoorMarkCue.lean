/-
  Contracts of markCueS and heldCueS: the laws' marks on a track.
-/
import Derived.Test.YtjdnmknegpikcaaDoorEqCue
import Derived.Deep.RegionHeld3
namespace Go.Proofs.YtjdnmknegpikcaaDoor
open Go.RowKit
set_option linter.unusedVariables false

def mcue (k : Nat) : CueD := ((k : Int), (k : Int) + 1, mtext (k + 2))
def marksC (k0 n : Nat) : List CueD := (List.range n).map fun j => mcue (k0 + 3 * j)
theorem marksC_length (k n : Nat) : (marksC k n).length = n := by simp [marksC]
theorem marksC_at {k0 n j : Nat} (h : j < n) : (marksC k0 n)[j]? = some (mcue (k0 + 3 * j)) := by simp [marksC, h]
def markedC (l : List CueD) (k0 i : Nat) : List CueD := marksC k0 i ++ l.drop i
theorem markedC_zero (l : List CueD) (k : Nat) : markedC l k 0 = l := by simp [markedC, marksC]
theorem markedC_all (l : List CueD) (k : Nat) : markedC l k l.length = marksC k l.length := by simp [markedC]
theorem markedC_length (l : List CueD) (k : Nat) {i : Nat} (h : i ≤ l.length) : (markedC l k i).length = l.length := by simp [markedC, marksC_length]; omega
theorem markedC_set (l : List CueD) (k : Nat) {i : Nat} (h : i < l.length) : (markedC l k i).set i (mcue (k + 3 * i)) = markedC l k (i + 1) := by
  unfold markedC
  rw [List.set_append_right _ _ (by rw [marksC_length]; exact Nat.le_refl _), marksC_length, Nat.sub_self, ← List.getElem_cons_drop (h := h), List.set_cons_zero]
  simp [marksC, List.range_succ]

set_option maxHeartbeats 1000000 in
theorem markCueS_calls (lo hi : Nat) (v : Value) (l : List CueD) (k0 : Nat) (w : World) (h : Own w lo hi 59 3 v l.length (cuesV l)) (hk0 : 0 < k0) (hk1 : k0 + 3 * l.length ≤ 4000000000) :
    Calls Tryd.prog 22 #[v, .int .i64 k0] w fun e w' => e = .returned (.int .i64 (k0 + 3 * l.length)) ∧ Own w' lo hi 59 3 v l.length (cuesV (marksC k0 l.length)) ∧ Only lo hi w w' := by
  obtain ⟨A, cap, rfl, -, hnc, hcm⟩ := h.slice
  unfold maxLen at hcm
  go_enter Tryd.func22, Tryd.ntmps22
  go_wp2
  go_loopw [1, 5] (fun kv i wr => ∃ k : Nat, k ≤ l.length ∧ i = .int .i64 k ∧ (∃ m : Nat, kv = .int .i64 m ∧ 0 < m ∧ m = k0 + 3 * k) ∧ Own wr lo hi 59 3 (.slice A l.length cap) l.length (cuesV (markedC l k0 k)) ∧ Only lo hi w wr)
    (fun _ i _ => l.length - (intOf i).toNat)
  case atStart => exact ⟨0, Nat.zero_le _, rfl, ⟨k0, rfl, hk0, by omega⟩, by rw [markedC_zero]; exact h, Only.refl _⟩
  case round =>
    obtain ⟨k, hk, rfl, ⟨m, rfl, hm0, hme⟩, hown, ho⟩ := hrel
    have hm1 : m ≤ 4000000000 := by omega
    have HM := Lib.hid hme
    clear hme
    by_cases hlt : k < l.length
    · obtain ⟨g, cap', hv, hg1, hg2, hg3, -, -, hc, hf⟩ := hown.open_ (by omega)
      simp only [Value.slice.injEq, true_and] at hv
      obtain ⟨rfl, rfl⟩ := hv
      have hml := markedC_length l k0 hk
      obtain ⟨c, hcx⟩ := some_at (markedC l k0 k) (show k < _ by omega)
      obtain ⟨c1, c2, c3⟩ := hown.cue hcx
      have HML := Lib.hid hml
      clear hcx hc hml
      go_wp2_with fail
      have o1 := (hown.set_ (k * 3) (.int .i64 (m : Int))).set_ (k * 3 + 1) (.int .i64 ((m : Int) + 1))
      refine (markText_calls (m + 2) _ (by omega) (by omega)).mono ?_
      rintro e w1 ⟨rfl, hb1⟩
      have o2 := o1.below hb1
      obtain ⟨y, hy⟩ := some_at (((cuesV (markedC l k0 k)).set (k * 3) (.int .i64 (m : Int))).set (k * 3 + 1) (.int .i64 ((m : Int) + 1))) (show k * 3 + 2 < _ by rw [List.length_set, List.length_set, cuesV_length, HML.out]; omega)
      have d3 : w1.cell? ⟨g, k * 3 + 2, none⟩ = some y := (o2.1.cellAt _ (by omega)).trans hy
      have f3 : w1.frozen? ⟨g, k * 3 + 2, none⟩ = false := o2.1.frozenAt _
      have hsz1 := hb1.size
      have HY := Lib.hid hy
      clear hy
      go_wp2
      go_roundw
      case rel => exact ⟨k + 1, by omega, by go_num, ⟨m + 3, by go_num, by omega, by have := HM.out; omega⟩, by
        have h1 := o2.set_ (k * 3 + 2) (.string (mtext (m + 2)))
        have h2 := cuesV_set (l := markedC l k0 k) (k := k) (by have := HML.out; omega) (mcue m)
        simp only [mcue] at h2
        rw [h2] at h1
        rw [← markedC_set l k0 hlt, ← HM.out]
        exact h1, ((((ho.setCell hg1 hg2 _).setCell (by exact hg1) (by exact hg2) _).trans (Only.of_below hb1)).setCell hg1 hg2 _)⟩
      case measure => simp [intOf]; omega
    · obtain rfl : k = l.length := by omega
      go_wp2
      go_ret
      exact ⟨ret_int (by have := HM.out; omega), by rwa [markedC_all] at hown, ho⟩

/-- A cell of old memory and the frame are carried over a call. -/
theorem held_step {w wx w1 : World} {a : Addr} {v : Value} (ha : a.block < w.heap.size) (h : wx.cell? a = some v ∧ Below w.heap.size w wx) (hb : Below wx.heap.size wx w1) : w1.cell? a = some v ∧ Below w.heap.size w w1 :=
  ⟨(hb.cell (by have := h.2.size; omega)).trans h.1, h.2.trans (hb.mono h.2.size)⟩
theorem held_drew {w wx : World} {a : Addr} {v : Value} (h : wx.cell? a = some v ∧ Below w.heap.size w wx) : wx.drew.cell? a = some v ∧ Below w.heap.size w wx.drew := ⟨h.1, h.2.drew⟩

set_option maxHeartbeats 1000000 in
theorem heldCueS_calls (A : Option Addr) (cap n : Nat) (k0 : Nat) (w : World) (hr : Reads w w.heap.size 3 A n (cuesV (marksC k0 n))) (hk0 : 0 < k0) (hk1 : k0 + 3 * n ≤ 4000000000) :
    Calls Tryd.prog 23 #[.slice A n cap, .int .i64 k0] w fun e w' => e = .returned (.int .i64 (k0 + 3 * n)) ∧ Below w.heap.size w w' := by
  go_enter Tryd.func23, Tryd.ntmps23
  go_wp2
  go_loopw [1, 5] (fun kv i wr => ∃ k : Nat, k ≤ n ∧ i = .int .i64 k ∧ (∃ m : Nat, kv = .int .i64 m ∧ 0 < m ∧ m = k0 + 3 * k) ∧ Below w.heap.size w wr)
    (fun _ i _ => n - (intOf i).toNat)
  case atStart => exact ⟨0, Nat.zero_le _, rfl, ⟨k0, rfl, hk0, by omega⟩, Below.refl _ _⟩
  case round =>
    obtain ⟨k, hk, rfl, ⟨m, rfl, hm0, hme⟩, hb⟩ := hrel
    have hm1 : m ≤ 4000000000 := by omega
    by_cases hlt : k < n
    · obtain ⟨b, off, rfl, hb0, hc⟩ := (hr.below hb).2 (by omega)
      obtain ⟨c1, c2, c3⟩ := Reads.cue (B := 0) (n := 0) hc (marksC_at hlt)
      rw [← hme] at c1 c2 c3
      simp only [mcue] at c1 c2 c3
      have HM := Lib.hid hme
      have i1 : (k : Int) < (n : Int) := by omega
      have i0 : (0 : Int) ≤ (k : Int) := by omega
      clear hme hc
      have ha : (⟨b, off + k * 3 + 2, none⟩ : Addr).block < w.heap.size := hb0
      have HB := Lib.hid hb0
      go_wp2
      go_region_held3 (fun w' => w'.cell? ⟨b, off + k * 3 + 2, none⟩ = some (.string (mtext (m + 2))) ∧ Below w.heap.size w w') (first | exact ⟨c3, hb⟩ | exact held_drew ⟨c3, hb⟩ | exact held_step ha (by assumption) (by assumption) | exact held_drew (by assumption) | assumption) (first | (go_at_call 45; refine (markText_calls (m + 2) _ (by omega) (by omega)).mono ?_; rintro e w1 ⟨rfl, hb1⟩))
      have hb2 : Below w.heap.size w w1 := hb.drew.trans (hb1.mono (by exact hb.size))
      go_wp2
      go_roundw
      case rel => exact ⟨k + 1, by omega, by go_num, ⟨m + 3, by go_num, by omega, by have := HM.out; omega⟩, hb2⟩
      case measure => simp [intOf]; omega
    · obtain rfl : k = n := by omega
      have HM := Lib.hid hme
      clear hme
      go_wp2
      go_ret
      exact ⟨ret_int (by have := HM.out; omega), hb⟩
end Go.Proofs.YtjdnmknegpikcaaDoor
