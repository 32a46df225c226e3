/-
  The laws' eqStringS, markStringS, heldStringS: whether two slices of strings agree; marks put in and read again.
-/
import Derived.Test.YtnndkdkmhjpcpaaDoorStrs
import Derived.Test.YtnndkdkmhjpcpaaDoorBase
import Derived.Test.YtnndkdkmhjpcpaaDoorMarkText
import Derived.StillTailTactics
import Derived.Deep.RegionHeld3
namespace Go.Proofs.YtnndkdkmhjpcpaaDoor
open Go.RowKit
set_option linter.unusedVariables false
set_option maxRecDepth 100000

set_option maxHeartbeats 1000000 in
theorem eqStringS_calls (A B : Option Addr) (ca cb : Nat) (xs ys : List ByteArray) (w : World) (hx : Reads w w.heap.size 1 A xs.length (strsV xs)) (hy : Reads w w.heap.size 1 B ys.length (strsV ys)) (hn : xs.length ≤ 1048576) :
    Calls Tryd.prog 28 #[.slice A xs.length ca, .slice B ys.length cb] w fun e w' => e = .returned (.bool (decide (xs = ys))) ∧ Below w.heap.size w w' := by
  by_cases hl : xs.length = ys.length
  · have h2 : ((xs.length : Int) != (ys.length : Int)) = false := by rw [hl]; simp
    have HL := Lib.hid hl
    clear hl
    go_enter Tryd.func28, Tryd.ntmps28
    go_wp2
    go_loopw [5] (fun i wr => ∃ k : Nat, k ≤ xs.length ∧ i = .int .i64 k ∧ (∀ j, j < k → xs[j]? = ys[j]?) ∧ Below w.heap.size w wr)
      (fun i _ => xs.length - (intOf i).toNat)
    case atStart => exact ⟨0, Nat.zero_le _, rfl, fun j hj => absurd hj (Nat.not_lt_zero _), Below.refl _ _⟩
    case round =>
      obtain ⟨k, hk, rfl, hall, hb⟩ := hrel
      have HA := Lib.hid hall
      clear hall
      by_cases hlt : k < xs.length
      · have hlt2 : k < ys.length := by have := HL.out; omega
        obtain ⟨b, off, rfl, hb0, hc⟩ := hx.2 (by omega)
        obtain ⟨b', off', rfl, hb0', hc'⟩ := hy.2 (by omega)
        obtain ⟨x, hxk⟩ := some_at xs hlt
        obtain ⟨y, hyk⟩ := some_at ys hlt2
        have cx : wr.cell? ⟨b, off + k, none⟩ = some (.string x) := (hb.cell hb0).trans (hc k _ (strsV_at hxk))
        have cy : wr.cell? ⟨b', off' + k, none⟩ = some (.string y) := (hb.cell hb0').trans (hc' k _ (strsV_at hyk))
        have HX := Lib.hid hxk
        have HY := Lib.hid hyk
        have i1 : (k : Int) < (xs.length : Int) := by omega
        have i2 : (k : Int) < (ys.length : Int) := by omega
        have i0 : (0 : Int) ≤ (k : Int) := by omega
        clear hxk hyk hc hc'
        by_cases hxy : x = y
        · subst hxy
          go_wp2
          go_quiet (fail)
          go_wp2
          go_roundw
          case rel => exact ⟨k + 1, by omega, by go_num, fun j hj => by
            rcases Nat.lt_or_ge j k with h | h
            · exact HA.out j h
            · rw [show j = k by omega, HX.out, HY.out], below_drewN hb _⟩
          case measure => simp [intOf]; omega
        · have t1 := str_other hxy
          have HN := Lib.hid hxy
          clear hxy
          go_wp2
          go_quiet (fail)
          go_wp2
          go_ret
          exact ⟨ret_bool (ne_of_at HX.out HY.out HN.out), below_drewN hb _⟩
      · obtain rfl : k = xs.length := by omega
        go_wp2
        go_ret
        exact ⟨ret_bool (eq_of_all HL.out HA.out), hb⟩
  · have h2 : ((xs.length : Int) != (ys.length : Int)) = true := by simp; omega
    have HL := Lib.hid hl
    clear hl
    go_enter Tryd.func28, Tryd.ntmps28
    go_wp2
    go_ret
    exact ⟨ret_bool (ne_of_length HL.out), Below.refl _ _⟩

/-! ### Marks -/
def marksS (k0 n : Nat) : List ByteArray := (List.range n).map fun j => mtext (k0 + j)
theorem marksS_length (k n : Nat) : (marksS k n).length = n := by simp [marksS]
theorem marksS_at {k0 n j : Nat} (h : j < n) : (marksS k0 n)[j]? = some (mtext (k0 + j)) := by simp [marksS, h]
def markedS (xs : List Value) (k0 i : Nat) : List Value := strsV (marksS k0 i) ++ xs.drop i
theorem markedS_zero (xs : List Value) (k : Nat) : markedS xs k 0 = xs := by simp [markedS, marksS, strsV]
theorem markedS_all (xs : List Value) (k : Nat) : markedS xs k xs.length = strsV (marksS k xs.length) := by simp [markedS]
theorem markedS_set (xs : List Value) (k : Nat) {i : Nat} (h : i < xs.length) : (markedS xs k i).set i (.string (mtext (k + i))) = markedS xs k (i + 1) := by
  unfold markedS
  rw [List.set_append_right _ _ (by rw [strsV_length, marksS_length]; exact Nat.le_refl _), strsV_length, marksS_length, Nat.sub_self, ← List.getElem_cons_drop (h := h), List.set_cons_zero]
  simp [marksS, strsV, List.range_succ]
theorem markedS_at (xs : List Value) (k : Nat) (i : Nat) : (markedS xs k i)[i]? = xs[i]? := by
  unfold markedS
  rw [List.getElem?_append_right (by rw [strsV_length, marksS_length]; exact Nat.le_refl _)]
  simp [strsV_length, marksS_length]

set_option maxHeartbeats 1000000 in
theorem markStringS_calls (lo hi : Nat) (v : Value) (n : Nat) (xs : List Value) (k0 : Nat) (w : World) (h : Own w lo hi 9 1 v n xs) (hk0 : 0 < k0) (hk1 : k0 + n ≤ 4000000000) :
    Calls Tryd.prog 32 #[v, .int .i64 k0] w fun e w' => e = .returned (.int .i64 (k0 + n)) ∧ Own w' lo hi 9 1 v n (strsV (marksS k0 n)) ∧ Only lo hi w w' := by
  obtain ⟨A, cap, rfl, -, hnc, hcm⟩ := h.slice
  have hxl : xs.length = n := by simpa using h.1.1
  unfold maxLen at hcm
  go_enter Tryd.func32, Tryd.ntmps32
  go_wp2
  go_loopw [1, 5] (fun kv i wr => ∃ k : Nat, k ≤ n ∧ i = .int .i64 k ∧ (∃ m : Nat, kv = .int .i64 m ∧ 0 < m ∧ m = k0 + k) ∧ Own wr lo hi 9 1 (.slice A n cap) n (markedS xs k0 k) ∧ Only lo hi w wr)
    (fun _ i _ => n - (intOf i).toNat)
  case atStart => exact ⟨0, Nat.zero_le _, rfl, ⟨k0, rfl, hk0, by omega⟩, by rw [markedS_zero]; exact h, Only.refl _⟩
  case round =>
    obtain ⟨k, hk, rfl, ⟨m, rfl, hm0, hme⟩, hown, ho⟩ := hrel
    have hm1 : m ≤ 4000000000 := by omega
    have HM := Lib.hid hme
    have HX := Lib.hid hxl
    clear hme
    by_cases hlt : k < n
    · obtain ⟨g, cap', hv, hg1, hg2, hg3, -, -, hc, hf⟩ := hown.open_ (by omega)
      simp only [Value.slice.injEq, true_and] at hv
      obtain ⟨rfl, rfl⟩ := hv
      clear hc hxl
      go_wp2_with fail
      refine (markText_calls m _ hm0 (by omega)).mono ?_
      rintro e w1 ⟨rfl, hb1⟩
      have o1 := hown.below hb1
      obtain ⟨y, hy⟩ := some_at xs (show k < xs.length by rw [HX.out]; exact hlt)
      have d1 : w1.cell? ⟨g, k, none⟩ = some y := (o1.1.cellAt _ (by omega)).trans ((markedS_at xs k0 k).trans hy)
      have f1 : w1.frozen? ⟨g, k, none⟩ = false := o1.1.frozenAt _
      clear hy hf
      go_wp2
      go_roundw
      case rel => exact ⟨k + 1, by omega, by go_num, ⟨m + 1, by go_num, by omega, by have := HM.out; omega⟩, by
        have h1 := o1.set_ k (.string (mtext m))
        rw [HM.out, markedS_set _ _ (by have := HX.out; omega)] at h1
        rw [HM.out]
        exact h1, (ho.trans (Only.of_below hb1)).setCell hg1 hg2 _⟩
      case measure => simp [intOf]; omega
    · obtain rfl : k = n := by omega
      clear hxl
      go_wp2
      go_ret
      exact ⟨ret_int (by have := HM.out; omega), by have h1 := HX.out; subst h1; rwa [markedS_all] at hown, ho⟩

theorem heldS_step {w wx w1 : World} {a : Addr} {v : Value} (ha : a.block < w.heap.size) (h : wx.cell? a = some v ∧ Below w.heap.size w wx) (hb : Below wx.heap.size wx w1) : w1.cell? a = some v ∧ Below w.heap.size w w1 :=
  ⟨(hb.cell (by have := h.2.size; omega)).trans h.1, h.2.trans (hb.mono h.2.size)⟩
theorem heldS_drew {w wx : World} {a : Addr} {v : Value} (h : wx.cell? a = some v ∧ Below w.heap.size w wx) : wx.drew.cell? a = some v ∧ Below w.heap.size w wx.drew := ⟨h.1, h.2.drew⟩

set_option maxHeartbeats 1000000 in
theorem heldStringS_calls (A : Option Addr) (cap n : Nat) (k0 : Nat) (w : World) (hr : Reads w w.heap.size 1 A n (strsV (marksS k0 n))) (hk0 : 0 < k0) (hk1 : k0 + n ≤ 4000000000) :
    Calls Tryd.prog 34 #[.slice A n cap, .int .i64 k0] w fun e w' => e = .returned (.int .i64 (k0 + n)) ∧ Below w.heap.size w w' := by
  go_enter Tryd.func34, Tryd.ntmps34
  go_wp2
  go_loopw [1, 5] (fun kv i wr => ∃ k : Nat, k ≤ n ∧ i = .int .i64 k ∧ (∃ m : Nat, kv = .int .i64 m ∧ 0 < m ∧ m = k0 + k) ∧ Below w.heap.size w wr)
    (fun _ i _ => n - (intOf i).toNat)
  case atStart => exact ⟨0, Nat.zero_le _, rfl, ⟨k0, rfl, hk0, by omega⟩, Below.refl _ _⟩
  case round =>
    obtain ⟨k, hk, rfl, ⟨m, rfl, hm0, hme⟩, hb⟩ := hrel
    have hm1 : m ≤ 4000000000 := by omega
    by_cases hlt : k < n
    · obtain ⟨b, off, rfl, hb0, hc⟩ := (hr.below hb).2 (by omega)
      have c1 : wr.cell? ⟨b, off + k, none⟩ = some (.string (mtext m)) := by rw [hme]; exact hc k _ (strsV_at (marksS_at hlt))
      have HM := Lib.hid hme
      have i1 : (k : Int) < (n : Int) := by omega
      have i0 : (0 : Int) ≤ (k : Int) := by omega
      clear hme hc
      have ha1 : (⟨b, off + k, none⟩ : Addr).block < w.heap.size := hb0
      have S0 : wr.cell? ⟨b, off + k, none⟩ = some (.string (mtext m)) ∧ Below w.heap.size w wr := ⟨c1, hb⟩
      go_wp2
      go_region_held3 (fun w' => w'.cell? ⟨b, off + k, none⟩ = some (.string (mtext m)) ∧ Below w.heap.size w w') (first | exact S0 | exact heldS_drew S0 | assumption | exact heldS_step ha1 (by assumption) (by assumption) | exact heldS_drew (by assumption)) (first | (go_at_call 75; refine (markText_calls m _ hm0 (by omega)).mono ?_; rintro e w1 ⟨rfl, hb1⟩))
      have S1 : w1.cell? ⟨b, off + k, none⟩ = some (.string (mtext m)) ∧ Below w.heap.size w w1 := by assumption
      have hb3 := S1.2
      go_wp2
      go_roundw
      case rel => exact ⟨k + 1, by omega, by go_num, ⟨m + 1, by go_num, by omega, by have := HM.out; omega⟩, hb3⟩
      case measure => simp [intOf]; omega
    · obtain rfl : k = n := by omega
      have HM := Lib.hid hme
      clear hme
      go_wp2
      go_ret
      exact ⟨ret_int (by have := HM.out; omega), hb⟩
end Go.Proofs.YtnndkdkmhjpcpaaDoor
