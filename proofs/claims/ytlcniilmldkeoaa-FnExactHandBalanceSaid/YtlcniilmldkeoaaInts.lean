/-
  Contracts of the laws' helpers over []int: toIntS, eqIntS, markIntS, heldIntS; of the bounds' tests l1In and in.
-/
import Derived.Test.YtlcniilmldkeoaaOwn
import Derived.Test.YtlcniilmldkeoaaRows
import Derived.Deep.QuietTactic
import Derived.BigQuiet
namespace Go.Proofs.Ytlcniilmldkeoaa
open Go.RowKit
set_option linter.unusedVariables false

theorem info_int : (Try.prog.info? 3).map (fun i => (i.zero, i.size, i.bytes)) = some (some (.int .i64 0), 1, 8) := by kernel_rfl

theorem ret_bool {a b : Bool} (h : a = b) : Ending.returned (.bool a) = .returned (.bool b) := by rw [h]
theorem ret_int {k : IntKind} {a b : Int} (h : a = b) : Ending.returned (.int k a) = .returned (.int k b) := by rw [h]
theorem ne_of_at {α : Type} [DecidableEq α] {xs ys : List α} {k : Nat} {x y : α} (hx : xs[k]? = some x) (hy : ys[k]? = some y) (h : ¬ x = y) : false = decide (xs = ys) := by
  rw [decide_eq_false]
  intro he
  rw [he, hy] at hx
  exact h (Option.some.inj hx).symm
theorem eq_of_all {α : Type} [DecidableEq α] {xs ys : List α} (hl : xs.length = ys.length) (h : ∀ j, j < xs.length → xs[j]? = ys[j]?) : true = decide (xs = ys) := by
  rw [decide_eq_true]
  refine List.ext_getElem? fun j => ?_
  rcases Nat.lt_or_ge j xs.length with h' | h'
  · exact h j h'
  · rw [List.getElem?_eq_none h', List.getElem?_eq_none (by omega)]
theorem ne_of_length {α : Type} [DecidableEq α] {xs ys : List α} (hl : ¬ xs.length = ys.length) : false = decide (xs = ys) := by
  rw [decide_eq_false]
  intro h
  exact hl (by rw [h])
def inB (n lo hi : Int) : Bool := decide (lo ≤ n) && decide (n ≤ hi)

theorem spec_l1In (n lo hi : Int) (w : World) : Calls Try.prog 19 #[.int .i64 n, .int .i64 lo, .int .i64 hi] w fun e w' => e = .returned (.bool (inB n lo hi)) ∧ w = w' := by
  by_cases h1 : lo ≤ n
  · go_enter Try.func19, Try.ntmps19
    go_wp2
    go_ret
    exact ⟨by simp [inB]; try omega, rfl⟩
  · go_enter Try.func19, Try.ntmps19
    go_wp2
    go_ret
    exact ⟨by simp [inB]; try omega, rfl⟩
theorem impl_in (n lo hi : Int) (w : World) : Calls Try.prog 20 #[.int .i64 n, .int .i64 lo, .int .i64 hi] w fun e w' => e = .returned (.bool (inB n lo hi)) ∧ w = w' := by
  by_cases h1 : lo ≤ n
  · go_enter Try.func20, Try.ntmps20
    go_wp2
    go_ret
    exact ⟨by simp [inB]; try omega, rfl⟩
  · go_enter Try.func20, Try.ntmps20
    go_wp2
    go_ret
    exact ⟨by simp [inB]; try omega, rfl⟩

def ints (zs : List Int) : List Value := zs.map (Value.int .i64)
theorem ints_length (zs : List Int) : (ints zs).length = zs.length := by simp [ints]
theorem ints_at (zs : List Int) {k : Nat} {x : Int} (h : zs[k]? = some x) : (ints zs)[k]? = some (.int .i64 x) := by simp [ints, h]
theorem some_at {α : Type} (l : List α) {k : Nat} (h : k < l.length) : ∃ x, l[k]? = some x := ⟨_, List.getElem?_eq_getElem h⟩

/-- toIntS copies into new memory. -/
def Copied (zs : List Int) (w : World) (e : Ending) (w' : World) : Prop := ∃ v, e = .returned v ∧ Own w' w.heap.size w'.heap.size 3 1 v zs.length (ints zs) ∧ Below w.heap.size w w'

set_option maxHeartbeats 1000000 in
theorem toIntS_calls (A : Option Addr) (cap : Nat) (zs : List Int) (w : World) (hr : Reads w w.heap.size 1 A zs.length (ints zs)) (hn : zs.length ≤ 1048576) :
    Calls Try.prog 12 #[.slice A zs.length cap] w (Copied zs w) := by
  have hmk := run_make_rowN (P := Try.prog) 27 3 Try.underlying27 info_int .i64 .i64 zs.length zs.length (Nat.le_refl _) (by omega) (by omega)
  go_enter Try.func12, Try.ntmps12
  go_wp2
  go_loopw [4] (fun i wr => ∃ k : Nat, k ≤ zs.length ∧ i = .int .i64 k ∧ wr.ownsRow w.heap.size 3 1 (.slice (some ⟨w.heap.size, 0, none⟩) zs.length zs.length) zs.length (filled (ints zs) (.int .i64 0) k) ∧ Below w.heap.size w wr)
    (fun i _ => zs.length - (intOf i).toNat)
  case atStart =>
    refine ⟨0, Nat.zero_le _, rfl, ?_, (Below.refl _ _).alloc (Nat.le_refl _) _⟩
    have h := World.ownsRow_lit (base := w.heap.size) (e := 3) (size := 1) w (madeCells #[Value.int IntKind.i64 0] zs.length) zs.length (Nat.le_refl _) (by unfold maxLen; omega) (by simp [madeCells])
    rw [filled_zero, ints_length, ← toList_madeCells_one]
    exact h
  case round =>
    obtain ⟨k, hk, rfl, hown, hb⟩ := hrel
    have hsz := hb.size
    by_cases hlt : k < zs.length
    · obtain ⟨b, off, rfl, hb0, hc⟩ := hr.2 (by omega)
      obtain ⟨x, hx⟩ := some_at zs hlt
      have cx : wr.cell? ⟨b, off + k, none⟩ = some (.int .i64 x) := (hb.cell hb0).trans (hc k _ (ints_at zs hx))
      have ct : wr.cell? ⟨w.heap.size, k, none⟩ = some (.int .i64 0) := (hown.cellAt k (by omega)).trans (filled_at _ _ (by rw [ints_length]; exact hlt))
      have cf : wr.frozen? ⟨w.heap.size, k, none⟩ = false := hown.frozenAt k
      have HX := Lib.hid hx
      clear hx
      go_wp2
      go_roundw
      case rel =>
        refine ⟨k + 1, by omega, by go_num, ?_, hb.setCell (Nat.le_refl _) _⟩
        have h := (hown.stored k (.int .i64 x)).1
        rwa [filled_set _ _ (ints_at zs HX.out)] at h
      case measure => simp [intOf]; omega
    · obtain rfl : k = zs.length := by omega
      go_wp2
      go_ret
      refine ⟨_, rfl, ⟨?_, fun g hg => ?_⟩, hb⟩
      · rwa [← ints_length zs, filled_all, ints_length] at hown
      · exact (hown.lt g hg).2

set_option maxHeartbeats 1000000 in
theorem eqIntS_calls (A B : Option Addr) (ca cb : Nat) (xs ys : List Int) (w : World) (hx : Reads w w.heap.size 1 A xs.length (ints xs)) (hy : Reads w w.heap.size 1 B ys.length (ints ys)) (hn : xs.length ≤ 1048576) :
    Calls Try.prog 14 #[.slice A xs.length ca, .slice B ys.length cb] w fun e w' => e = .returned (.bool (decide (xs = ys))) ∧ Below w.heap.size w w' := by
  by_cases hl : xs.length = ys.length
  · have h2 : ((xs.length : Int) != (ys.length : Int)) = false := by rw [hl]; simp
    have HL := Lib.hid hl
    clear hl
    go_enter Try.func14, Try.ntmps14
    go_wp2
    go_loopw [5] (fun i wr => ∃ k : Nat, k ≤ xs.length ∧ i = .int .i64 k ∧ (∀ j, j < k → xs[j]? = ys[j]?) ∧ Below w.heap.size w wr)
      (fun i _ => xs.length - (intOf i).toNat)
    case atStart => exact ⟨0, Nat.zero_le _, rfl, fun j hj => absurd hj (Nat.not_lt_zero _), Below.refl _ _⟩
    case round =>
      obtain ⟨k, hk, rfl, hall, hb⟩ := hrel
      have HA := Lib.hid hall
      clear hall
      by_cases hlt : k < xs.length
      · have hlt2 : k < ys.length := by have := HL.out; omega
        obtain ⟨b, off, rfl, hb0, hc⟩ := hx.2 (by omega)
        obtain ⟨b', off', rfl, hb0', hc'⟩ := hy.2 (by omega)
        obtain ⟨x, hxk⟩ := some_at xs hlt
        obtain ⟨y, hyk⟩ := some_at ys hlt2
        have cx : wr.cell? ⟨b, off + k, none⟩ = some (.int .i64 x) := (hb.cell hb0).trans (hc k _ (ints_at xs hxk))
        have cy : wr.cell? ⟨b', off' + k, none⟩ = some (.int .i64 y) := (hb.cell hb0').trans (hc' k _ (ints_at ys hyk))
        have HX := Lib.hid hxk
        have HY := Lib.hid hyk
        have i1 : (k : Int) < (xs.length : Int) := by omega
        have i2 : (k : Int) < (ys.length : Int) := by omega
        have i0 : (0 : Int) ≤ (k : Int) := by omega
        clear hxk hyk hc hc'
        by_cases hxy : x = y
        · subst hxy
          go_wp2
          go_quiet (fail)
          go_wp2
          go_roundw
          case rel => exact ⟨k + 1, by omega, by go_num, fun j hj => by
            rcases Nat.lt_or_ge j k with h | h
            · exact HA.out j h
            · rw [show j = k by omega, HX.out, HY.out], below_drewN hb _⟩
          case measure => simp [intOf]; omega
        · have t1 : (x != y) = true := by simpa using hxy
          have HN := Lib.hid hxy
          clear hxy
          go_wp2
          go_quiet (fail)
          go_wp2
          go_ret
          exact ⟨ret_bool (ne_of_at HX.out HY.out HN.out), below_drewN hb _⟩
      · obtain rfl : k = xs.length := by omega
        go_wp2
        go_ret
        exact ⟨ret_bool (eq_of_all HL.out HA.out), hb⟩
  · have h2 : ((xs.length : Int) != (ys.length : Int)) = true := by simp; omega
    have HL := Lib.hid hl
    clear hl
    go_enter Try.func14, Try.ntmps14
    go_wp2
    go_ret
    exact ⟨ret_bool (ne_of_length HL.out), Below.refl _ _⟩

def marks (k : Int) (n : Nat) : List Int := (List.range n).map fun (j : Nat) => k + (j : Int)
theorem marks_length (k : Int) (n : Nat) : (marks k n).length = n := by simp [marks]
def marked (xs : List Value) (k : Int) (i : Nat) : List Value := ints (marks k i) ++ xs.drop i
theorem marked_zero (xs : List Value) (k : Int) : marked xs k 0 = xs := by simp [marked, marks, ints]
theorem marked_all (xs : List Value) (k : Int) : marked xs k xs.length = ints (marks k xs.length) := by simp [marked]
theorem marked_set (xs : List Value) (k : Int) {i : Nat} (h : i < xs.length) : (marked xs k i).set i (.int .i64 (k + (i : Int))) = marked xs k (i + 1) := by
  unfold marked
  rw [List.set_append_right _ _ (by simp [ints, marks])]
  simp only [ints_length, marks_length, Nat.sub_self]
  rw [← List.getElem_cons_drop (h := h), List.set_cons_zero]
  simp [marks, ints, List.range_succ]
theorem marked_at (xs : List Value) (k : Int) (i : Nat) : (marked xs k i)[i]? = xs[i]? := by
  unfold marked
  rw [List.getElem?_append_right (by simp [ints, marks])]
  simp [ints_length, marks_length]

set_option maxHeartbeats 1000000 in
theorem markIntS_calls (lo hi : Nat) (v : Value) (n : Nat) (xs : List Value) (k0 : Int) (w : World) (h : Own w lo hi 3 1 v n xs) (hk0 : 0 ≤ k0) (hk1 : k0 + n ≤ 4611686018427387904) :
    Calls Try.prog 15 #[v, .int .i64 k0] w fun e w' => e = .returned (.int .i64 (k0 + n)) ∧ Own w' lo hi 3 1 v n (ints (marks k0 n)) ∧ Only lo hi w w' := by
  obtain ⟨A, cap, rfl, -, hnc, hcm⟩ := h.slice
  have hxl : xs.length = n := by simpa using h.1.1
  unfold maxLen at hcm
  go_enter Try.func15, Try.ntmps15
  go_wp2
  go_loopw [1, 5] (fun kv i wr => ∃ k : Nat, k ≤ n ∧ i = .int .i64 k ∧ kv = .int .i64 (k0 + k) ∧ Own wr lo hi 3 1 (.slice A n cap) n (marked xs k0 k) ∧ Only lo hi w wr)
    (fun _ i _ => n - (intOf i).toNat)
  case atStart => exact ⟨0, Nat.zero_le _, rfl, by simp, by rw [marked_zero]; exact h, Only.refl _⟩
  case round =>
    obtain ⟨k, hk, rfl, rfl, hown, ho⟩ := hrel
    have HX := Lib.hid hxl
    by_cases hlt : k < n
    · obtain ⟨g, cap', hv, hg1, hg2, hg3, -, -, hc, hf⟩ := hown.open_ (by omega)
      simp only [Value.slice.injEq, true_and] at hv
      obtain ⟨rfl, rfl⟩ := hv
      obtain ⟨y, hy⟩ := some_at xs (show k < xs.length by omega)
      have ct : wr.cell? ⟨g, k, none⟩ = some y := (hc k (by omega)).trans ((marked_at xs k0 k).trans hy)
      have cf : wr.frozen? ⟨g, k, none⟩ = false := hf k
      clear hxl hy hc hf
      go_wp2
      go_roundw
      case rel => exact ⟨k + 1, by omega, by go_num, by go_num, by
        have h1 := hown.set_ k (.int .i64 (k0 + (k : Int)))
        rwa [marked_set _ _ (by have := HX.out; omega)] at h1, ho.setCell hg1 hg2 _⟩
      case measure => simp [intOf]; omega
    · obtain rfl : k = n := by omega
      clear hxl
      go_wp2
      go_ret
      exact ⟨rfl, by have h1 := HX.out; subst h1; rwa [marked_all] at hown, ho⟩

set_option maxHeartbeats 1000000 in
theorem heldIntS_calls (A : Option Addr) (cap : Nat) (n : Nat) (k0 : Int) (w : World) (hr : Reads w w.heap.size 1 A n (ints (marks k0 n))) (hk0 : 0 ≤ k0) (hk1 : k0 + n ≤ 4611686018427387904) :
    Calls Try.prog 16 #[.slice A n cap, .int .i64 k0] w fun e w' => e = .returned (.int .i64 (k0 + n)) ∧ w = w' := by
  go_enter Try.func16, Try.ntmps16
  go_wp2
  go_loop [1, 5] (fun kv i => ∃ k : Nat, k ≤ n ∧ i = .int .i64 k ∧ kv = .int .i64 (k0 + k))
    (fun _ i => n - (intOf i).toNat)
  case atStart => exact ⟨0, Nat.zero_le _, rfl, by simp⟩
  case round =>
    obtain ⟨k, hk, rfl, rfl⟩ := hrel
    by_cases hlt : k < n
    · obtain ⟨b, off, rfl, hb0, hc⟩ := hr.2 (by omega)
      have cx : w.cell? ⟨b, off + k, none⟩ = some (.int .i64 (k0 + (k : Int))) := hc k _ (ints_at _ (by simp [marks, hlt]))
      clear hc
      go_wp2
      go_round
      case rel => exact ⟨k + 1, by omega, by go_num, by go_num⟩
      case measure => simp [intOf]; omega
    · obtain rfl : k = n := by omega
      go_wp2
      go_ret
      exact ⟨rfl, rfl⟩
end Go.Proofs.Ytlcniilmldkeoaa
