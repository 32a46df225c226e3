/-
  Small words of our own: endings, lists, bounds, the cells of ints, equality of strings. No program is named here.
-/
import Derived.Test.YtkclolejoijelaaDoorOwn
namespace Go.Proofs.YtkclolejoijelaaDoor
open Go.RowKit
set_option linter.unusedVariables false

theorem ret_bool {a b : Bool} (h : a = b) : Ending.returned (.bool a) = .returned (.bool b) := by rw [h]
theorem ret_int {k : IntKind} {a b : Int} (h : a = b) : Ending.returned (.int k a) = .returned (.int k b) := by rw [h]
theorem some_at {α : Type} (l : List α) {k : Nat} (h : k < l.length) : ∃ x, l[k]? = some x := ⟨_, List.getElem?_eq_getElem h⟩
theorem split_at {α : Type} {l : List α} {k : Nat} {x : α} (h : l[k]? = some x) : ∃ a b, l = a ++ x :: b ∧ a.length = k := by
  have hk : k < l.length := (List.getElem?_eq_some_iff.1 h).1
  have h1 : l[k] = x := (List.getElem?_eq_some_iff.1 h).2
  exact ⟨l.take k, l.drop (k + 1), by rw [← h1, List.getElem_cons_drop, List.take_append_drop], by rw [List.length_take]; omega⟩
theorem take_all {α : Type} (l : List α) : l.take l.length = l := List.take_of_length_le (Nat.le_refl _)
theorem take_succ_of {α : Type} {l : List α} {k : Nat} {x : α} (h : l[k]? = some x) : l.take (k + 1) = l.take k ++ [x] := by
  rw [List.take_add_one, h]
  rfl
theorem ne_of_at {α : Type} [DecidableEq α] {xs ys : List α} {k : Nat} {x y : α} (hx : xs[k]? = some x) (hy : ys[k]? = some y) (h : ¬ x = y) : false = decide (xs = ys) := by
  rw [decide_eq_false]
  intro he
  rw [he, hy] at hx
  exact h (Option.some.inj hx).symm
theorem eq_of_all {α : Type} [DecidableEq α] {xs ys : List α} (hl : xs.length = ys.length) (h : ∀ j, j < xs.length → xs[j]? = ys[j]?) : true = decide (xs = ys) := by
  rw [decide_eq_true]
  refine List.ext_getElem? fun j => ?_
  rcases Nat.lt_or_ge j xs.length with h' | h'
  · exact h j h'
  · rw [List.getElem?_eq_none h', List.getElem?_eq_none (by omega)]
theorem ne_of_length {α : Type} [DecidableEq α] {xs ys : List α} (hl : ¬ xs.length = ys.length) : false = decide (xs = ys) := by
  rw [decide_eq_false]
  intro h
  exact hl (by rw [h])

def inB (n lo hi : Int) : Bool := decide (lo ≤ n) && decide (n ≤ hi)
theorem inB_yes {n lo hi : Int} (h1 : lo ≤ n) (h2 : n ≤ hi) : inB n lo hi = true := by simp [inB, h1, h2]
theorem inB_no {n lo hi : Int} (h : ¬ (lo ≤ n ∧ n ≤ hi)) : inB n lo hi = false := by
  simp only [inB, Bool.and_eq_false_iff, decide_eq_false_iff_not]
  omega
theorem inB_iff {n lo hi : Int} : inB n lo hi = true ↔ lo ≤ n ∧ n ≤ hi := by simp [inB]
theorem inB_not {n lo hi : Int} (h : inB n lo hi = false) : ¬ (lo ≤ n ∧ n ≤ hi) := fun h' => by rw [inB_iff.2 h'] at h; cases h

def ints (zs : List Int) : List Value := zs.map (Value.int .i64)
theorem ints_length (zs : List Int) : (ints zs).length = zs.length := by simp [ints]
theorem ints_at (zs : List Int) {k : Nat} {x : Int} (h : zs[k]? = some x) : (ints zs)[k]? = some (.int .i64 x) := by simp [ints, h]
theorem ints_snoc (zs : List Int) (x : Int) : ints (zs ++ [x]) = ints zs ++ [.int .i64 x] := by simp [ints]

def marks (k : Int) (n : Nat) : List Int := (List.range n).map fun (j : Nat) => k + (j : Int)
theorem marks_length (k : Int) (n : Nat) : (marks k n).length = n := by simp [marks]
def marked (xs : List Value) (k : Int) (i : Nat) : List Value := ints (marks k i) ++ xs.drop i
theorem marked_zero (xs : List Value) (k : Int) : marked xs k 0 = xs := by simp [marked, marks, ints]
theorem marked_all (xs : List Value) (k : Int) : marked xs k xs.length = ints (marks k xs.length) := by simp [marked]
theorem marked_set (xs : List Value) (k : Int) {i : Nat} (h : i < xs.length) : (marked xs k i).set i (.int .i64 (k + (i : Int))) = marked xs k (i + 1) := by
  unfold marked
  rw [List.set_append_right _ _ (by simp [ints, marks])]
  simp only [ints_length, marks_length, Nat.sub_self]
  rw [← List.getElem_cons_drop (h := h), List.set_cons_zero]
  simp [marks, ints, List.range_succ]
theorem marked_at (xs : List Value) (k : Int) (i : Nat) : (marked xs k i)[i]? = xs[i]? := by
  unfold marked
  rw [List.getElem?_append_right (by simp [ints, marks])]
  simp [ints_length, marks_length]

theorem str_beq (t u : ByteArray) : (t.toList == u.toList) = decide (t = u) := by
  rw [ByteArray.toList_eq, ByteArray.toList_eq]
  by_cases h : t = u
  · subst h; simp
  · have h2 : ¬ t.data.toList = u.data.toList := fun e => h (WideShapes.bytes_inj e)
    rw [decide_eq_false h]
    simpa using h2
end Go.Proofs.YtkclolejoijelaaDoor
