/-
  The laws' marks in slices of slices of int: put in and read again.
-/
import Derived.Test.YthokekgdiebhjaaDoorRowsSS
namespace Go.Proofs.YthokekgdiebhjaaDoor
open Go.RowKit
set_option linter.unusedVariables false
set_option maxRecDepth 100000

def totalSS (rows : List (List Int)) : Nat := (rows.map List.length).sum
theorem totalSS_take {rows : List (List Int)} {j : Nat} {r : List Int} (h : rows[j]? = some r) : totalSS (rows.take (j + 1)) = totalSS (rows.take j) + r.length := by
  unfold totalSS
  rw [take_succ_of h, List.map_append, List.sum_append]
  simp
theorem totalSS_take_le (rows : List (List Int)) (j : Nat) : totalSS (rows.take j) ≤ totalSS rows := by
  have h : totalSS rows = totalSS (rows.take j) + totalSS (rows.drop j) := by
    unfold totalSS
    rw [← List.sum_append, ← List.map_append, List.take_append_drop]
  omega
theorem totalSS_len {rows : List (List Int)} {B : Nat} (h : ∀ r ∈ rows, r.length ≤ B) : totalSS rows ≤ rows.length * B := by
  induction rows with
  | nil => simp [totalSS]
  | cons r rows ih =>
    have h1 := ih fun x hx => h x (by simp [hx])
    have h2 := h r (by simp)
    simp only [totalSS, List.map_cons, List.sum_cons, List.length_cons, Nat.add_mul] at h1 ⊢
    omega
def marksSS (k : Int) (rows : List (List Int)) : List (List Int) := (List.range rows.length).map fun j => marks (k + (totalSS (rows.take j) : Nat)) (rows.getD j []).length
theorem marksSS_length (k : Int) (rows : List (List Int)) : (marksSS k rows).length = rows.length := by simp [marksSS]
theorem marksSS_at {k : Int} {rows : List (List Int)} {j : Nat} {r : List Int} (h : rows[j]? = some r) : (marksSS k rows)[j]? = some (marks (k + (totalSS (rows.take j) : Nat)) r.length) := by
  have hj := (List.getElem?_eq_some_iff.1 h).1
  have hg : rows.getD j [] = r := by rw [List.getD_eq_getElem?_getD, h]; rfl
  have h2 : rows[j].length = r.length := by rw [← (List.getElem?_eq_some_iff.1 h).2]
  simp [marksSS, hj, h2]
def markedSS (k : Int) (rows : List (List Int)) (i : Nat) : List (List Int) := (marksSS k rows).take i ++ rows.drop i
theorem markedSS_zero (k : Int) (rows : List (List Int)) : markedSS k rows 0 = rows := by simp [markedSS]
theorem markedSS_all (k : Int) (rows : List (List Int)) : markedSS k rows rows.length = marksSS k rows := by
  unfold markedSS
  rw [List.take_of_length_le (by rw [marksSS_length]; exact Nat.le_refl _)]
  simp
theorem markedSS_length (k : Int) (rows : List (List Int)) {i : Nat} (h : i ≤ rows.length) : (markedSS k rows i).length = rows.length := by simp [markedSS, marksSS_length]; omega
theorem markedSS_at {k : Int} {rows : List (List Int)} {j : Nat} {r : List Int} (h : rows[j]? = some r) : (markedSS k rows j)[j]? = some r := by
  have hj := (List.getElem?_eq_some_iff.1 h).1
  unfold markedSS
  rw [List.getElem?_append_right (by simp; omega)]
  simp only [List.length_take, marksSS_length, List.getElem?_drop]
  rw [show j + (j - min j rows.length) = j by omega]
  exact h
theorem markedSS_set {k : Int} {rows : List (List Int)} {j : Nat} {r : List Int} (h : rows[j]? = some r) : (markedSS k rows j).set j (marks (k + (totalSS (rows.take j) : Nat)) r.length) = markedSS k rows (j + 1) := by
  have hj := (List.getElem?_eq_some_iff.1 h).1
  unfold markedSS
  rw [take_succ_of (marksSS_at h), List.set_append_right _ _ (by simp; omega)]
  simp only [List.length_take, marksSS_length]
  rw [show j - min j rows.length = 0 by omega, ← List.getElem_cons_drop (h := hj), List.set_cons_zero, List.append_assoc]
  rfl

/-- A row's own block, told tightly. -/
theorem row_tight {w : World} {lo n size : Nat} {e : TypeId} {u : Value} {xs : List Value} (h : w.ownsRow lo e size u n xs) : ∃ a, Own w a (a + 1) e size u n xs ∧ (∀ g, u.ownBlock = some g → g = a) ∧ (u.ownBlock = some a ∨ a = w.heap.size) := by
  rcases h.2 with ⟨rfl, h0⟩ | ⟨g, cap, cur, rfl, hb, rest⟩
  · exact ⟨w.heap.size, ⟨⟨h.1, .inl ⟨rfl, h0⟩⟩, fun g hg => by simp [Value.ownBlock] at hg⟩, fun g hg => by simp [Value.ownBlock] at hg, .inr rfl⟩
  · refine ⟨g, ⟨⟨h.1, .inr ⟨g, cap, cur, rfl, Nat.le_refl _, rest⟩⟩, fun g' hg => ?_⟩, fun g' hg => ?_, .inl rfl⟩
    · simp only [Value.ownBlock, Option.some.injEq] at hg; omega
    · simp only [Value.ownBlock, Option.some.injEq] at hg; omega
theorem RowsAt.set_ {w w' : World} {lo a j : Nat} {vs : List Value} {rows : List (List Int)} (h : RowsAt w lo vs rows) {u : Value} {r r' : List Int} (hu : vs[j]? = some u) (hr : rows[j]? = some r) (hl : r'.length = r.length) (ho : Only a (a + 1) w w') (ha : ∀ g, u.ownBlock = some g → g = a) (hs : u.ownBlock = some a ∨ a = w.heap.size) (hn : Own w' a (a + 1) 3 1 u r.length (ints r')) : RowsAt w' lo vs (rows.set j r') := by
  refine ⟨by simp [h.len], fun i x y hx hy => ?_, h.apart⟩
  by_cases hij : i = j
  · subst hij
    rw [hu] at hx
    obtain rfl := Option.some.inj hx
    have hj := (List.getElem?_eq_some_iff.1 hr).1
    rw [List.getElem?_set_self hj] at hy
    obtain rfl := Option.some.inj hy
    rw [hl]
    rcases hs with hs | hs
    · exact hn.1.base ((h.row i u r hu hr).lt a hs).1
    · rcases (h.row i u r hu hr).2 with ⟨rfl, h0⟩ | ⟨g, cap, cur, rfl, hb, hh, _⟩
      · exact ⟨hn.1.1, .inl ⟨rfl, h0⟩⟩
      · exact hn.1.base (by have := ha g rfl; omega)
  · rw [List.getElem?_set_ne (fun e => hij e.symm)] at hy
    have hro := h.row i x y hx hy
    refine ownsRow_only hro ho fun g hg => ?_
    rcases hs with hs | hs
    · have := h.apart i j x u hij hx hu g hg
      have hne : g ≠ a := fun e => this (by rw [hs, e])
      omega
    · have := (hro.lt g hg).2
      omega
theorem only_widen {w w' : World} {a lo hi : Nat} (h : Only a (a + 1) w w') (ha : (lo ≤ a ∧ a < hi) ∨ a = w.heap.size) : Only lo hi w w' :=
  ⟨h.os, h.tape, h.output, h.size, fun k hk hd => h.block k hk (by omega)⟩

end Go.Proofs.YthokekgdiebhjaaDoor
