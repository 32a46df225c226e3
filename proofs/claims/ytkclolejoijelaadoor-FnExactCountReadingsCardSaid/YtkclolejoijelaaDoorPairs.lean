/-
  Rows of structs of two cells. No program is named here.
-/
import Derived.Test.YtkclolejoijelaaDoorOwn
import Derived.Test.YtkclolejoijelaaDoorWords
namespace Go.Proofs.YtkclolejoijelaaDoor
open Go.RowKit
set_option linter.unusedVariables false

def flat2 (ps : List (Value × Value)) : List Value := ps.flatMap fun p => [p.1, p.2]
theorem flat2_length (ps : List (Value × Value)) : (flat2 ps).length = ps.length * 2 := by
  induction ps with
  | nil => rfl
  | cons p ps ih => simp only [flat2, List.flatMap_cons, List.length_append, List.length_cons, List.length_nil] at *; omega
theorem flat2_snoc (ps : List (Value × Value)) (p : Value × Value) : flat2 (ps ++ [p]) = flat2 ps ++ [p.1, p.2] := by simp [flat2]
theorem flat2_at {ps : List (Value × Value)} {k : Nat} {p : Value × Value} (h : ps[k]? = some p) : (flat2 ps)[k * 2]? = some p.1 ∧ (flat2 ps)[k * 2 + 1]? = some p.2 := by
  obtain ⟨a, b, rfl, rfl⟩ := split_at h
  have e : flat2 (a ++ p :: b) = flat2 a ++ ([p.1, p.2] ++ flat2 b) := by simp [flat2]
  have hn := flat2_length a
  refine ⟨?_, ?_⟩
  · rw [e, List.getElem?_append_right (by omega), hn, Nat.sub_self]; rfl
  · rw [e, List.getElem?_append_right (by omega), hn, show a.length * 2 + 1 - a.length * 2 = 1 by omega]; rfl
theorem flat2_set {ps : List (Value × Value)} {k : Nat} (h : k < ps.length) (p : Value × Value) : ((flat2 ps).set (k * 2) p.1).set (k * 2 + 1) p.2 = flat2 (ps.set k p) := by
  obtain ⟨x, hx⟩ : ∃ x, ps[k]? = some x := ⟨_, List.getElem?_eq_getElem h⟩
  obtain ⟨a, b, rfl, rfl⟩ := split_at hx
  have e : flat2 (a ++ x :: b) = flat2 a ++ ([x.1, x.2] ++ flat2 b) := by simp [flat2]
  have e2 : flat2 ((a ++ x :: b).set a.length p) = flat2 a ++ ([p.1, p.2] ++ flat2 b) := by rw [List.set_append_right _ _ (Nat.le_refl _)]; simp [flat2]
  have hn := flat2_length a
  rw [e, e2, List.set_append_right _ _ (by omega), List.set_append_right _ _ (by omega), hn, Nat.sub_self, show a.length * 2 + 1 - a.length * 2 = 1 by omega]
  rfl
theorem flat2_set2 {ps : List (Value × Value)} {k : Nat} {u v : Value} (h : ps[k]? = some (u, v)) (x : Value) : (flat2 ps).set (k * 2 + 1) x = flat2 (ps.set k (u, x)) := by
  have hk := (List.getElem?_eq_some_iff.1 h).1
  rw [← flat2_set hk (u, x)]
  have hs : (flat2 ps).set (k * 2) u = flat2 ps := by
    have h1 := (flat2_at h).1
    obtain ⟨h2, h3⟩ := List.getElem?_eq_some_iff.1 h1
    simp only at h3
    rw [← h3]
    exact List.set_getElem_self h2
  simp only [hs]
theorem made_flat2 (u v : Value) (n : Nat) : (madeCells #[u, v] (n * 2)).toList = flat2 (List.replicate n (u, v)) := by
  apply List.ext_getElem?
  intro j
  by_cases hj : j < n * 2
  · obtain ⟨q, r, hr, rfl⟩ : ∃ q r, (r = 0 ∨ r = 1) ∧ j = q * 2 + r := ⟨j / 2, j % 2, by omega, by omega⟩
    have hz : (List.replicate n (u, v))[q]? = some (u, v) := by rw [List.getElem?_replicate, if_pos (by omega)]
    obtain ⟨h1, h2⟩ := flat2_at hz
    rcases hr with rfl | rfl
    · rw [Nat.add_zero, h1]
      have hm : q * 2 % 2 = 0 := by omega
      have hj' : q * 2 < n * 2 := by omega
      simp [madeCells, hj', hm]
    · rw [h2]
      have hm : (q * 2 + 1) % 2 = 1 := by omega
      simp [madeCells, hj, hm]
  · rw [List.getElem?_eq_none (by simp [madeCells]; omega), List.getElem?_eq_none (by rw [flat2_length]; simp; omega)]
/-- A row that is filled from its head on. -/
def fillP (ps : List (Value × Value)) (z : Value × Value) (n : Nat) : List (Value × Value) := ps ++ List.replicate (n - ps.length) z
theorem fillP_length {ps : List (Value × Value)} {n : Nat} (h : ps.length ≤ n) (z : Value × Value) : (fillP ps z n).length = n := by simp [fillP]; omega
theorem fillP_at {ps : List (Value × Value)} {n : Nat} (h : ps.length < n) (z : Value × Value) : (fillP ps z n)[ps.length]? = some z := by
  unfold fillP
  rw [List.getElem?_append_right (Nat.le_refl _), Nat.sub_self]
  simp [show 0 < n - ps.length by omega]
theorem fillP_set {ps : List (Value × Value)} {n : Nat} (h : ps.length < n) (z p : Value × Value) : (fillP ps z n).set ps.length p = fillP (ps ++ [p]) z n := by
  unfold fillP
  rw [List.set_append_right _ _ (Nat.le_refl _), Nat.sub_self, show n - ps.length = (n - (ps ++ [p]).length) + 1 by simp; omega, List.replicate_succ, List.set_cons_zero]
  simp
theorem fillP_all {ps : List (Value × Value)} {n : Nat} (h : ps.length = n) (z : Value × Value) : fillP ps z n = ps := by simp [fillP, h]
section
variable {w : World} {lo hi : Nat} {e : TypeId} {g cap n : Nat} {ps : List (Value × Value)} {A : Option Addr}
theorem Own.setPair (h : Own w lo hi e 2 (.slice (some ⟨g, 0, none⟩) n cap) n (flat2 ps)) {k : Nat} (hk : k < ps.length) (p : Value × Value) :
    Own ((w.setCell ⟨g, k * 2, none⟩ p.1).setCell ⟨g, k * 2 + 1, none⟩ p.2) lo hi e 2 (.slice (some ⟨g, 0, none⟩) n cap) n (flat2 (ps.set k p)) := by
  rw [← flat2_set hk]
  exact (h.set_ (k * 2) _).set_ (k * 2 + 1) _
theorem Own.pair (h : Own w lo hi e 2 (.slice (some ⟨g, 0, none⟩) n cap) n (flat2 ps)) {k : Nat} {p : Value × Value} (hk : ps[k]? = some p) :
    w.cell? ⟨g, k * 2, none⟩ = some p.1 ∧ w.cell? ⟨g, k * 2 + 1, none⟩ = some p.2 := by
  have hl : (flat2 ps).length = n * 2 := h.1.1
  have hkl : k < ps.length := (List.getElem?_eq_some_iff.1 hk).1
  rw [flat2_length] at hl
  obtain ⟨h1, h2⟩ := flat2_at hk
  exact ⟨(h.1.cellAt _ (by omega)).trans h1, (h.1.cellAt _ (by omega)).trans h2⟩
theorem below_setPair {B : Nat} {a w : World} (h : Below B a w) {g : Nat} (hg : B ≤ g) (i j : Nat) (u v : Value) : Below B a ((w.setCell ⟨g, i, none⟩ u).setCell ⟨g, j, none⟩ v) :=
  (h.setCell (p := ⟨g, i, none⟩) hg u).setCell (p := ⟨g, j, none⟩) hg v
theorem flat2_reads {B b off : Nat} (hc : ∀ j u, (flat2 ps)[j]? = some u → w.cell? ⟨b, off + j, none⟩ = some u) {k : Nat} {p : Value × Value} (h : ps[k]? = some p) :
    w.cell? ⟨b, off + k * 2, none⟩ = some p.1 ∧ w.cell? ⟨b, off + k * 2 + 1, none⟩ = some p.2 := by
  obtain ⟨h1, h2⟩ := flat2_at h
  exact ⟨hc _ _ h1, by rw [Nat.add_assoc]; exact hc _ _ h2⟩
end
end Go.Proofs.YtkclolejoijelaaDoor
