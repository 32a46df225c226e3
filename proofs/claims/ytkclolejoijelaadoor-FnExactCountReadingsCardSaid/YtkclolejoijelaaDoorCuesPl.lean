/-
  Cues as plain data, and their cells. No program is named here.
-/
import Derived.Test.YtkclolejoijelaaDoorWords
namespace Go.Proofs.YtkclolejoijelaaDoor
open Go.RowKit
set_option linter.unusedVariables false

/-- A cue: its start, its end, its text. -/
abbrev CueD := Int × Int × ByteArray
def cueV (c : CueD) : List Value := [.int .i64 c.1, .int .i64 c.2.1, .string c.2.2]
def cuesV (l : List CueD) : List Value := l.flatMap cueV
theorem cuesV_length (l : List CueD) : (cuesV l).length = l.length * 3 := by
  induction l with
  | nil => rfl
  | cons c l ih => simp only [cuesV, List.flatMap_cons, List.length_append, List.length_cons] at ih ⊢; rw [ih]; simp [cueV]; omega
theorem cuesV_snoc (l : List CueD) (c : CueD) : cuesV (l ++ [c]) = cuesV l ++ cueV c := by simp [cuesV]
theorem cuesV_append (l m : List CueD) : cuesV (l ++ m) = cuesV l ++ cuesV m := by simp [cuesV]
theorem cuesV_at {l : List CueD} {k : Nat} {c : CueD} (h : l[k]? = some c) : (cuesV l)[k * 3]? = some (.int .i64 c.1) ∧ (cuesV l)[k * 3 + 1]? = some (.int .i64 c.2.1) ∧ (cuesV l)[k * 3 + 2]? = some (.string c.2.2) := by
  obtain ⟨a, b, rfl, rfl⟩ := split_at h
  have e : cuesV (a ++ c :: b) = cuesV a ++ (cueV c ++ cuesV b) := by simp [cuesV]
  have hn := cuesV_length a
  refine ⟨?_, ?_, ?_⟩
  · rw [e, List.getElem?_append_right (by omega), hn, Nat.sub_self]; rfl
  · rw [e, List.getElem?_append_right (by omega), hn, show a.length * 3 + 1 - a.length * 3 = 1 by omega]; rfl
  · rw [e, List.getElem?_append_right (by omega), hn, show a.length * 3 + 2 - a.length * 3 = 2 by omega]; rfl
/-- The k-th cue is overwritten. -/
theorem cuesV_set {l : List CueD} {k : Nat} (h : k < l.length) (c : CueD) : (((cuesV l).set (k * 3) (.int .i64 c.1)).set (k * 3 + 1) (.int .i64 c.2.1)).set (k * 3 + 2) (.string c.2.2) = cuesV (l.set k c) := by
  obtain ⟨x, hx⟩ : ∃ x, l[k]? = some x := ⟨_, List.getElem?_eq_getElem h⟩
  obtain ⟨a, b, rfl, rfl⟩ := split_at hx
  have e : cuesV (a ++ x :: b) = cuesV a ++ (cueV x ++ cuesV b) := by simp [cuesV]
  have e2 : cuesV ((a ++ x :: b).set a.length c) = cuesV a ++ (cueV c ++ cuesV b) := by rw [List.set_append_right _ _ (Nat.le_refl _)]; simp [cuesV]
  have hn := cuesV_length a
  rw [e, e2, List.set_append_right _ _ (by omega), List.set_append_right _ _ (by omega), List.set_append_right _ _ (by omega), hn, Nat.sub_self, show a.length * 3 + 1 - a.length * 3 = 1 by omega, show a.length * 3 + 2 - a.length * 3 = 2 by omega]
  rfl

/-- What a walk reads of the k-th cue. -/
theorem Reads.cue {w : World} {B b off n : Nat} {l : List CueD} {k : Nat} {c : CueD} (hc : ∀ j u, (cuesV l)[j]? = some u → w.cell? ⟨b, off + j, none⟩ = some u) (h : l[k]? = some c) :
    w.cell? ⟨b, off + k * 3, none⟩ = some (.int .i64 c.1) ∧ w.cell? ⟨b, off + k * 3 + 1, none⟩ = some (.int .i64 c.2.1) ∧ w.cell? ⟨b, off + k * 3 + 2, none⟩ = some (.string c.2.2) := by
  obtain ⟨h1, h2, h3⟩ := cuesV_at h
  exact ⟨hc _ _ h1, by rw [Nat.add_assoc]; exact hc _ _ h2, by rw [Nat.add_assoc]; exact hc _ _ h3⟩

def zeroCue : CueD := (0, 0, ⟨#[]⟩)
/-- The cells of a new row of cues. -/
theorem made_cues (n : Nat) : (madeCells #[Value.int .i64 0, .int .i64 0, .string ⟨#[]⟩] (n * 3)).toList = cuesV (List.replicate n zeroCue) := by
  apply List.ext_getElem?
  intro j
  by_cases hj : j < n * 3
  · obtain ⟨q, r, hr, rfl⟩ : ∃ q r, (r = 0 ∨ r = 1 ∨ r = 2) ∧ j = q * 3 + r := ⟨j / 3, j % 3, by omega, by omega⟩
    have hz : (List.replicate n zeroCue)[q]? = some zeroCue := by rw [List.getElem?_replicate, if_pos (by omega)]
    obtain ⟨h1, h2, h3⟩ := cuesV_at hz
    rcases hr with rfl | rfl | rfl
    · rw [Nat.add_zero, h1]
      have hm : q * 3 % 3 = 0 := by omega
      have hj' : q * 3 < n * 3 := by omega
      simp [madeCells, hj', hm, zeroCue]
    · rw [h2]
      have hm : (q * 3 + 1) % 3 = 1 := by omega
      simp [madeCells, hj, hm, zeroCue]
    · rw [h3]
      have hm : (q * 3 + 2) % 3 = 2 := by omega
      simp [madeCells, hj, hm, zeroCue]
  · rw [List.getElem?_eq_none (by simp [madeCells]; omega), List.getElem?_eq_none (by rw [cuesV_length]; simp; omega)]

/-- A row of cues that is filled from its head on. -/
def fillC (l : List CueD) (k : Nat) : List CueD := l.take k ++ List.replicate (l.length - k) zeroCue
theorem fillC_zero (l : List CueD) : fillC l 0 = List.replicate l.length zeroCue := by simp [fillC]
theorem fillC_all (l : List CueD) : fillC l l.length = l := by simp [fillC]
theorem fillC_length (l : List CueD) {k : Nat} (h : k ≤ l.length) : (fillC l k).length = l.length := by simp [fillC]; omega
theorem fillC_at (l : List CueD) {k : Nat} (h : k < l.length) : (fillC l k)[k]? = some zeroCue := by
  unfold fillC
  rw [List.getElem?_append_right (by simp; omega)]
  simp only [List.length_take]
  rw [show k - min k l.length = 0 by omega]
  simp [show 0 < l.length - k by omega]
theorem fillC_set (l : List CueD) {k : Nat} {c : CueD} (h : l[k]? = some c) : (fillC l k).set k c = fillC l (k + 1) := by
  have hk : k < l.length := (List.getElem?_eq_some_iff.1 h).1
  unfold fillC
  rw [List.set_append_right _ _ (by simp; omega)]
  simp only [List.length_take]
  rw [show k - min k l.length = 0 by omega, show l.length - k = (l.length - (k + 1)) + 1 by omega, List.replicate_succ, List.set_cons_zero, List.take_add_one, h]
  simp

/-- Three stores overwrite the k-th cue of a row. -/
theorem Own.setCue {w : World} {lo hi : Nat} {e : TypeId} {g cap n : Nat} {l : List CueD} (h : Own w lo hi e 3 (.slice (some ⟨g, 0, none⟩) n cap) n (cuesV l)) {k : Nat} (hk : k < l.length) (c : CueD) :
    Own (((w.setCell ⟨g, k * 3, none⟩ (.int .i64 c.1)).setCell ⟨g, k * 3 + 1, none⟩ (.int .i64 c.2.1)).setCell ⟨g, k * 3 + 2, none⟩ (.string c.2.2)) lo hi e 3 (.slice (some ⟨g, 0, none⟩) n cap) n (cuesV (l.set k c)) := by
  rw [← cuesV_set hk]
  exact ((h.set_ (k * 3) _).set_ (k * 3 + 1) _).set_ (k * 3 + 2) _
/-- What a walk reads of the k-th cue of an owned row. -/
theorem Own.cue {w : World} {lo hi : Nat} {e : TypeId} {g cap n : Nat} {l : List CueD} (h : Own w lo hi e 3 (.slice (some ⟨g, 0, none⟩) n cap) n (cuesV l)) {k : Nat} {c : CueD} (hk : l[k]? = some c) :
    w.cell? ⟨g, k * 3, none⟩ = some (.int .i64 c.1) ∧ w.cell? ⟨g, k * 3 + 1, none⟩ = some (.int .i64 c.2.1) ∧ w.cell? ⟨g, k * 3 + 2, none⟩ = some (.string c.2.2) := by
  have hl : (cuesV l).length = n * 3 := h.1.1
  have hkl : k < l.length := (List.getElem?_eq_some_iff.1 hk).1
  rw [cuesV_length] at hl
  obtain ⟨h1, h2, h3⟩ := cuesV_at hk
  exact ⟨(h.1.cellAt _ (by omega)).trans h1, (h.1.cellAt _ (by omega)).trans h2, (h.1.cellAt _ (by omega)).trans h3⟩
theorem Only.setCue {lo hi : Nat} {a w : World} (h : Only lo hi a w) {g : Nat} (h1 : lo ≤ g) (h2 : g < hi) (i j k : Nat) (u v x : Value) : Only lo hi a (((w.setCell ⟨g, i, none⟩ u).setCell ⟨g, j, none⟩ v).setCell ⟨g, k, none⟩ x) :=
  ((h.setCell (p := ⟨g, i, none⟩) h1 h2 u).setCell (p := ⟨g, j, none⟩) h1 h2 v).setCell (p := ⟨g, k, none⟩) h1 h2 x
theorem below_setCue {B : Nat} {a w : World} (h : Below B a w) {g : Nat} (hg : B ≤ g) (i j k : Nat) (u v x : Value) : Below B a (((w.setCell ⟨g, i, none⟩ u).setCell ⟨g, j, none⟩ v).setCell ⟨g, k, none⟩ x) :=
  ((h.setCell (p := ⟨g, i, none⟩) hg u).setCell (p := ⟨g, j, none⟩) hg v).setCell (p := ⟨g, k, none⟩) hg x
end Go.Proofs.YtkclolejoijelaaDoor
