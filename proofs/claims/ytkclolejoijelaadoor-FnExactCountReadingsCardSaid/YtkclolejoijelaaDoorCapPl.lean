/-
  Captions and valid tracks of cues, as plain tests. No program is named here.
-/
import Derived.Test.YtkclolejoijelaaDoorCuesPl
namespace Go.Proofs.YtkclolejoijelaaDoor
set_option linter.unusedVariables false

def visible (c : UInt8) : Bool := decide (32 ≤ c.toNat) && decide (c.toNat ≤ 126)
def printB (t : ByteArray) : Bool := t.data.toList.all visible
theorem print_no {t : ByteArray} {k : Nat} (h : k < t.size) (hv : visible t[k] = false) : printB t = false := by
  unfold printB
  rw [List.all_eq_false]
  exact ⟨t[k], by simp [ByteArray.getElem_eq_getElem_data], by simp [hv]⟩
theorem print_yes {t : ByteArray} (h : ∀ k (hk : k < t.size), visible t[k] = true) : printB t = true := by
  unfold printB
  rw [List.all_eq_true]
  intro c hc
  obtain ⟨k, hk, rfl⟩ := List.getElem_of_mem hc
  exact h k (by simpa using hk)
def captionB (t : ByteArray) : Bool := inB t.size 1 120 && printB t

/-- One cue is in order behind a track that ends at 'last'. -/
def okAt (last : Int) (c : CueD) : Bool := decide (last ≤ c.1) && decide (c.1 < c.2.1) && inB c.2.1 0 99999999 && captionB c.2.2
def chainB : Int → List CueD → Bool
  | _, [] => true
  | last, c :: l => okAt last c && chainB c.2.1 l
def lastOf : Int → List CueD → Int
  | a, [] => a
  | _, c :: l => lastOf c.2.1 l
def validB (l : List CueD) : Bool := decide (l.length ≤ 30) && chainB 0 l
theorem lastOf_snoc (a : Int) (l : List CueD) (c : CueD) : lastOf a (l ++ [c]) = c.2.1 := by
  induction l generalizing a with
  | nil => rfl
  | cons d l ih => exact ih _
theorem chain_append (l m : List CueD) : ∀ a : Int, chainB a (l ++ m) = (chainB a l && chainB (lastOf a l) m) := by
  induction l with
  | nil => intro a; simp [chainB, lastOf]
  | cons c l ih =>
    intro a
    simp only [List.cons_append, chainB, ih, Bool.and_assoc, lastOf]
theorem chain_take_yes {l : List CueD} {k : Nat} {c : CueD} (h : l[k]? = some c) (h1 : chainB 0 (l.take k) = true) (h2 : okAt (lastOf 0 (l.take k)) c = true) : chainB 0 (l.take (k + 1)) = true ∧ lastOf 0 (l.take (k + 1)) = c.2.1 := by
  rw [List.take_add_one, h]
  simp only [Option.toList_some]
  rw [chain_append, lastOf_snoc, h1]
  simp [chainB, h2]
theorem chain_no {l : List CueD} {k : Nat} {c : CueD} (h : l[k]? = some c) (h2 : okAt (lastOf 0 (l.take k)) c = false) : validB l = false := by
  obtain ⟨a, b, rfl, rfl⟩ := split_at h
  simp only [List.take_left] at h2
  unfold validB
  rw [chain_append]
  simp [chainB, h2]
theorem lastOf_nonneg {l : List CueD} (h : chainB 0 l = true) : 0 ≤ lastOf 0 l := by
  rcases List.eq_nil_or_concat l with rfl | ⟨m, c, rfl⟩
  · simp [lastOf]
  · rw [List.concat_eq_append] at *
    rw [lastOf_snoc]
    rw [chain_append] at h
    simp only [chainB, okAt, Bool.and_eq_true, inB_iff] at h
    omega
theorem lastOf_le {l : List CueD} (h : chainB 0 l = true) : lastOf 0 l ≤ 99999999 := by
  rcases List.eq_nil_or_concat l with rfl | ⟨m, c, rfl⟩
  · simp [lastOf]
  · rw [List.concat_eq_append] at *
    rw [lastOf_snoc]
    rw [chain_append] at h
    simp only [chainB, okAt, Bool.and_eq_true, inB_iff] at h
    omega
theorem lastOf_take {l : List CueD} {k : Nat} {c : CueD} (h : l[k]? = some c) : lastOf 0 (l.take (k + 1)) = c.2.1 := by
  rw [List.take_add_one, h]
  simp only [Option.toList_some]
  exact lastOf_snoc _ _ _
theorem okAt_of {last : Int} {c : CueD} (h1 : last ≤ c.1) (h2 : c.1 < c.2.1) (h3 : 0 ≤ c.2.1) (h4 : c.2.1 ≤ 99999999) (h5 : captionB c.2.2 = true) : okAt last c = true := by simp [okAt, h1, h2, inB_yes h3 h4, h5]
theorem okAt_no {last : Int} {c : CueD} (h : captionB c.2.2 = false ∨ ¬ (last ≤ c.1 ∧ c.1 < c.2.1 ∧ 0 ≤ c.2.1 ∧ c.2.1 ≤ 99999999)) : okAt last c = false := by
  rcases h with h | h
  · simp [okAt, h]
  · cases ho : okAt last c
    · rfl
    · simp only [okAt, Bool.and_eq_true, inB_iff, decide_eq_true_eq] at ho
      exact absurd ⟨ho.1.1.1, ho.1.1.2, ho.1.2.1, ho.1.2.2⟩ h
theorem okAt_yes {last : Int} {c : CueD} (h : okAt last c = true) : last ≤ c.1 ∧ c.1 < c.2.1 ∧ 0 ≤ c.2.1 ∧ c.2.1 ≤ 99999999 ∧ captionB c.2.2 = true := by
  simp only [okAt, Bool.and_eq_true, inB_iff, decide_eq_true_eq] at h
  exact ⟨h.1.1.1, h.1.1.2, h.1.2.1, h.1.2.2, h.2⟩
end Go.Proofs.YtkclolejoijelaaDoor
