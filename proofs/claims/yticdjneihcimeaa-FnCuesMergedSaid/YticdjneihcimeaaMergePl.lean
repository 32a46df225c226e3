/-
  Merging cues, as a plain function. No program is named here.
-/
import Derived.Test.YticdjneihcimeaaCapPl
namespace Go.Proofs.Yticdjneihcimeaa
set_option linter.unusedVariables false

def sp1 : ByteArray := ⟨#[32]⟩
def joinT (a b : ByteArray) : ByteArray := a ++ sp1 ++ b
theorem joinT_size (a b : ByteArray) : (joinT a b).size = a.size + 1 + b.size := by
  unfold joinT
  rw [ByteArray.size_append, ByteArray.size_append]
  rfl
theorem printB_append (a b : ByteArray) : printB (a ++ b) = (printB a && printB b) := by
  unfold printB
  simp [ByteArray.data_append]
theorem caption_join {a b : ByteArray} (ha : captionB a = true) (hb : captionB b = true) : captionB (joinT a b) = decide (a.size + 1 + b.size ≤ 120) := by
  simp only [captionB, Bool.and_eq_true, inB_iff] at ha hb
  have hp : printB (joinT a b) = true := by
    unfold joinT
    rw [printB_append, printB_append, ha.2, hb.2]
    rfl
  unfold captionB
  rw [hp, Bool.and_true, joinT_size]
  by_cases h : a.size + 1 + b.size ≤ 120
  · rw [decide_eq_true h]; exact inB_yes (by omega) (by omega)
  · rw [decide_eq_false h]; exact inB_no (by omega)

/-- May c be merged onto d? -/
def mayB (gap : Int) (d c : CueD) : Bool := decide (c.1 - d.2.1 ≤ gap) && captionB (joinT d.2.2 c.2.2)
def mergeStep (gap : Int) (out : List CueD) (c : CueD) : List CueD :=
  match out.getLast? with
  | some d => if mayB gap d c then out.dropLast ++ [(d.1, c.2.1, joinT d.2.2 c.2.2)] else out ++ [c]
  | none => [c]
def mergeAll (gap : Int) (l : List CueD) : List CueD := l.foldl (mergeStep gap) []
theorem merge_snoc (gap : Int) {l : List CueD} {k : Nat} {c : CueD} (h : l[k]? = some c) : mergeAll gap (l.take (k + 1)) = mergeStep gap (mergeAll gap (l.take k)) c := by
  rw [take_succ_of h]
  simp [mergeAll]
theorem step_nil (gap : Int) (c : CueD) : mergeStep gap [] c = [c] := rfl
theorem step_yes {gap : Int} {I : List CueD} {d c : CueD} (h : mayB gap d c = true) : mergeStep gap (I ++ [d]) c = I ++ [(d.1, c.2.1, joinT d.2.2 c.2.2)] := by simp [mergeStep, h]
theorem step_no {gap : Int} {I : List CueD} {d c : CueD} (h : mayB gap d c = false) : mergeStep gap (I ++ [d]) c = I ++ [d] ++ [c] := by simp [mergeStep, h]

/-- A cue in order. -/
def Fine (c : CueD) : Prop := (0 ≤ c.1 ∧ c.1 ≤ 99999999) ∧ (0 ≤ c.2.1 ∧ c.2.1 ≤ 99999999) ∧ captionB c.2.2 = true
theorem step_fine {gap : Int} {out : List CueD} {c : CueD} (ho : ∀ d ∈ out, Fine d) (hc : Fine c) : (∀ d ∈ mergeStep gap out c, Fine d) ∧ (mergeStep gap out c).length ≤ out.length + 1 := by
  rcases List.eq_nil_or_concat out with rfl | ⟨I, d, rfl⟩
  · rw [step_nil]
    exact ⟨by simpa using hc, by simp⟩
  · rw [List.concat_eq_append] at *
    cases hm : mayB gap d c
    · rw [step_no hm]
      refine ⟨fun x hx => ?_, by simp⟩
      rw [List.mem_append] at hx
      rcases hx with hx | hx
      · exact ho x hx
      · simp at hx; subst hx; exact hc
    · rw [step_yes hm]
      refine ⟨fun x hx => ?_, by simp⟩
      rw [List.mem_append] at hx
      rcases hx with hx | hx
      · exact ho x (List.mem_append_left _ hx)
      · simp at hx
        subst hx
        have hd := ho d (by simp)
        simp only [mayB, Bool.and_eq_true] at hm
        exact ⟨hd.1, hc.2.1, hm.2⟩
theorem merge_fine {gap : Int} {l : List CueD} (hl : ∀ (k : Nat) (c : CueD), l[k]? = some c → Fine c) : ∀ k, k ≤ l.length → (∀ d ∈ mergeAll gap (l.take k), Fine d) ∧ (mergeAll gap (l.take k)).length ≤ k := by
  intro k
  induction k with
  | zero => intro _; simp [mergeAll]
  | succ k ih =>
    intro hk
    obtain ⟨c, hc⟩ := some_at l (show k < l.length by omega)
    have h1 := ih (by omega)
    have h2 := step_fine (gap := gap) h1.1 (hl k c hc)
    rw [merge_snoc gap hc]
    exact ⟨h2.1, by have := h2.2; omega⟩

def mergeL (l : List CueD) (gap : Int) : Option (List CueD) := if validB l && inB gap 0 99999999 then some (mergeAll gap l) else none
theorem merge_bad1 {l : List CueD} {gap : Int} (h : validB l = false) : mergeL l gap = none := by simp [mergeL, h]
theorem merge_bad2 {l : List CueD} {gap : Int} (h : inB gap 0 99999999 = false) : mergeL l gap = none := by simp [mergeL, h]
theorem merge_good {l : List CueD} {gap : Int} (h1 : validB l = true) (h2 : inB gap 0 99999999 = true) : mergeL l gap = some (mergeAll gap l) := by simp [mergeL, h1, h2]
theorem step_len (gap : Int) (out : List CueD) (c : CueD) : (mergeStep gap out c).length ≤ out.length + 1 := by
  rcases List.eq_nil_or_concat out with rfl | ⟨I, d, rfl⟩
  · simp [step_nil]
  · rw [List.concat_eq_append]
    cases hm : mayB gap d c
    · rw [step_no hm]; simp
    · rw [step_yes hm]; simp
theorem fold_len (gap : Int) (l : List CueD) : ∀ out, (l.foldl (mergeStep gap) out).length ≤ out.length + l.length := by
  induction l with
  | nil => intro out; simp
  | cons c l ih =>
    intro out
    have h1 := ih (mergeStep gap out c)
    have h2 := step_len gap out c
    simp only [List.foldl_cons, List.length_cons]
    omega
theorem merge_le (l : List CueD) (gap : Int) : ((mergeL l gap).getD []).length ≤ l.length := by
  unfold mergeL
  split
  · have := fold_len gap l []
    simpa [mergeAll] using this
  · simp
end Go.Proofs.Yticdjneihcimeaa
