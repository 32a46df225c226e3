/-
  What merging keeps, as plain Lean. No program is named here.
-/
import Derived.Test.YticdjneihcimeaaMergePl
namespace Go.Proofs.Yticdjneihcimeaa
set_option linter.unusedVariables false

def textsOf (l : List CueD) : ByteArray := l.foldl (fun a c => a ++ c.2.2 ++ sp1) ⟨#[]⟩
theorem texts_snoc (l : List CueD) (c : CueD) : textsOf (l ++ [c]) = textsOf l ++ c.2.2 ++ sp1 := by simp [textsOf]
theorem texts_take {l : List CueD} {k : Nat} {c : CueD} (h : l[k]? = some c) : textsOf (l.take (k + 1)) = textsOf (l.take k) ++ c.2.2 ++ sp1 := by rw [take_succ_of h, texts_snoc]
theorem texts_size {l : List CueD} (h : ∀ c ∈ l, c.2.2.size ≤ 200) : ∀ k, k ≤ l.length → (textsOf (l.take k)).size ≤ k * 201 := by
  intro k
  induction k with
  | zero => intro _; simp [textsOf]; rfl
  | succ k ih =>
    intro hk
    obtain ⟨c, hc⟩ := some_at l (show k < l.length by omega)
    have h1 := ih (by omega)
    have h2 := h c (List.mem_of_getElem? hc)
    rw [texts_take hc, ByteArray.size_append, ByteArray.size_append]
    have : sp1.size = 1 := rfl
    omega

structure Merged (out l : List CueD) : Prop where
  chain : chainB 0 out = true
  last : lastOf 0 out = lastOf 0 l
  head : out.head?.map (·.1) = l.head?.map (·.1)
  text : textsOf out = textsOf l

theorem merged_step {gap : Int} {out l : List CueD} {c : CueD} (h : Merged out l) (hc : okAt (lastOf 0 l) c = true) : Merged (mergeStep gap out c) (l ++ [c]) := by
  obtain ⟨h1, h2, h3, h4⟩ := h
  rcases List.eq_nil_or_concat out with rfl | ⟨I, d, rfl⟩
  · have hl : l = [] := by
      cases l with
      | nil => rfl
      | cons x l => simp at h3
    subst hl
    rw [step_nil]
    exact ⟨by simp [chainB]; exact hc, rfl, rfl, rfl⟩
  · rw [List.concat_eq_append] at *
    have hne : ∃ x l', l = x :: l' := by
      cases l with
      | nil => cases I <;> simp at h3
      | cons x l => exact ⟨x, l, rfl⟩
    obtain ⟨x, l', rfl⟩ := hne
    have h5 := okAt_yes hc
    rw [← h2, lastOf_snoc] at h5
    rw [chain_append, Bool.and_eq_true] at h1
    have h6 : okAt (lastOf 0 I) d = true := by simpa [chainB] using h1.2
    have h7 := okAt_yes h6
    cases hm : mayB gap d c
    · rw [step_no hm]
      refine ⟨?_, by rw [lastOf_snoc, lastOf_snoc], ?_, by rw [texts_snoc, texts_snoc (x :: l'), h4]⟩
      · rw [chain_append, chain_append, h1.1, h1.2, lastOf_snoc]
        simp only [chainB, Bool.and_true, Bool.true_and]
        exact okAt_of h5.1 h5.2.1 h5.2.2.1 h5.2.2.2.1 h5.2.2.2.2
      · cases I <;> simpa using h3
    · rw [step_yes hm]
      simp only [mayB, Bool.and_eq_true] at hm
      refine ⟨?_, by rw [lastOf_snoc, lastOf_snoc], ?_, ?_⟩
      · rw [chain_append, h1.1]
        simp only [chainB, Bool.and_true, Bool.true_and]
        exact okAt_of h7.1 (by simp only; omega) h5.2.2.1 h5.2.2.2.1 hm.2
      · cases I <;> simpa using h3
      · rw [texts_snoc, texts_snoc (x :: l'), ← h4, texts_snoc]
        simp only [joinT, ByteArray.append_assoc]

theorem merged_all {gap : Int} {l : List CueD} (hv : chainB 0 l = true) : ∀ k, k ≤ l.length → Merged (mergeAll gap (l.take k)) (l.take k) := by
  intro k
  induction k with
  | zero => intro _; exact ⟨rfl, rfl, rfl, rfl⟩
  | succ k ih =>
    intro hk
    obtain ⟨c, hc⟩ := some_at l (show k < l.length by omega)
    have h1 := ih (by omega)
    have h2 : okAt (lastOf 0 (l.take k)) c = true := by
      have h3 := hv
      rw [← List.take_append_drop (k + 1) l, chain_append, Bool.and_eq_true, take_succ_of hc, chain_append, Bool.and_eq_true] at h3
      simpa [chainB] using h3.1.2
    rw [merge_snoc gap hc, take_succ_of hc]
    exact merged_step h1 h2
theorem merged_of {gap : Int} {l m : List CueD} (h : mergeL l gap = some m) : validB m = true ∧ Merged m l ∧ m.length ≤ l.length := by
  have h9 := merge_le l gap
  rw [h] at h9
  unfold mergeL at h
  split at h
  · rename_i hc
    simp only [Option.some.injEq] at h
    simp only [Bool.and_eq_true, validB, decide_eq_true_eq] at hc
    have h1 := merged_all (gap := gap) hc.1.2 l.length (Nat.le_refl _)
    rw [take_all, h] at h1
    simp only [Option.getD_some] at h9
    refine ⟨?_, h1, h9⟩
    simp only [validB, Bool.and_eq_true, decide_eq_true_eq]
    exact ⟨by omega, h1.chain⟩
  · cases h
/-- The first start and the last end. -/
theorem merged_ends {m l : List CueD} (h : Merged m l) (hl : 0 < l.length) : 0 < m.length ∧ ∃ c d e f, m[0]? = some c ∧ l[0]? = some d ∧ c.1 = d.1 ∧ m[m.length - 1]? = some e ∧ l[l.length - 1]? = some f ∧ e.2.1 = f.2.1 := by
  obtain ⟨h1, h2, h3, h4⟩ := h
  have hne : 0 < m.length := by
    cases m with
    | nil => cases l with
      | nil => simp at hl
      | cons x l => simp at h3
    | cons x m => simp
  rcases List.eq_nil_or_concat m with rfl | ⟨I, e, rfl⟩
  · simp at hne
  rcases List.eq_nil_or_concat l with rfl | ⟨J, f, rfl⟩
  · simp at hl
  simp only [List.concat_eq_append] at *
  rw [lastOf_snoc, lastOf_snoc] at h2
  obtain ⟨c, hc⟩ := some_at (I ++ [e]) (show 0 < _ by simp)
  obtain ⟨d, hd⟩ := some_at (J ++ [f]) (show 0 < _ by simp)
  refine ⟨hne, c, d, e, f, hc, hd, ?_, by simp, by simp, h2⟩
  rw [List.head?_eq_getElem?, List.head?_eq_getElem?, hc, hd] at h3
  simpa using h3
end Go.Proofs.Yticdjneihcimeaa
