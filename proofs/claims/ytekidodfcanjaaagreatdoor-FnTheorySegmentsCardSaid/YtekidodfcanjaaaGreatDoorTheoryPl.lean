/-
  What the rows of SegmentationErrors and DuplicateTexts say of the dictionary: plain values, for the law of the segments. No program is named here.
-/
import Derived.Test.YtekidodfcanjaaaGreatDoorGridPl
import Derived.Test.YtekidodfcanjaaaGreatDoorDictPl
namespace Go.Proofs.YtekidodfcanjaaaGreatDoor
set_option linter.unusedVariables false

/-- A row of the segmentation's errors names two entries whose outlines beside each other are not segmented as these two. -/
theorem errF_what {l : List EntD} {i k : Nat} {r : List Int} (h : errF l i k = some r) : ∃ a b, r = [(i : Int), (k : Int)] ∧ l[i]? = some a ∧ l[k]? = some b ∧ segBad l a.1 b.1 = true := by
  unfold errF at h
  split at h
  · rename_i a b ha hb
    split at h
    · rename_i hs
      simp at h
      exact ⟨a, b, h.symm, ha, hb, hs⟩
    · cases h
  · cases h
theorem errD_what {l : List EntD} {r : List Int} (h : r ∈ errD l) : dictB l = true ∧ ∃ (i k : Nat) (a b : EntD), r = [(i : Int), (k : Int)] ∧ i < l.length ∧ k < l.length ∧ l[i]? = some a ∧ l[k]? = some b ∧ segBad l a.1 b.1 = true := by
  unfold errD at h
  split at h
  · rename_i hv
    obtain ⟨i, m, h1, h2, h3⟩ := gT_mem h
    obtain ⟨a, b, e, ha, hb, hs⟩ := errF_what h3
    exact ⟨hv, i, m, a, b, e, h1, h2, ha, hb, hs⟩
  · cases h
theorem segBad_not {l : List EntD} {x y : List Int} (h : segBad l x y = true) : ¬ ((segD l (x ++ y)).length = 2 ∧ segFst (segD l (x ++ y)) = x.length) := by
  intro ⟨h1, h2⟩
  simp [segBad, h1, h2] at h

/-- A row of duplicates names entries of one text. -/
theorem dupG_text (l : List EntD) (t : ByteArray) : ∀ m, ∀ j ∈ dupG l t m, ∃ (i : Nat) (c : EntD), j = (i : Int) ∧ i < m ∧ l[i]? = some c ∧ c.2 = t
  | 0, j, h => by simp [dupG] at h
  | m + 1, j, h => by
    unfold dupG at h
    rcases List.mem_append.1 h with h | h
    · obtain ⟨i, c, e, hi, hc, ht⟩ := dupG_text l t m j h
      exact ⟨i, c, e, by omega, hc, ht⟩
    · split at h
      · rename_i c hc
        split at h
        · rename_i ht
          simp at h
          exact ⟨m, c, h, by omega, hc, ht⟩
        · simp at h
      · simp at h
theorem dupT_text (l : List EntD) : ∀ k, ∀ r ∈ dupT l k, ∃ t : ByteArray, r = dupG l t l.length ∧ 1 < r.length
  | 0, r, h => by simp [dupT] at h
  | k + 1, r, h => by
    unfold dupT at h
    rcases List.mem_append.1 h with h | h
    · exact dupT_text l k r h
    · split at h
      · rename_i c hc
        split at h
        · rename_i ho
          simp at h
          refine ⟨c.2, h, ?_⟩
          unfold dupOk at ho
          rw [Bool.and_eq_true] at ho
          have := of_decide_eq_true ho.2
          rw [h]
          exact this
        · simp at h
      · simp at h
theorem dupD_text {l : List EntD} {r : List Int} (h : r ∈ dupD l) : 1 < r.length ∧ ∃ t : ByteArray, ∀ (j : Nat) (x : Int), r[j]? = some x → ∃ (i : Nat) (c : EntD), x = (i : Int) ∧ i < l.length ∧ l[i]? = some c ∧ c.2 = t := by
  unfold dupD at h
  split at h
  · obtain ⟨t, e, hl⟩ := dupT_text l _ r h
    refine ⟨hl, t, fun j x hx => ?_⟩
    rw [e] at hx
    exact dupG_text l t _ x (List.mem_of_getElem? hx)
  · cases h
end Go.Proofs.YtekidodfcanjaaaGreatDoor
