/-
  The entries that share a translation: plain values.
-/
import Derived.Test.YtoblenmaaloglaaDoorDictPl
namespace Go.Proofs.YtoblenmaaloglaaDoor
set_option linter.unusedVariables false

def dupG (l : List EntD) (t : ByteArray) : Nat → List Int
  | 0 => []
  | m + 1 => dupG l t m ++ (match l[m]? with | some c => if c.2 = t then [(m : Int)] else [] | none => [])
theorem dupG_yes {l : List EntD} {t : ByteArray} {m : Nat} {c : EntD} (hc : l[m]? = some c) (h : c.2 = t) : dupG l t (m + 1) = dupG l t m ++ [(m : Int)] := by simp [dupG, hc, h]
theorem dupG_no {l : List EntD} {t : ByteArray} {m : Nat} {c : EntD} (hc : l[m]? = some c) (h : ¬ c.2 = t) : dupG l t (m + 1) = dupG l t m := by simp [dupG, hc, h]
theorem dupG_len (l : List EntD) (t : ByteArray) : ∀ m, (dupG l t m).length ≤ m
  | 0 => by simp [dupG]
  | m + 1 => by
    have := dupG_len l t m
    unfold dupG
    rw [List.length_append]
    split
    · split <;> simp <;> omega
    · simp; omega
theorem dupG_lt (l : List EntD) (t : ByteArray) : ∀ m, ∀ j ∈ dupG l t m, 0 ≤ j ∧ j < (m : Int)
  | 0, j, h => by simp [dupG] at h
  | m + 1, j, h => by
    unfold dupG at h
    rcases List.mem_append.1 h with h | h
    · have := dupG_lt l t m j h; omega
    · split at h
      · split at h
        · simp at h; omega
        · simp at h
      · simp at h
theorem dupG_sorted (l : List EntD) (t : ByteArray) : ∀ m, (dupG l t m).Pairwise (· < ·)
  | 0 => by simp [dupG]
  | m + 1 => by
    unfold dupG
    rw [List.pairwise_append]
    refine ⟨dupG_sorted l t m, ?_, fun a ha b hb => ?_⟩
    · split
      · split <;> simp
      · simp
    · have h1 := dupG_lt l t m a ha
      split at hb
      · split at hb
        · simp at hb; omega
        · simp at hb
      · simp at hb
theorem dupG_mem {l : List EntD} {t : ByteArray} {i : Nat} {c : EntD} (hc : l[i]? = some c) (h : c.2 = t) : ∀ m, i < m → (i : Int) ∈ dupG l t m
  | 0, hm => by omega
  | m + 1, hm => by
    rcases Nat.lt_or_ge i m with h1 | h1
    · unfold dupG
      exact List.mem_append_left _ (dupG_mem hc h m h1)
    · obtain rfl : i = m := by omega
      rw [dupG_yes hc h]
      simp
/-- No entry before the i-th one is among them. -/
def firstB (l : List EntD) (t : ByteArray) (i m : Nat) : Bool := (dupG l t m).all fun j => decide ((i : Int) ≤ j)
theorem firstB_zero (l : List EntD) (t : ByteArray) (i : Nat) : firstB l t i 0 = true := rfl
theorem firstB_yes {l : List EntD} {t : ByteArray} {i m : Nat} {c : EntD} (hc : l[m]? = some c) (h : c.2 = t) : firstB l t i (m + 1) = (firstB l t i m && decide ((i : Int) ≤ (m : Int))) := by
  unfold firstB
  rw [dupG_yes hc h, List.all_append]
  simp
theorem firstB_no {l : List EntD} {t : ByteArray} {i m : Nat} {c : EntD} (hc : l[m]? = some c) (h : ¬ c.2 = t) : firstB l t i (m + 1) = firstB l t i m := by
  unfold firstB
  rw [dupG_no hc h]
def dupOk (l : List EntD) (t : ByteArray) (i : Nat) : Bool := firstB l t i l.length && decide (1 < (dupG l t l.length).length)
theorem first_head {l : List EntD} {t : ByteArray} {i : Nat} {c : EntD} (hc : l[i]? = some c) (h : c.2 = t) {x : Int} (hx : (dupG l t l.length)[0]? = some x) : firstB l t i l.length = decide (x = (i : Int)) := by
  have hi := dupG_mem hc h l.length (List.getElem?_eq_some_iff.1 hc).1
  have hs := dupG_sorted l t l.length
  unfold firstB
  cases hd : dupG l t l.length with
  | nil => rw [hd] at hi; simp at hi
  | cons a r =>
    rw [hd] at hx hi hs
    simp at hx
    subst hx
    rw [List.pairwise_cons] at hs
    rw [Bool.eq_iff_iff]
    simp only [List.all_eq_true, decide_eq_true_eq]
    constructor
    · intro hall
      have h1 := hall a (by simp)
      rcases List.mem_cons.1 hi with h2 | h2
      · exact h2.symm
      · have := hs.1 _ h2; omega
    · intro he j hj
      rcases List.mem_cons.1 hj with rfl | hj
      · omega
      · have := hs.1 _ hj; omega
def dupT (l : List EntD) : Nat → List (List Int)
  | 0 => []
  | k + 1 => dupT l k ++ (match l[k]? with | some c => if dupOk l c.2 k then [dupG l c.2 l.length] else [] | none => [])
theorem dupT_yes {l : List EntD} {k : Nat} {c : EntD} (hc : l[k]? = some c) (h : dupOk l c.2 k = true) : dupT l (k + 1) = dupT l k ++ [dupG l c.2 l.length] := by simp [dupT, hc, h]
theorem dupT_no {l : List EntD} {k : Nat} {c : EntD} (hc : l[k]? = some c) (h : dupOk l c.2 k = false) : dupT l (k + 1) = dupT l k := by simp [dupT, hc, h]
theorem dupT_len (l : List EntD) : ∀ k, (dupT l k).length ≤ k
  | 0 => by simp [dupT]
  | k + 1 => by
    have := dupT_len l k
    unfold dupT
    rw [List.length_append]
    split
    · split <;> simp <;> omega
    · simp; omega
theorem dupT_row (l : List EntD) : ∀ k, ∀ r ∈ dupT l k, r.length ≤ l.length
  | 0, r, h => by simp [dupT] at h
  | k + 1, r, h => by
    unfold dupT at h
    rcases List.mem_append.1 h with h | h
    · exact dupT_row l k r h
    · split at h
      · split at h
        · simp at h; subst h; exact dupG_len l _ _
        · simp at h
      · simp at h
def dupD (l : List EntD) : List (List Int) := if dictB l then dupT l l.length else []
theorem dupD_no {l : List EntD} (h : dictB l = false) : dupD l = [] := by simp [dupD, h]
theorem dupD_yes {l : List EntD} (h : dictB l = true) : dupD l = dupT l l.length := by simp [dupD, h]
theorem dupD_len (l : List EntD) : (dupD l).length ≤ 40 := by
  unfold dupD
  split
  · rename_i h
    exact Nat.le_trans (dupT_len l _) (dict_len h)
  · simp
theorem dupD_row (l : List EntD) : ∀ r ∈ dupD l, r.length ≤ 40 := by
  unfold dupD
  split
  · rename_i h
    exact fun r hr => Nat.le_trans (dupT_row l _ r hr) (dict_len h)
  · simp
end Go.Proofs.YtoblenmaaloglaaDoor
