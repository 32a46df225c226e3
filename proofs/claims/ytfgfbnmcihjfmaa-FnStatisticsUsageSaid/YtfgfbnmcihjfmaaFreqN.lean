/-
  A sorted row without its repeats: plain values. No program is named here.
-/
import Derived.Test.YtfgfbnmcihjfmaaFreqPl
import Derived.Lib.SlicesCompact
namespace Go.Proofs.Ytfgfbnmcihjfmaa
set_option linter.unusedVariables false
set_option linter.unusedSimpArgs false

section
variable {ds : Array Int}
theorem compZ_mem : ∀ m, ∀ x ∈ Lib.compactUpTo ds m, ∃ j, j < m ∧ x = ds[j]!
  | 0, x, h => by simp [Lib.compactUpTo] at h
  | m + 1, x, h => by
    rw [Lib.compactUpTo_succ] at h
    rcases List.mem_append.1 h with h | h
    · obtain ⟨j, hj, e⟩ := compZ_mem m x h
      exact ⟨j, by omega, e⟩
    · split at h
      · rw [List.mem_singleton] at h; exact ⟨m, by omega, h⟩
      · cases h
theorem compZ_all : ∀ m j, j < m → ds[j]! ∈ Lib.compactUpTo ds m
  | 0, j, h => absurd h (Nat.not_lt_zero _)
  | m + 1, j, h => by
    rw [Lib.compactUpTo_succ]
    rcases Nat.lt_or_ge j m with h' | h'
    · exact List.mem_append_left _ (compZ_all m j h')
    · obtain rfl : j = m := by omega
      by_cases hk : Lib.keeps ds j = true
      · rw [if_pos hk]; exact List.mem_append_right _ (by simp)
      · rw [if_neg hk]
        unfold Lib.keeps at hk
        simp only [decide_eq_true_eq, not_or, Decidable.not_not] at hk
        rw [hk.2]
        exact List.mem_append_left _ (compZ_all j (j - 1) (by omega))
theorem compZ_srt (hs : ∀ i j, i < j → j < ds.size → ds[i]! ≤ ds[j]!) : ∀ m, m ≤ ds.size → (Lib.compactUpTo ds m).Pairwise (· < ·)
  | 0, _ => by simp [Lib.compactUpTo]
  | m + 1, h => by
    rw [Lib.compactUpTo_succ, List.pairwise_append]
    refine ⟨compZ_srt hs m (by omega), by split <;> simp, ?_⟩
    intro a ha b hb
    split at hb
    · next hk =>
      rw [List.mem_singleton] at hb
      subst hb
      obtain ⟨j, hj, rfl⟩ := compZ_mem m a ha
      unfold Lib.keeps at hk
      simp only [decide_eq_true_eq] at hk
      have hk := hk.resolve_left (by omega)
      have h1 := hs (m - 1) m (by omega) (by omega)
      rcases Nat.lt_or_ge j (m - 1) with h' | h'
      · have h2 := hs j (m - 1) h' (by omega)
        omega
      · rw [show j = m - 1 by omega]; omega
    · cases hb
theorem compZ_le : ∀ m, (Lib.compactUpTo ds m).length ≤ m
  | 0 => by simp [Lib.compactUpTo]
  | m + 1 => by
    have := compZ_le m
    rw [Lib.compactUpTo_succ, List.length_append]
    split <;> simp <;> omega
end
theorem compactZ_le (zs : List Int) : (Lib.compact zs).length ≤ zs.length := by
  have := compZ_le (ds := zs.toArray) zs.length
  simpa [Lib.compact] using this
/-- The different ones of l, ascending. -/
def ascZ (l : List Int) : List Int := Lib.compact (l.mergeSort fun x y => decide (x ≤ y))
theorem ascZ_srt (l : List Int) : (ascZ l).Pairwise (· < ·) := by
  unfold ascZ
  have hp : (l.mergeSort fun x y => decide (x ≤ y)).Pairwise (fun x y => decide (x ≤ y) = true) := List.pairwise_mergeSort (by intro a b c h1 h2; simp only [decide_eq_true_eq] at *; omega) (by intro a b; simp only [Bool.or_eq_true, decide_eq_true_eq]; omega) l
  generalize (l.mergeSort fun x y => decide (x ≤ y)) = zs at hp
  refine compZ_srt (ds := zs.toArray) (fun i j hij hj => ?_) zs.length (by simp)
  simp only [List.size_toArray] at hj
  have h1 := List.pairwise_iff_getElem.1 hp i j (by omega) hj hij
  simp only [decide_eq_true_eq] at h1
  rw [getElem!_pos zs.toArray i (by simpa using Nat.lt_trans hij hj), getElem!_pos zs.toArray j (by simpa using hj)]
  simpa using h1
theorem ascZ_mem (l : List Int) (x : Int) : x ∈ ascZ l ↔ x ∈ l := by
  unfold ascZ
  have hm : ∀ x, x ∈ (l.mergeSort fun x y => decide (x ≤ y)) ↔ x ∈ l := fun x => List.mem_mergeSort
  generalize (l.mergeSort fun x y => decide (x ≤ y)) = zs at hm
  rw [← hm]
  constructor
  · intro h
    obtain ⟨j, hj, rfl⟩ := compZ_mem (ds := zs.toArray) zs.length x h
    rw [getElem!_pos zs.toArray j (by simpa using hj)]
    simp
  · intro h
    obtain ⟨j, hj, e⟩ := List.getElem_of_mem h
    have := compZ_all (ds := zs.toArray) zs.length j hj
    rw [getElem!_pos zs.toArray j (by simpa using hj)] at this
    have e2 : zs.toArray[j] = x := by simpa using e
    rw [e2] at this
    exact this
end Go.Proofs.Ytfgfbnmcihjfmaa
