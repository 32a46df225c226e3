/-
  Facts about the counts of entries, the covered strokes and the unused entries: plain values. No program is named here.
-/
import Derived.Test.YtoimkppjbabgeaaGreatDoorStatPl
namespace Go.Proofs.YtoimkppjbabgeaaGreatDoor
set_option linter.unusedVariables false
set_option linter.unusedSimpArgs false

theorem sum_set_succ : ∀ (xs : List Int) (j : Nat), j < xs.length → (xs.set j (xs.getD j 0 + 1)).sum = xs.sum + 1
  | [], j, h => absurd h (by simp)
  | x :: xs, 0, h => by simp; omega
  | x :: xs, j + 1, h => by
    have ih := sum_set_succ xs j (by simpa using h)
    rw [List.set_cons_succ, List.getD_cons_succ, List.sum_cons, ih, List.sum_cons]
    omega
theorem sum_zeros : ∀ n : Nat, (List.replicate n (0 : Int)).sum = 0
  | 0 => rfl
  | n + 1 => by rw [List.replicate_succ, List.sum_cons, sum_zeros n]; rfl
theorem cntE_sum (l : List EntD) (zs : List Int) (ps : List PieceD) (h : ∀ p ∈ ps, ¬ p.2.2.size = 0 → entJ l zs p < l.length) : ∀ k, (cntE l zs ps k).sum = ((covP ps k : Nat) : Int)
  | 0 => by rw [cntE, sum_zeros]; rfl
  | k + 1 => by
    have ih := cntE_sum l zs ps h k
    cases hp : ps[k]? with
    | none => simp [cntE, covP, hp, ih]
    | some p =>
      by_cases ht : p.2.2.size = 0
      · rw [cntE_no hp ht, covP_no hp ht, ih]
      · rw [cntE_yes hp ht, covP_yes hp ht, sum_set_succ _ _ (by rw [cntE_length]; exact h p (List.mem_of_getElem? hp) ht), ih]
        omega
theorem uses_sum {l : List EntD} {zs : List Int} : (usesD l zs).sum = perP l zs := by
  unfold usesD perP
  split
  · exact cntE_sum l zs (segD l zs) (fun p hp ht => (piece_entry hp ht).2) _
  · rfl
theorem covN_cons (p : PieceD) (ps : List PieceD) : ∀ k, covN (p :: ps) (k + 1) = (if p.2.2.size = 0 then 0 else p.2.1) + covN ps k
  | 0 => by simp [covN]
  | k + 1 => by rw [covN, covN_cons p ps k, covN, List.getElem?_cons_succ, Nat.add_assoc]
theorem segF_cov (l : List EntD) (zs : List Int) : ∀ f i, i ≤ zs.length → covN (segF l zs f i) (segF l zs f i).length ≤ zs.length - i
  | 0, i, _ => by simp [segF, covN]
  | f + 1, i, hi => by
    by_cases h : i < zs.length
    · have hr := tryN_range l zs i h 6
      have ih := segF_cov l zs f (i + (matchD l zs i).1) (by unfold matchD; omega)
      rw [segF, if_pos h, List.length_cons, covN_cons]
      have h2 : (if (matchD l zs i).2.size = 0 then 0 else (matchD l zs i).1) ≤ (matchD l zs i).1 := by split <;> omega
      have h3 : (matchD l zs i).1 = (tryN l zs i 6).1 := rfl
      show (if (matchD l zs i).2.size = 0 then 0 else (matchD l zs i).1) + _ ≤ _
      omega
    · rw [segF, if_neg h]; simp [covN]
theorem covP_le_N {ps : List PieceD} (h : ∀ p ∈ ps, 1 ≤ p.2.1) : ∀ k, covP ps k ≤ covN ps k
  | 0 => Nat.le_refl _
  | k + 1 => by
    have ih := covP_le_N h k
    rw [covP, covN]
    split
    · rename_i p hp
      have := h p (List.mem_of_getElem? hp)
      split <;> omega
    · omega
/-- The counts of pieces and strokes. -/
theorem per_bounds (l : List EntD) (zs : List Int) : 0 ≤ perP l zs ∧ perP l zs ≤ perN l zs ∧ perN l zs ≤ zs.length := by
  unfold perP perN
  split
  · have h1 := covP_le_N (ps := segD l zs) (fun p hp => (segD_ok hp).2.1) (segD l zs).length
    have h2 : covN (segD l zs) (segD l zs).length ≤ zs.length - 0 := segF_cov l zs zs.length 0 (Nat.zero_le _)
    omega
  · omega
theorem zerosT_mem {cs : List Int} {x : Int} : ∀ n, x ∈ zerosT cs n ↔ ∃ k : Nat, k < n ∧ cs[k]? = some 0 ∧ x = k
  | 0 => by simp [zerosT]
  | n + 1 => by
    rw [zerosT, List.mem_append, zerosT_mem n]
    constructor
    · rintro (⟨k, h1, h2, h3⟩ | h)
      · exact ⟨k, by omega, h2, h3⟩
      · split at h
        · rename_i h0
          rw [List.mem_singleton] at h
          exact ⟨n, by omega, h0, h⟩
        · cases h
    · rintro ⟨k, h1, h2, h3⟩
      by_cases hk : k < n
      · exact .inl ⟨k, hk, h2, h3⟩
      · obtain rfl : k = n := by omega
        refine .inr ?_
        rw [if_pos h2, List.mem_singleton]
        exact h3
/-- An entry is among the unused ones exactly if its count is 0. -/
theorem unused_mem {l : List EntD} {zs : List Int} {i : Nat} {x : Int} (hi : (usesD l zs)[i]? = some x) : decide ((i : Int) ∈ unusedD l zs) = decide (x = 0) := by
  have hil := (List.getElem?_eq_some_iff.1 hi).1
  unfold usesD at hi hil
  unfold unusedD
  split at hi
  · rename_i h
    rw [if_pos h] at hil ⊢
    rw [decide_eq_decide, zerosT_mem]
    constructor
    · rintro ⟨k, h1, h2, h3⟩
      obtain rfl : i = k := by omega
      rw [hi] at h2
      exact Option.some.inj h2
    · rintro rfl
      exact ⟨i, hil, hi, rfl⟩
  · simp at hi
theorem uses_bd {l : List EntD} {zs : List Int} : ∀ x ∈ usesD l zs, 0 ≤ x ∧ x ≤ ((segD l zs).length : Int) := fun x hx => by
  unfold usesD at hx
  split at hx
  · exact cntE_bd _ _ _ _ x hx
  · cases hx
end Go.Proofs.YtoimkppjbabgeaaGreatDoor
