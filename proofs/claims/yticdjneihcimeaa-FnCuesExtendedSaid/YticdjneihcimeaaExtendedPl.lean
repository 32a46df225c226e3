/-
  What extending keeps. Plain Lean over the definitions of the contracts.
-/
import Derived.Test.YticdjneihcimeaaSpecExtend
import Derived.Test.YticdjneihcimeaaTooFast
namespace Go.Proofs.Yticdjneihcimeaa
set_option linter.unusedVariables false

theorem valid_ok {l : List CueD} (hv : validB l = true) {k : Nat} {c : CueD} (h : l[k]? = some c) : okAt (lastOf 0 (l.take k)) c = true := by
  simp only [validB, Bool.and_eq_true] at hv
  have h3 := hv.2
  rw [← List.take_append_drop (k + 1) l, chain_append, Bool.and_eq_true, take_succ_of h, chain_append, Bool.and_eq_true] at h3
  simpa [chainB] using h3.1.2
theorem ext_le {l : List CueD} {gap : Int} {k : Nat} {c : CueD} : c.2.1 ≤ (extOne l gap k c).2.1 := by
  simp only [extOne, mostI]
  split <;> omega
theorem ext_ge {l : List CueD} {gap : Int} {k : Nat} {c : CueD} {x : Int} (h1 : x ≤ c.1 + readT c.2.2) (h2 : x ≤ limitOf l gap k) : x ≤ (extOne l gap k c).2.1 := by
  simp only [extOne, mostI, leastI]
  repeat' split
  all_goals omega
theorem ext_lt {l : List CueD} {gap : Int} {k : Nat} {c : CueD} {x : Int} (h1 : c.2.1 ≤ x) (h2 : limitOf l gap k ≤ x) : (extOne l gap k c).2.1 ≤ x := by
  simp only [extOne, mostI, leastI]
  repeat' split
  all_goals omega
theorem ext_chain {l : List CueD} {gap : Int} (hv : validB l = true) (hg : 0 ≤ gap) : ∀ k, k ≤ l.length → chainB 0 ((extAll l gap).take k) = true := by
  intro k
  induction k with
  | zero => intro _; simp [chainB]
  | succ k ih =>
    intro hk
    obtain ⟨c, hc⟩ := some_at l (show k < l.length by omega)
    have h1 := ih (by omega)
    have h2 := okAt_yes (valid_ok hv hc)
    have hm := extAll_at (gap := gap) hc
    refine (chain_take_yes hm h1 ?_).1
    have hlast : lastOf 0 ((extAll l gap).take k) ≤ c.1 := by
      rcases k with _ | j
      · simpa [lastOf] using h2.1
      · obtain ⟨d, hd⟩ := some_at l (show j < l.length by omega)
        rw [lastOf_take (extAll_at (gap := gap) hd)]
        rw [lastOf_take hd] at h2
        exact ext_lt h2.1 (by rw [limit_next hc]; omega)
    have hle := ext_le (l := l) (gap := gap) (k := k) (c := c)
    have hlim : limitOf l gap k ≤ 99999999 := by
      by_cases hn : k + 1 < l.length
      · obtain ⟨d, hd⟩ := some_at l hn
        rw [limit_next hd]
        have := valid_bounds hv hd
        omega
      · rw [limit_last (by omega)]
        exact Int.le_refl _
    have hup := ext_lt (l := l) (gap := gap) (k := k) (c := c) h2.2.2.2.1 hlim
    exact okAt_of hlast (show c.1 < _ by omega) (by omega) hup h2.2.2.2.2
theorem extended_of {l m : List CueD} {gap : Int} (h : extendL l gap = some m) : validB m = true ∧ m.length = l.length ∧ 0 ≤ gap ∧ gap ≤ 99999999 ∧ validB l = true ∧ m = extAll l gap := by
  unfold extendL at h
  split at h
  · rename_i hc
    simp only [Option.some.injEq] at h
    subst h
    rw [Bool.and_eq_true, inB_iff] at hc
    have h1 := ext_chain hc.1 hc.2.1 l.length (Nat.le_refl _)
    have h2 := extAll_length l gap
    rw [← h2, take_all] at h1
    refine ⟨?_, h2, hc.2.1, hc.2.2, hc.1, rfl⟩
    simp only [validB, Bool.and_eq_true, decide_eq_true_eq]
    have h3 := hc.1
    simp only [validB, Bool.and_eq_true, decide_eq_true_eq] at h3
    exact ⟨by omega, h1⟩
  · cases h
/-- A cue of the extended track is too short only if the next leaves no room. -/
theorem extended_fast {l : List CueD} {gap : Int} {k : Nat} {c d : CueD} (hc : (extAll l gap)[k]? = some c) (hd : (extAll l gap)[k + 1]? = some d) (hf : fastB c = true) : ¬ (c.1 + readT c.2.2 ≤ d.1 - gap) := by
  have hkl := (List.getElem?_eq_some_iff.1 hd).1
  rw [extAll_length] at hkl
  obtain ⟨c0, hc0⟩ := some_at l (show k < l.length by omega)
  obtain ⟨d0, hd0⟩ := some_at l hkl
  rw [extAll_at hc0] at hc
  rw [extAll_at hd0] at hd
  simp only [Option.some.injEq] at hc hd
  subst hc hd
  intro hle
  have h1 := ext_ge (l := l) (gap := gap) (k := k) (c := c0) (Int.le_refl _) (by rw [limit_next hd0]; exact hle)
  simp only [fastB, decide_eq_true_eq] at hf
  have h2 : (extOne l gap k c0).1 = c0.1 := rfl
  have h3 : (extOne l gap k c0).2.2 = c0.2.2 := rfl
  rw [h2, h3] at hf
  omega
theorem fast_mem {l : List CueD} {i : Nat} {x : Int} (h : (fastL l)[i]? = some x) : ∃ (k : Nat) (c : CueD), x = k ∧ l[k]? = some c ∧ fastB c = true := by
  have hm := List.mem_of_getElem? h
  unfold fastL at hm
  split at hm
  · simp only [fastTo, List.mem_map, List.mem_filter, List.mem_range] at hm
    obtain ⟨k, ⟨hk, hf⟩, rfl⟩ := hm
    obtain ⟨c, hc⟩ := some_at l hk
    rw [hc] at hf
    exact ⟨k, c, rfl, hc, by simpa using hf⟩
  · cases hm
end Go.Proofs.Yticdjneihcimeaa
