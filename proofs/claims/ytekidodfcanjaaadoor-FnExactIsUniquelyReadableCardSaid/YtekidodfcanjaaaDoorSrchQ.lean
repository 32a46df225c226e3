/-
  What the search's loops have covered: pairs of entries, the least open state, steps by entries. Plain values; no program is named here.
-/
import Derived.Test.YtekidodfcanjaaaDoorWitPl
import Derived.Test.YtekidodfcanjaaaDoorDictPl
namespace Go.Proofs.YtekidodfcanjaaaDoor
set_option linter.unusedVariables false
set_option linter.unusedSimpArgs false

theorem outs_len (l : List EntD) : (outsD l).length = l.length := by simp [outsD]
theorem outs_mem {l : List EntD} {k : Nat} {c : EntD} (h : l[k]? = some c) : c.1 ∈ outsD l := List.mem_map.2 ⟨c, List.mem_of_getElem? h, rfl⟩
theorem outs_at {l : List EntD} {o : List Int} (h : o ∈ outsD l) : ∃ (k : Nat) (c : EntD), l[k]? = some c ∧ c.1 = o := by
  obtain ⟨c, hc, rfl⟩ := List.mem_map.1 h
  obtain ⟨k, hk⟩ := List.mem_iff_getElem?.1 hc
  exact ⟨k, c, hk, rfl⟩
theorem outs_six {l : List EntD} (hv : dictB l = true) : ∀ o ∈ outsD l, o.length ≤ 6 := fun o ho => by
  obtain ⟨k, c, hk, rfl⟩ := outs_at ho
  exact (dict_out hv hk).2
/-- Pairs of entries before (i, k), the first of which begins the second. -/
def PairQ (l : List EntD) (i k : Nat) (r a : List Int) : Prop := ∃ (i' k' : Nat) (c d : EntD), (i' < i ∨ (i' = i ∧ k' < k)) ∧ l[i']? = some c ∧ l[k']? = some d ∧ c.1.length < d.1.length ∧ beginsB d.1 c.1 = true ∧ r = d.1.drop c.1.length ∧ a = d.1
section
variable {l : List EntD} {i k : Nat} {r a : List Int} {c d : EntD}
theorem pairQ_zero : ¬ PairQ l 0 0 r a := by
  rintro ⟨i', k', c, d, h, -⟩
  omega
theorem pairQ_next (hi : l[i]? = some c) (hk : l[k]? = some d) (h : PairQ l i (k + 1) r a) : PairQ l i k r a ∨ (r = d.1.drop c.1.length ∧ a = d.1) := by
  obtain ⟨i', k', c', d', h1, h2, h3, h4, h5, h6, h7⟩ := h
  by_cases e : i' = i ∧ k' = k
  · obtain ⟨rfl, rfl⟩ := e
    rw [hi] at h2
    rw [hk] at h3
    cases h2
    cases h3
    exact .inr ⟨h6, h7⟩
  · exact .inl ⟨i', k', c', d', by omega, h2, h3, h4, h5, h6, h7⟩
theorem pairQ_miss (hi : l[i]? = some c) (hk : l[k]? = some d) (hno : ¬ (c.1.length < d.1.length ∧ beginsB d.1 c.1 = true)) (h : PairQ l i (k + 1) r a) : PairQ l i k r a := by
  obtain ⟨i', k', c', d', h1, h2, h3, h4, h5, h6, h7⟩ := h
  by_cases e : i' = i ∧ k' = k
  · obtain ⟨rfl, rfl⟩ := e
    rw [hi] at h2
    rw [hk] at h3
    cases h2
    cases h3
    exact absurd ⟨h4, h5⟩ hno
  · exact ⟨i', k', c', d', by omega, h2, h3, h4, h5, h6, h7⟩
theorem pairQ_row (h : PairQ l (i + 1) 0 r a) : PairQ l i l.length r a := by
  obtain ⟨i', k', c', d', h1, h2, h3, h4, h5, h6, h7⟩ := h
  have := (List.getElem?_eq_some_iff.1 h3).1
  exact ⟨i', k', c', d', by omega, h2, h3, h4, h5, h6, h7⟩
theorem pairQ_start (h : Start (outsD l) r a) : PairQ l l.length 0 r a := by
  obtain ⟨p, hp, ha, h1, h2, h3⟩ := h
  obtain ⟨i, c, hi, rfl⟩ := outs_at hp
  obtain ⟨k, d, hk, rfl⟩ := outs_at ha
  exact ⟨i, k, c, d, .inl (List.getElem?_eq_some_iff.1 hi).1, hi, hk, h1, h2, h3, rfl⟩
theorem pair_start (hi : l[i]? = some c) (hk : l[k]? = some d) (h1 : c.1.length < d.1.length) (h2 : beginsB d.1 c.1 = true) : Start (outsD l) (d.1.drop c.1.length) d.1 := ⟨c.1, outs_mem hi, outs_mem hk, h1, h2, rfl⟩
/-- Two entries that differ: the one begins the other only if it is shorter. -/
theorem pair_lt (hv : dictB l = true) (hi : l[i]? = some c) (hk : l[k]? = some d) (hne : i ≠ k) (h : beginsB d.1 c.1 = true) : c.1.length < d.1.length := by
  obtain ⟨x, hx⟩ := begins_iff.1 h
  cases x with
  | nil =>
    rw [List.append_nil] at hx
    exact absurd (dict_inj hv hi hk hx.symm) hne
  | cons y x => rw [hx]; simp
theorem pair_no (hi : l[i]? = some c) (hk : l[k]? = some d) (h : ¬ (i ≠ k ∧ beginsB d.1 c.1 = true)) : ¬ (c.1.length < d.1.length ∧ beginsB d.1 c.1 = true) := by
  rintro ⟨h1, h2⟩
  refine h ⟨fun e => ?_, h2⟩
  rw [e, hk] at hi
  cases hi
  omega
end
/-- The least open state among the first i, or none. -/
def BestAt (S : List StD) (i : Nat) (b : Int) : Prop := (b = -1 ∧ ∀ (j : Nat) s, j < i → S[j]? = some s → s.2.2 = true) ∨ ∃ (n : Nat) (r a : List Int), b = (n : Int) ∧ n < i ∧ S[n]? = some (r, a, false) ∧ ∀ (j : Nat) r' a', j < i → S[j]? = some (r', a', false) → leA a a'
section
variable {S : List StD} {i n : Nat} {b : Int} {r a r' a' : List Int} {s : StD}
theorem best_none0 (S : List StD) : BestAt S 0 (-1) := .inl ⟨rfl, fun j s h => absurd h (by omega)⟩
theorem best_done (h : BestAt S i b) (hs : S[i]? = some s) (hd : s.2.2 = true) : BestAt S (i + 1) b := by
  rcases h with ⟨h1, h2⟩ | ⟨n, r, a, h1, h2, h3, h4⟩
  · refine .inl ⟨h1, fun j t hj ht => ?_⟩
    by_cases e : j = i
    · subst e
      rw [hs] at ht
      cases ht
      exact hd
    · exact h2 j t (by omega) ht
  · refine .inr ⟨n, r, a, h1, by omega, h3, fun j r' a' hj ht => ?_⟩
    by_cases e : j = i
    · subst e
      rw [hs] at ht
      cases ht
      simp at hd
    · exact h4 j r' a' (by omega) ht
theorem best_first (h : BestAt S i (-1)) (hs : S[i]? = some (r, a, false)) : BestAt S (i + 1) (i : Int) := by
  rcases h with ⟨h1, h2⟩ | ⟨n, r, a, h1, -⟩
  · refine .inr ⟨i, r, a, rfl, by omega, hs, fun j r' a' hj ht => ?_⟩
    by_cases e : j = i
    · subst e
      rw [hs] at ht
      cases ht
      exact leA_refl a
    · have := h2 j _ (by omega) ht
      simp at this
  · omega
theorem best_some (h : BestAt S i (n : Int)) : ∃ r a, n < i ∧ S[n]? = some (r, a, false) := by
  rcases h with ⟨h1, h2⟩ | ⟨m, r, a, h1, h2, h3, -⟩
  · omega
  · obtain rfl : n = m := by omega
    exact ⟨r, a, h2, h3⟩
theorem best_cases (h : BestAt S i b) : b = -1 ∨ ∃ (n : Nat) (r a : List Int), b = (n : Int) ∧ n < i ∧ S[n]? = some (r, a, false) := by
  rcases h with ⟨h1, h2⟩ | ⟨m, r, a, h1, h2, h3, -⟩
  · exact .inl h1
  · exact .inr ⟨m, r, a, h1, h2, h3⟩
theorem best_other (h : BestAt S i (n : Int)) (hn : S[n]? = some (r, a, false)) (hs : S[i]? = some (r', a', false)) (hl : ltA a' a = true) : BestAt S (i + 1) (i : Int) := by
  rcases h with ⟨h1, h2⟩ | ⟨m, r2, a2, h1, h2, h3, h4⟩
  · omega
  · obtain rfl : n = m := by omega
    rw [hn] at h3
    cases h3
    refine .inr ⟨i, r', a', rfl, by omega, hs, fun j r3 a3 hj ht => ?_⟩
    by_cases e : j = i
    · subst e
      rw [hs] at ht
      cases ht
      exact leA_refl _
    · exact leA_trans (ltA_true hl) (h4 j r3 a3 (by omega) ht)
theorem best_same (h : BestAt S i (n : Int)) (hn : S[n]? = some (r, a, false)) (hs : S[i]? = some (r', a', false)) (hl : ltA a' a = false) : BestAt S (i + 1) (n : Int) := by
  rcases h with ⟨h1, h2⟩ | ⟨m, r2, a2, h1, h2, h3, h4⟩
  · omega
  · obtain rfl : n = m := by omega
    rw [hn] at h3
    cases h3
    refine .inr ⟨n, r, a, rfl, by omega, hn, fun j r3 a3 hj ht => ?_⟩
    by_cases e : j = i
    · subst e
      rw [hs] at ht
      cases ht
      exact ltA_false hl
    · exact h4 j r3 a3 (by omega) ht
theorem best_none (h : BestAt S S.length (-1)) : ∀ r a, ¬ OS S r a := fun r a ho => by
  rcases h with ⟨h1, h2⟩ | ⟨n, r, a, h1, -⟩
  · obtain ⟨j, hj⟩ := List.mem_iff_getElem?.1 ho
    have := h2 j _ (List.getElem?_eq_some_iff.1 hj).1 hj
    simp at this
  · omega
theorem best_min (h : BestAt S S.length (n : Int)) (hn : S[n]? = some (r, a, false)) : ∀ r' a', OS S r' a' → leA a a' := fun r' a' ho => by
  rcases h with ⟨h1, h2⟩ | ⟨m, r2, a2, h1, h2, h3, h4⟩
  · omega
  · obtain rfl : n = m := by omega
    rw [hn] at h3
    cases h3
    obtain ⟨j, hj⟩ := List.mem_iff_getElem?.1 ho
    exact h4 j _ _ (List.getElem?_eq_some_iff.1 hj).1 hj
end
/-- Steps by the first k entries. -/
def StepQ (l : List EntD) (k : Nat) (r a r' a' : List Int) : Prop := ∃ (j : Nat) (c : EntD), j < k ∧ l[j]? = some c ∧ stepO c.1 r a = some (r', a')
section
variable {l : List EntD} {k : Nat} {r a r' a' r2 a2 : List Int} {c : EntD}
theorem stepQ_zero : ¬ StepQ l 0 r a r' a' := by
  rintro ⟨j, c, h, -⟩
  omega
theorem stepQ_next (hk : l[k]? = some c) (hs : stepO c.1 r a = some (r2, a2)) (h : StepQ l (k + 1) r a r' a') : StepQ l k r a r' a' ∨ (r' = r2 ∧ a' = a2) := by
  obtain ⟨j, d, h1, h2, h3⟩ := h
  by_cases e : j = k
  · subst e
    rw [hk] at h2
    cases h2
    rw [hs] at h3
    cases h3
    exact .inr ⟨rfl, rfl⟩
  · exact .inl ⟨j, d, by omega, h2, h3⟩
theorem stepQ_miss (hk : l[k]? = some c) (hs : stepO c.1 r a = none) (h : StepQ l (k + 1) r a r' a') : StepQ l k r a r' a' := by
  obtain ⟨j, d, h1, h2, h3⟩ := h
  by_cases e : j = k
  · subst e
    rw [hk] at h2
    cases h2
    rw [hs] at h3
    cases h3
  · exact ⟨j, d, by omega, h2, h3⟩
theorem stepQ_due {D D' : List Int → List Int → Prop} (hD : ∀ r0 a0, D' r0 a0 → D r0 a0 ∨ (r0 = r ∧ a0 = a)) (h : Due (outsD l) D' r' a') : Due (outsD l) D r' a' ∨ StepQ l l.length r a r' a' := by
  rcases h with h | ⟨r0, a0, h1, o, ho, h2⟩
  · exact .inl (.inl h)
  · rcases hD _ _ h1 with h3 | ⟨rfl, rfl⟩
    · exact .inl (.inr ⟨r0, a0, h3, o, ho, h2⟩)
    · obtain ⟨k, c, hk, rfl⟩ := outs_at ho
      exact .inr ⟨k, c, (List.getElem?_eq_some_iff.1 hk).1, hk, h2⟩
end
end Go.Proofs.YtekidodfcanjaaaDoor
