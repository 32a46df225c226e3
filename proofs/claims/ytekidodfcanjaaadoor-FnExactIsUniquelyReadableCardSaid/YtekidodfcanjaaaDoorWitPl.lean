/-
  The program's open and done states of the search: what putting, leaving out and closing one mean. Plain values; no program is named here.
-/
import Derived.Test.YtekidodfcanjaaaDoorSrchPl
namespace Go.Proofs.YtekidodfcanjaaaDoor
set_option linter.unusedVariables false
set_option linter.unusedSimpArgs false

abbrev WtD := List Int × List Int
def without (O : List WtD) (k : Nat) : List WtD := O.take k ++ O.drop (k + 1)
theorem without_len {O : List WtD} {k : Nat} (h : k < O.length) : (without O k).length = O.length - 1 := by simp [without]; omega
theorem without_mem {O : List WtD} {k : Nat} {s : WtD} (h : O[k]? = some s) : (∀ t, t ∈ without O k → t ∈ O) ∧ ∀ t, t ∈ O → t ∈ without O k ∨ t = s := by
  have hk := (List.getElem?_eq_some_iff.1 h).1
  have hs := (List.getElem?_eq_some_iff.1 h).2
  have e : O = O.take k ++ s :: O.drop (k + 1) := by
    rw [← hs, ← List.drop_eq_getElem_cons hk, List.take_append_drop]
  unfold without
  refine ⟨fun t ht => ?_, fun t ht => ?_⟩
  · rw [e]
    rcases List.mem_append.1 ht with h1 | h1
    · exact List.mem_append_left _ h1
    · exact List.mem_append_right _ (List.mem_cons_of_mem _ h1)
  · rw [e] at ht
    rcases List.mem_append.1 ht with h1 | h1
    · exact .inl (List.mem_append_left _ h1)
    · rcases List.mem_cons.1 h1 with h1 | h1
      · exact .inr h1
      · exact .inl (List.mem_append_right _ h1)
structure WInv (E : List (List Int)) (D O : List WtD) (Q : List Int → List Int → Prop) : Prop where
  srch : Search E (fun r a => (r, a) ∈ D) (fun r a => (r, a) ∈ O) Q
  reach : ∀ s ∈ D, Reach E s.1 s.2
  lenD : ∀ s ∈ D, s.2.length ≤ 6 * (D.length + 1)
  lenO : ∀ s ∈ O, s.2.length ≤ 6 * (D.length + 1)
  nd : (D.map (·.1)).Nodup
section
variable {E : List (List Int)} {D O : List WtD} {Q : List Int → List Int → Prop} {r a : List Int} {k : Nat}
theorem winv_nil (E : List (List Int)) : WInv E [] [] (fun _ _ => False) :=
  ⟨⟨fun _ _ h => (by cases h), fun _ _ h => (by cases h), fun _ _ _ _ h => (by cases h), fun _ _ (h : False) => absurd h id⟩, fun _ h => (by cases h), fun _ h => (by cases h), fun _ h => (by cases h), List.nodup_nil⟩
theorem WInv.size (h : WInv E D O Q) (hE : E.length ≤ 40) (ho : ∀ o ∈ E, o.length ≤ 6) : D.length ≤ 280 := by
  have h1 := rests_len hE ho h.nd (fun r hr => by
    obtain ⟨s, hs, rfl⟩ := List.mem_map.1 hr
    exact ⟨_, h.reach s hs⟩)
  rwa [List.length_map] at h1
theorem winv_put (h : WInv E D O Q) (hr : Reach E r a) (hl : a.length ≤ 6 * (D.length + 1)) (hb : ∀ r0 a0, (r0, a0) ∈ D → leA a0 a) : WInv E D (O ++ [(r, a)]) (fun r' a' => Q r' a' ∨ (r' = r ∧ a' = a)) := by
  refine ⟨search_put h.srch hr hb (fun r' a' h1 => ?_) (fun r' a' h1 => ⟨a', List.mem_append_left _ h1, leA_refl a'⟩) (.inr ⟨a, List.mem_append_right _ (by simp), leA_refl a⟩) (fun r' a' h1 => h1), h.reach, h.lenD, fun s hs => ?_, h.nd⟩
  · rcases List.mem_append.1 h1 with h2 | h2
    · exact .inl h2
    · simp only [List.mem_singleton, Prod.mk.injEq] at h2
      exact .inr h2
  · rcases List.mem_append.1 hs with h2 | h2
    · exact h.lenO s h2
    · rw [List.mem_singleton] at h2; subst h2; exact hl
theorem winv_skip (h : WInv E D O Q) (hk : O[k]? = some (r, a)) (hd : ∃ d, (r, d) ∈ D) : WInv E D (without O k) Q := by
  have hm := without_mem hk
  exact ⟨search_skip h.srch (fun r' a' h1 => hm.1 _ h1) (fun r' a' h1 => (hm.2 _ h1).imp id (fun e => by simpa using e)) (List.mem_of_getElem? hk) hd, h.reach, h.lenD, fun s hs => h.lenO s (hm.1 s hs), h.nd⟩
theorem winv_done (h : WInv E D O Q) (hk : O[k]? = some (r, a)) (hr : r ≠ []) (hno : ∀ d, (r, d) ∉ D) (hmin : ∀ s ∈ O, leA a s.2) :
    WInv E (D ++ [(r, a)]) (without O k) Q ∧ ∀ r0 a0, (r0, a0) ∈ D ++ [(r, a)] → leA a0 a := by
  have hm := without_mem hk
  have ho := List.mem_of_getElem? hk
  refine ⟨⟨search_done h.srch (fun r' a' h1 => hm.1 _ h1) (fun r' a' h1 => (hm.2 _ h1).imp id (fun e => by simpa using e)) ho hr (fun r' a' h1 => hmin _ h1) (fun r' a' => by simp), fun s hs => ?_, fun s hs => ?_, fun s hs => ?_, ?_⟩, fun r0 a0 h0 => ?_⟩
  · rcases List.mem_append.1 hs with h2 | h2
    · exact h.reach s h2
    · rw [List.mem_singleton] at h2; subst h2; exact h.srch.reach _ _ ho
  · rw [List.length_append, List.length_singleton]
    rcases List.mem_append.1 hs with h2 | h2
    · have := h.lenD s h2; omega
    · rw [List.mem_singleton] at h2; subst h2
      have := h.lenO _ ho
      simp only at this ⊢
      omega
  · rw [List.length_append, List.length_singleton]
    have := h.lenO s (hm.1 s hs); omega
  · rw [List.map_append, List.nodup_append]
    refine ⟨h.nd, by simp, fun x hx y hy => ?_⟩
    simp only [List.map_cons, List.map_nil, List.mem_singleton] at hy
    obtain ⟨s, hs, rfl⟩ := List.mem_map.1 hx
    intro e
    rw [hy] at e
    exact hno s.2 (by rw [← e]; exact hs)
  · rcases List.mem_append.1 h0 with h1 | h1
    · exact h.srch.before _ _ _ _ h1 ho
    · simp only [List.mem_singleton, Prod.mk.injEq] at h1
      rw [h1.2]; exact leA_refl a
end
/-- All pairs were tried: what is due with nothing done. -/
theorem due_nil {E : List (List Int)} {D : List Int → List Int → Prop} (hD : ∀ r a, ¬ D r a) {r a : List Int} (h : Due E D r a) : Start E r a := by
  rcases h with h | ⟨r0, a0, h, -⟩
  · exact h
  · exact absurd h (hD _ _)
end Go.Proofs.YtekidodfcanjaaaDoor
