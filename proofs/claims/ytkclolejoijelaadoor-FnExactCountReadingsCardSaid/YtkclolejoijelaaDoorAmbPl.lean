/-
  Lists of strokes with two readings: the shortest one, and that a search finds it. Plain values; no program is named here.
-/
import Derived.Test.YtkclolejoijelaaDoorDictPl
namespace Go.Proofs.YtkclolejoijelaaDoor
set_option linter.unusedVariables false

/-! ### Shorter first, then by strokes -/
theorem cmpL_neg (a b : List Int) : cmpL b a = - cmpL a b := by
  induction a generalizing b with
  | nil => cases b <;> simp [cmpL]
  | cons x a ih =>
    cases b with
    | nil => simp [cmpL]
    | cons y b =>
      unfold cmpL
      by_cases h1 : x < y
      · rw [if_pos h1, if_neg (by omega), if_pos h1]; rfl
      · by_cases h2 : y < x
        · simp [h1, h2]
        · rw [if_neg h1, if_neg h2, if_neg h2, if_neg h1]; exact ih b
theorem cmpL_append {a b : List Int} (h : a.length = b.length) (x : List Int) : cmpL (a ++ x) (b ++ x) = cmpL a b := by
  induction a generalizing b with
  | nil =>
    obtain rfl : b = [] := List.eq_nil_of_length_eq_zero (by simpa using h.symm)
    simp only [List.nil_append]
    rw [cmpL_eq.2 rfl, cmpL_eq.2 rfl]
  | cons y a ih =>
    cases b with
    | nil => simp at h
    | cons z b =>
      simp only [List.cons_append, cmpL]
      rw [ih (by simpa using h)]
def leA (a b : List Int) : Prop := a.length < b.length ∨ (a.length = b.length ∧ cmpL a b ≤ 0)
def ltA (a b : List Int) : Bool := if a.length = b.length then decide (cmpL a b < 0) else decide (a.length < b.length)
theorem ltA_true {a b : List Int} (h : ltA a b = true) : leA a b := by
  unfold ltA at h
  split at h
  · rename_i he
    exact .inr ⟨he, by have := of_decide_eq_true h; omega⟩
  · exact .inl (of_decide_eq_true h)
theorem ltA_false {a b : List Int} (h : ltA a b = false) : leA b a := by
  unfold ltA at h
  split at h
  · rename_i he
    have := of_decide_eq_false h
    have hn := cmpL_neg a b
    exact .inr ⟨he.symm, by omega⟩
  · have := of_decide_eq_false h
    exact .inl (by omega)
theorem leA_refl (a : List Int) : leA a a := .inr ⟨rfl, by rw [cmpL_eq.2 rfl]; omega⟩
theorem leA_trans {a b c : List Int} (h1 : leA a b) (h2 : leA b c) : leA a c := by
  rcases h1 with h1 | ⟨h1, k1⟩
  · rcases h2 with h2 | ⟨h2, _⟩
    · exact .inl (by omega)
    · exact .inl (by omega)
  · rcases h2 with h2 | ⟨h2, k2⟩
    · exact .inl (by omega)
    · refine .inr ⟨by omega, ?_⟩
      rcases cmpL_three a b with e1 | e1 | e1
      · rcases cmpL_three b c with e2 | e2 | e2
        · have := cmpL_trans (xs := a) (ys := b) (zs := c) (by omega) (by omega); omega
        · rw [← cmpL_eq.1 e2]; exact k1
        · omega
      · rw [cmpL_eq.1 e1]; exact k2
      · omega
theorem leA_anti {a b : List Int} (h1 : leA a b) (h2 : leA b a) : a = b := by
  have hn := cmpL_neg a b
  rcases h1 with h1 | ⟨h1, k1⟩
  · rcases h2 with h2 | ⟨h2, _⟩ <;> omega
  · rcases h2 with h2 | ⟨_, k2⟩
    · omega
    · exact cmpL_eq.1 (by omega)
theorem leA_app {a b : List Int} (h : leA a b) (x : List Int) : leA (a ++ x) (b ++ x) := by
  rcases h with h | ⟨h, k⟩
  · exact .inl (by simp; omega)
  · exact .inr ⟨by simp; omega, by rw [cmpL_append h]; exact k⟩
theorem leA_grow (a x : List Int) : leA a (a ++ x) := by
  cases x with
  | nil => rw [List.append_nil]; exact leA_refl a
  | cons y x => exact .inl (by simp)
theorem ltA_or_le (a b : List Int) : ltA a b = true ∨ leA b a := by
  cases h : ltA a b
  · exact .inr (ltA_false h)
  · exact .inl rfl

/-! ### Two beginnings of readings, one longer by some strokes -/
def beginsB (o p : List Int) : Bool := decide (p.length ≤ o.length) && decide (o.take p.length = p)
theorem begins_iff {o p : List Int} : beginsB o p = true ↔ ∃ x, o = p ++ x := by
  unfold beginsB
  rw [Bool.and_eq_true, decide_eq_true_eq, decide_eq_true_eq]
  constructor
  · rintro ⟨-, h⟩
    exact ⟨o.drop p.length, by
      have h2 := List.take_append_drop p.length o
      rw [h] at h2
      exact h2.symm⟩
  · rintro ⟨x, rfl⟩
    simp
theorem begins_drop {o p : List Int} (h : beginsB o p = true) : o = p ++ o.drop p.length := by
  obtain ⟨x, rfl⟩ := begins_iff.1 h
  simp
def stepO (o r a : List Int) : Option (List Int × List Int) :=
  if beginsB r o then some (r.drop o.length, a) else if beginsB o r then some (o.drop r.length, a ++ o.drop r.length) else none
theorem stepO_mono {o r a b r' a' : List Int} (h : stepO o r a = some (r', a')) (hb : leA b a) : ∃ b', stepO o r b = some (r', b') ∧ leA b' a' := by
  unfold stepO at h ⊢
  split at h
  · rename_i h1
    rw [if_pos h1]
    simp only [Option.some.injEq, Prod.mk.injEq] at h
    exact ⟨b, by rw [h.1], by rw [← h.2]; exact hb⟩
  · split at h
    · rename_i h1 h2
      rw [if_neg h1, if_pos h2]
      simp only [Option.some.injEq, Prod.mk.injEq] at h
      exact ⟨_, by rw [h.1], by rw [← h.2, h.1]; exact leA_app hb r'⟩
    · cases h
theorem stepO_grow {o r a r' a' : List Int} (h : stepO o r a = some (r', a')) : leA a a' := by
  unfold stepO at h
  split at h
  · simp only [Option.some.injEq, Prod.mk.injEq] at h
    rw [← h.2]; exact leA_refl a
  · split at h
    · simp only [Option.some.injEq, Prod.mk.injEq] at h
      rw [← h.2]; exact leA_grow a _
    · cases h
theorem stepO_len {o r a r' a' : List Int} (h : stepO o r a = some (r', a')) : a'.length ≤ a.length + o.length := by
  unfold stepO at h
  split at h
  · simp only [Option.some.injEq, Prod.mk.injEq] at h
    rw [← h.2]; omega
  · split at h
    · simp only [Option.some.injEq, Prod.mk.injEq] at h
      rw [← h.2]; simp
    · cases h
/-- A pair to begin with. -/
def Start (E : List (List Int)) (r a : List Int) : Prop := ∃ p ∈ E, a ∈ E ∧ p.length < a.length ∧ beginsB a p = true ∧ r = a.drop p.length
inductive Reach (E : List (List Int)) : List Int → List Int → Prop
  | start {r a : List Int} : Start E r a → Reach E r a
  | step {r a o r' a' : List Int} : Reach E r a → o ∈ E → stepO o r a = some (r', a') → Reach E r' a'
theorem reach_some {E : List (List Int)} {r a : List Int} (h : Reach E r a) : a ≠ [] := by
  induction h with
  | start h =>
    obtain ⟨p, -, -, h1, -⟩ := h
    intro e
    subst e
    simp at h1
  | step _ _ hs ih =>
    have := stepO_grow hs
    intro e
    subst e
    rcases this with h | ⟨h, _⟩
    · simp at h
    · exact ih (List.eq_nil_of_length_eq_zero (by simpa using h))
/-- The strokes that are read once more are an end of an outline. -/
theorem reach_tail {E : List (List Int)} {r a : List Int} (h : Reach E r a) : ∃ o ∈ E, ∃ k, k ≤ o.length ∧ r = o.drop k := by
  induction h with
  | start h =>
    obtain ⟨p, -, h2, h3, -, h5⟩ := h
    exact ⟨_, h2, p.length, by omega, h5⟩
  | @step r0 a0 o r1 a1 _ ho hs ih =>
    unfold stepO at hs
    split at hs
    · rename_i hb
      simp only [Option.some.injEq, Prod.mk.injEq] at hs
      obtain ⟨q, hq, k, hk, hr⟩ := ih
      have hl := begins_iff.1 hb
      obtain ⟨x, hx⟩ := hl
      refine ⟨q, hq, k + o.length, ?_, by rw [← hs.1, hr, List.drop_drop]⟩
      have : (q.drop k).length = (o ++ x).length := by rw [← hr, hx]
      simp at this
      omega
    · split at hs
      · rename_i hb
        simp only [Option.some.injEq, Prod.mk.injEq] at hs
        obtain ⟨x, hx⟩ := begins_iff.1 hb
        exact ⟨o, ho, r0.length, by rw [hx]; simp, hs.1.symm⟩
      · cases hs

/-! ### A search: D has been done, O is open, Q is covered -/
def Cov (D O : List Int → List Int → Prop) (r a : List Int) : Prop := (∃ d, D r d ∧ leA d a) ∨ ∃ x, O r x ∧ leA x a
structure Search (E : List (List Int)) (D O Q : List Int → List Int → Prop) : Prop where
  reach : ∀ r a, O r a → Reach E r a
  some_ : ∀ r a, D r a → r ≠ []
  before : ∀ r a r' a', D r a → O r' a' → leA a a'
  cov : ∀ r a, Q r a → Cov D O r a
/-- What a search must cover. -/
def Due (E : List (List Int)) (D : List Int → List Int → Prop) (r a : List Int) : Prop := Start E r a ∨ ∃ r0 a0, D r0 a0 ∧ ∃ o ∈ E, stepO o r0 a0 = some (r, a)
theorem cov_le {D O : List Int → List Int → Prop} {r a b : List Int} (h : Cov D O r a) (hb : leA a b) : Cov D O r b := by
  rcases h with ⟨d, h1, h2⟩ | ⟨d, h1, h2⟩
  · exact .inl ⟨d, h1, leA_trans h2 hb⟩
  · exact .inr ⟨d, h1, leA_trans h2 hb⟩
theorem search_reach {E : List (List Int)} {D O : List Int → List Int → Prop} (h : Search E D O (Due E D)) {r a : List Int} (hr : Reach E r a) : Cov D O r a ∨ ∃ r' x, O r' x ∧ leA x a := by
  induction hr with
  | start hs => exact .inl (h.cov _ _ (.inl hs))
  | step hr ho hs ih =>
    rcases ih with (⟨d, h1, h2⟩ | ⟨x, h1, h2⟩) | ⟨r', x, h1, h2⟩
    · obtain ⟨b', h3, h4⟩ := stepO_mono hs h2
      exact .inl (cov_le (h.cov _ _ (.inr ⟨_, _, h1, _, ho, h3⟩)) h4)
    · exact .inr ⟨_, x, h1, leA_trans h2 (stepO_grow hs)⟩
    · exact .inr ⟨r', x, h1, leA_trans h2 (stepO_grow hs)⟩
/-- What the search finds. -/
def IsMin (E : List (List Int)) (a : List Int) : Prop := Reach E [] a ∧ ∀ s, Reach E [] s → leA a s
def AmbRes (E : List (List Int)) (out : List Int) : Prop := (out = [] ∧ ∀ s, ¬ Reach E [] s) ∨ IsMin E out
theorem amb_same {E : List (List Int)} {a b : List Int} (ha : AmbRes E a) (hb : AmbRes E b) : a = b := by
  rcases ha with ⟨ha, h1⟩ | ha
  · rcases hb with ⟨hb, _⟩ | hb
    · rw [ha, hb]
    · exact absurd hb.1 (h1 b)
  · rcases hb with ⟨hb, h1⟩ | hb
    · exact absurd ha.1 (h1 a)
    · exact leA_anti (ha.2 b hb.1) (hb.2 a ha.1)
theorem search_open {E : List (List Int)} {D O : List Int → List Int → Prop} (h : Search E D O (Due E D)) {s : List Int} (hs : Reach E [] s) : ∃ r x, O r x ∧ leA x s := by
  rcases search_reach h hs with (⟨d, h1, -⟩ | ⟨x, h1, h2⟩) | h1
  · exact absurd rfl (h.some_ _ _ h1)
  · exact ⟨_, x, h1, h2⟩
  · exact h1
theorem search_found {E : List (List Int)} {D O : List Int → List Int → Prop} (h : Search E D O (Due E D)) {a : List Int} (ha : O [] a) (hmin : ∀ r x, O r x → leA a x) : AmbRes E a :=
  .inr ⟨h.reach _ _ ha, fun s hs => by
    obtain ⟨r, x, h1, h2⟩ := search_open h hs
    exact leA_trans (hmin r x h1) h2⟩
theorem search_none {E : List (List Int)} {D O : List Int → List Int → Prop} (h : Search E D O (Due E D)) (hO : ∀ r a, ¬ O r a) : AmbRes E [] :=
  .inl ⟨rfl, fun s hs => by
    obtain ⟨r, x, h1, -⟩ := search_open h hs
    exact hO r x h1⟩
/-- One is left out that has been done before. -/
theorem search_skip {E : List (List Int)} {D O O' Q : List Int → List Int → Prop} (h : Search E D O Q) {r a : List Int} (hs : ∀ r' a', O' r' a' → O r' a') (hk : ∀ r' a', O r' a' → O' r' a' ∨ (r' = r ∧ a' = a)) (ha : O r a) (hd : ∃ d, D r d) : Search E D O' Q := by
  obtain ⟨d, hd⟩ := hd
  refine ⟨fun r' a' h1 => h.reach _ _ (hs _ _ h1), h.some_, fun r1 a1 r2 a2 h1 h2 => h.before _ _ _ _ h1 (hs _ _ h2), fun r' a' hq => ?_⟩
  rcases h.cov _ _ hq with h1 | ⟨x, h1, h2⟩
  · exact .inl h1
  · rcases hk _ _ h1 with h3 | ⟨h3, h4⟩
    · exact .inr ⟨x, h3, h2⟩
    · subst h3 h4
      exact .inl ⟨d, hd, leA_trans (h.before _ _ _ _ hd ha) h2⟩
/-- One is done; what follows is owed. -/
theorem search_done {E : List (List Int)} {D D' O O' Q : List Int → List Int → Prop} (h : Search E D O Q) {r a : List Int} (hs : ∀ r' a', O' r' a' → O r' a') (hk : ∀ r' a', O r' a' → O' r' a' ∨ (r' = r ∧ a' = a)) (ha : O r a) (hr : r ≠ [])
    (hmin : ∀ r' a', O r' a' → leA a a') (hD : ∀ r' a', D' r' a' ↔ D r' a' ∨ (r' = r ∧ a' = a)) : Search E D' O' Q := by
  refine ⟨fun r' a' h1 => h.reach _ _ (hs _ _ h1), fun r' a' h1 => ?_, fun r1 a1 r2 a2 h1 h2 => ?_, fun r' a' hq => ?_⟩
  · rcases (hD _ _).1 h1 with h2 | ⟨h2, _⟩
    · exact h.some_ _ _ h2
    · rw [h2]; exact hr
  · rcases (hD _ _).1 h1 with h3 | ⟨_, h3⟩
    · exact h.before _ _ _ _ h3 (hs _ _ h2)
    · rw [h3]; exact hmin _ _ (hs _ _ h2)
  · rcases h.cov _ _ hq with ⟨d, h1, h2⟩ | ⟨x, h1, h2⟩
    · exact .inl ⟨d, (hD _ _).2 (.inl h1), h2⟩
    · rcases hk _ _ h1 with h3 | ⟨h3, h4⟩
      · exact .inr ⟨x, h3, h2⟩
      · subst h3 h4
        exact .inl ⟨x, (hD _ _).2 (.inr ⟨rfl, rfl⟩), h2⟩
/-- One more is put in (or a better one in its place). -/
theorem search_put {E : List (List Int)} {D O O' Q Q' : List Int → List Int → Prop} (h : Search E D O Q) {r a : List Int} (hr : Reach E r a) (hb : ∀ r0 a0, D r0 a0 → leA a0 a)
    (hs : ∀ r' a', O' r' a' → O r' a' ∨ (r' = r ∧ a' = a)) (hk : ∀ r' a', O r' a' → ∃ x, O' r' x ∧ leA x a') (hc : Cov D O' r a) (hQ : ∀ r' a', Q' r' a' → Q r' a' ∨ (r' = r ∧ a' = a)) : Search E D O' Q' := by
  refine ⟨fun r' a' h1 => ?_, h.some_, fun r1 a1 r2 a2 h1 h2 => ?_, fun r' a' hq => ?_⟩
  · rcases hs _ _ h1 with h2 | ⟨h2, h3⟩
    · exact h.reach _ _ h2
    · rw [h2, h3]; exact hr
  · rcases hs _ _ h2 with h3 | ⟨_, h3⟩
    · exact h.before _ _ _ _ h1 h3
    · rw [h3]; exact hb _ _ h1
  · rcases hQ _ _ hq with hq | ⟨h2, h3⟩
    · rcases h.cov _ _ hq with h1 | ⟨x, h1, h2⟩
      · exact .inl h1
      · obtain ⟨y, h3, h4⟩ := hk _ _ h1
        exact .inr ⟨y, h3, leA_trans h4 h2⟩
    · rw [h2, h3]; exact hc
theorem search_weaken {E : List (List Int)} {D O Q Q' : List Int → List Int → Prop} (h : Search E D O Q) (hQ : ∀ r a, Q' r a → Q r a) : Search E D O Q' := ⟨h.reach, h.some_, h.before, fun r a hq => h.cov r a (hQ r a hq)⟩

/-! ### What it says of readings -/
/-- Two lists of words, the first words of which differ: one reads a, the other one all but the end r. -/
theorem reach_words {E : List (List Int)} {r a : List Int} (h : Reach E r a) : ∃ p q : List (List Int), (∀ x ∈ p, x ∈ E) ∧ (∀ x ∈ q, x ∈ E) ∧ p.flatten = a ∧ q.flatten ++ r = a ∧ p ≠ [] ∧ q ≠ [] ∧ p.head? ≠ q.head? := by
  induction h with
  | start h =>
    obtain ⟨p, h1, h2, h3, h4, h5⟩ := h
    refine ⟨[_], [p], by simpa using h2, by simpa using h1, by simp, by rw [h5]; simpa using (begins_drop h4).symm, by simp, by simp, ?_⟩
    intro e
    simp at e
    rw [e] at h3
    omega
  | @step r0 a0 o r1 a1 _ ho hs ih =>
    obtain ⟨p, q, hp, hq, h1, h2, h3, h4, h5⟩ := ih
    unfold stepO at hs
    split at hs
    · rename_i hb
      simp only [Option.some.injEq, Prod.mk.injEq] at hs
      have hd := begins_drop hb
      refine ⟨p, q ++ [o], hp, fun x hx => ?_, by rw [h1, hs.2], by rw [← hs.1, ← hs.2, ← h2]; rw [List.flatten_append]; simp; exact hd.symm, h3, by simp, ?_⟩
      · rcases List.mem_append.1 hx with h | h
        · exact hq x h
        · simp at h; rw [h]; exact ho
      · intro e
        apply h5
        rw [e]
        cases q with
        | nil => exact absurd rfl h4
        | cons y q => rfl
    · split at hs
      · rename_i hb
        simp only [Option.some.injEq, Prod.mk.injEq] at hs
        have hd := begins_drop hb
        refine ⟨q ++ [o], p, fun x hx => ?_, hp, ?_, by rw [h1, ← hs.1, ← hs.2], by simp, h3, ?_⟩
        · rcases List.mem_append.1 hx with h | h
          · exact hq x h
          · simp at h; rw [h]; exact ho
        · rw [← hs.2, ← h2, List.flatten_append, List.append_assoc, ← hd]; simp
        · intro e
          apply h5
          rw [← e]
          cases q with
          | nil => exact absurd rfl h4
          | cons y q => rfl
      · cases hs
theorem comparable {a b c d : List Int} (h : a ++ c = b ++ d) : (∃ x, a = b ++ x ∧ x ++ c = d) ∨ ∃ x, b = a ++ x ∧ x ++ d = c := by
  rcases List.append_eq_append_iff.1 h with ⟨x, h1, h2⟩ | ⟨x, h1, h2⟩
  · exact .inr ⟨x, h1, h2.symm⟩
  · exact .inl ⟨x, h1, h2.symm⟩
theorem reach_on {E : List (List Int)} : ∀ (n : Nat) (r a : List Int) (p q : List (List Int)), p.length + q.length ≤ n → Reach E r a → (∀ x ∈ p, x ∈ E) → (∀ x ∈ q, x ∈ E) → r ++ p.flatten = q.flatten → ∃ s, Reach E [] s ∧ s.length ≤ a.length + p.flatten.length := by
  intro n
  induction n with
  | zero =>
    intro r a p q hn hr hp hq he
    have hp0 : p = [] := List.eq_nil_of_length_eq_zero (by omega)
    have hq0 : q = [] := List.eq_nil_of_length_eq_zero (by omega)
    subst hp0 hq0
    have : r = [] := by simpa using he
    subst this
    exact ⟨a, hr, by omega⟩
  | succ n ih =>
    intro r a p q hn hr hp hq he
    by_cases hr0 : r = []
    · subst hr0; exact ⟨a, hr, by omega⟩
    · cases q with
      | nil =>
        have : r = [] := by
          have := congrArg List.length he
          simp at this
          exact this.1
        exact absurd this hr0
      | cons o q =>
        have ho : o ∈ E := hq o (by simp)
        rw [List.flatten_cons] at he
        rcases comparable he with ⟨x, h1, h2⟩ | ⟨x, h1, h2⟩
        · have hs : stepO o r a = some (x, a) := by
            unfold stepO
            rw [if_pos (begins_iff.2 ⟨x, h1⟩), h1]
            simp
          exact ih x a p q (by simp at hn; omega) (.step hr ho hs) hp (fun y hy => hq y (by simp [hy])) h2
        · by_cases hb : beginsB r o = true
          · obtain ⟨y, hy⟩ := begins_iff.1 hb
            have hl := congrArg List.length h1
            have hl2 := congrArg List.length hy
            simp at hl hl2
            have hx : x = [] := List.eq_nil_of_length_eq_zero (by omega)
            subst hx
            have hor : o = r := by simpa using h1
            have hs : stepO o r a = some ([], a) := by
              unfold stepO
              rw [if_pos hb, hor]
              simp
            exact ⟨a, .step hr ho hs, by omega⟩
          · have hs : stepO o r a = some (x, a ++ x) := by
              unfold stepO
              rw [if_neg hb, if_pos (begins_iff.2 ⟨x, h1⟩), h1]
              simp
            obtain ⟨s, h3, h4⟩ := ih x (a ++ x) q p (by simp at hn; omega) (.step hr ho hs) (fun y hy => hq y (by simp [hy])) hp h2
            refine ⟨s, h3, ?_⟩
            have := congrArg List.length h2
            simp only [List.length_append] at this h4
            omega
/-- Where a list of strokes has two readings, the search finds something no longer. -/
theorem two_reach {E : List (List Int)} (hE : ∀ x ∈ E, x ≠ []) : ∀ (p q : List (List Int)), (∀ x ∈ p, x ∈ E) → (∀ x ∈ q, x ∈ E) → p.flatten = q.flatten → p ≠ q → ∃ s, Reach E [] s ∧ s.length ≤ p.flatten.length := by
  intro p
  induction p with
  | nil =>
    intro q _ hq he hne
    cases q with
    | nil => exact absurd rfl hne
    | cons o q =>
      have := hE o (hq o (by simp))
      rw [List.flatten_cons, List.flatten_nil] at he
      exact absurd (List.append_eq_nil_iff.1 he.symm).1 this
  | cons b p ih =>
    intro q hp hq he hne
    cases q with
    | nil =>
      have := hE b (hp b (by simp))
      rw [List.flatten_cons, List.flatten_nil] at he
      exact absurd (List.append_eq_nil_iff.1 he).1 this
    | cons a q =>
      have hb := hp b (by simp)
      have ha := hq a (by simp)
      by_cases hab : a = b
      · subst hab
        obtain ⟨s, h1, h2⟩ := ih q (fun x hx => hp x (by simp [hx])) (fun x hx => hq x (by simp [hx])) (by simpa using he) (fun e => hne (by rw [e]))
        exact ⟨s, h1, by rw [List.flatten_cons, List.length_append]; omega⟩
      · rw [List.flatten_cons, List.flatten_cons] at he
        rcases comparable he with ⟨x, h1, h2⟩ | ⟨x, h1, h2⟩
        · have hx : x ≠ [] := fun e => hab (by rw [h1, e]; simp)
          have hxl := List.length_pos_iff.2 hx
          have hst : Reach E x b := .start ⟨a, ha, hb, by rw [h1, List.length_append]; omega, begins_iff.2 ⟨x, h1⟩, by rw [h1]; simp⟩
          obtain ⟨s, h3, h4⟩ := reach_on _ x b p q (Nat.le_refl _) hst (fun y hy => hp y (by simp [hy])) (fun y hy => hq y (by simp [hy])) h2
          exact ⟨s, h3, by rw [List.flatten_cons, List.length_append]; exact h4⟩
        · have hx : x ≠ [] := fun e => hab (by rw [h1, e]; simp)
          have hxl := List.length_pos_iff.2 hx
          have hst : Reach E x a := .start ⟨b, hb, ha, by rw [h1, List.length_append]; omega, begins_iff.2 ⟨x, h1⟩, by rw [h1]; simp⟩
          obtain ⟨s, h3, h4⟩ := reach_on _ x a q p (Nat.le_refl _) hst (fun y hy => hq y (by simp [hy])) (fun y hy => hp y (by simp [hy])) h2
          refine ⟨s, h3, ?_⟩
          have := congrArg List.length he
          rw [List.flatten_cons]
          simp only [List.length_append] at this h4 ⊢
          omega
end Go.Proofs.YtkclolejoijelaaDoor
