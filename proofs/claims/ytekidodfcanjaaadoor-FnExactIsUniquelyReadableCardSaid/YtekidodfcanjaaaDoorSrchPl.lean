/-
  The reference's list of states of the search: what putting a state, finding the least one and closing it mean. Plain values; no program is named here.
-/
import Derived.Test.YtekidodfcanjaaaDoorTailPl
namespace Go.Proofs.YtekidodfcanjaaaDoor
set_option linter.unusedVariables false
set_option linter.unusedSimpArgs false

abbrev StD := List Int × List Int × Bool
def DS (S : List StD) (r a : List Int) : Prop := (r, a, true) ∈ S
def OS (S : List StD) (r a : List Int) : Prop := (r, a, false) ∈ S
theorem ltA_irr (a : List Int) : ltA a a = false := by
  unfold ltA
  rw [if_pos rfl, cmpL_eq.2 rfl]
  rfl
theorem ltA_not {a b : List Int} (h : leA b a) : ltA a b = false := by
  cases hl : ltA a b with
  | false => rfl
  | true =>
    have := leA_anti (ltA_true hl) h
    rw [this, ltA_irr] at hl
    cases hl
/-- A state is put in: another one of the same rest is improved. -/
def putL : List StD → List Int → List Int → List StD
  | [], r, a => [(r, a, false)]
  | s :: S, r, a => if s.1 = r then (s.1, (if ltA a s.2.1 then a else s.2.1), s.2.2) :: S else s :: putL S r a
theorem putL_at : ∀ (S : List StD) (i : Nat) (s : StD) (r a : List Int), S[i]? = some s → s.1 = r → (∀ (j : Nat) t, j < i → S[j]? = some t → t.1 ≠ r) → putL S r a = S.set i (s.1, (if ltA a s.2.1 then a else s.2.1), s.2.2)
  | [], i, s, r, a, h, _, _ => by simp at h
  | t :: S, 0, s, r, a, h, h1, _ => by
    simp only [List.getElem?_cons_zero, Option.some.injEq] at h
    subst h
    rw [putL, if_pos h1]; rfl
  | t :: S, i + 1, s, r, a, h, h1, h2 => by
    have h0 := h2 0 t (by omega) rfl
    rw [putL, if_neg h0, List.set_cons_succ, putL_at S i s r a (by simpa using h) h1 (fun j u hj hu => h2 (j + 1) u (by omega) (by simpa using hu))]
theorem putL_new : ∀ (S : List StD) (r a : List Int), (∀ t ∈ S, t.1 ≠ r) → putL S r a = S ++ [(r, a, false)]
  | [], r, a, _ => rfl
  | t :: S, r, a, h => by rw [putL, if_neg (h t (by simp)), putL_new S r a (fun u hu => h u (by simp [hu]))]; rfl
theorem first_at : ∀ (S : List StD) (r : List Int), (∃ (i : Nat) (s : StD), S[i]? = some s ∧ s.1 = r ∧ ∀ (j : Nat) t, j < i → S[j]? = some t → t.1 ≠ r) ∨ ∀ t ∈ S, t.1 ≠ r
  | [], r => .inr (fun t h => by cases h)
  | s :: S, r => by
    by_cases h : s.1 = r
    · exact .inl ⟨0, s, rfl, h, fun j t hj => absurd hj (by omega)⟩
    · rcases first_at S r with ⟨i, u, h1, h2, h3⟩ | h1
      · refine .inl ⟨i + 1, u, by simpa using h1, h2, fun j t hj ht => ?_⟩
        cases j with
        | zero => simp only [List.getElem?_cons_zero, Option.some.injEq] at ht; subst ht; exact h
        | succ j => exact h3 j t (by omega) (by simpa using ht)
      · refine .inr fun t ht => ?_
        rcases List.mem_cons.1 ht with rfl | ht
        · exact h
        · exact h1 t ht
theorem mem_set {α : Type} {S : List α} {i : Nat} {s x t : α} (hi : S[i]? = some s) : t ∈ S.set i x ↔ t = x ∨ ∃ j, j ≠ i ∧ S[j]? = some t := by
  have hl := (List.getElem?_eq_some_iff.1 hi).1
  rw [List.mem_iff_getElem?]
  constructor
  · rintro ⟨j, hj⟩
    rw [List.getElem?_set] at hj
    split at hj
    · first | exact .inl (Option.some.inj hj).symm | (split at hj; exact .inl (Option.some.inj hj).symm; cases hj)
    · exact .inr ⟨j, by omega, hj⟩
  · rintro (rfl | ⟨j, h1, h2⟩)
    · exact ⟨i, by rw [List.getElem?_set, if_pos rfl, if_pos hl]⟩
    · exact ⟨j, by rw [List.getElem?_set, if_neg (by omega)]; exact h2⟩
theorem set_same {α : Type} : ∀ {S : List α} {i : Nat} {s : α}, S[i]? = some s → S.set i s = S
  | [], i, s, h => by simp at h
  | t :: S, 0, s, h => by simp only [List.getElem?_cons_zero, Option.some.injEq] at h; rw [h]; rfl
  | t :: S, i + 1, s, h => by rw [List.set_cons_succ, set_same (by simpa using h)]

/-- What holds of the reference's list of states; m of them are done. -/
structure SInv (E : List (List Int)) (S : List StD) (Q : List Int → List Int → Prop) (m : Nat) : Prop where
  srch : Search E (DS S) (OS S) Q
  reach : ∀ s ∈ S, Reach E s.1 s.2.1
  len : ∀ s ∈ S, s.2.1.length ≤ 6 * (m + 1)
  nd : ∀ (i j : Nat) s t, S[i]? = some s → S[j]? = some t → s.1 = t.1 → i = j
  cnt : (S.filter (·.2.2)).length = m
theorem SInv.nodup {E : List (List Int)} {S : List StD} {Q : List Int → List Int → Prop} {m : Nat} (h : SInv E S Q m) : (S.map (·.1)).Nodup := by
  rw [List.Nodup, List.pairwise_iff_getElem]
  intro i j hi hj hij he
  simp only [List.length_map] at hi hj
  simp only [List.getElem_map] at he
  have := h.nd i j _ _ (List.getElem?_eq_getElem hi) (List.getElem?_eq_getElem hj) he
  omega
theorem SInv.size {E : List (List Int)} {S : List StD} {Q : List Int → List Int → Prop} {m : Nat} (h : SInv E S Q m) (hE : E.length ≤ 40) (ho : ∀ o ∈ E, o.length ≤ 6) : S.length ≤ 280 ∧ m ≤ S.length := by
  have h1 := rests_len hE ho h.nodup (fun r hr => by
    obtain ⟨s, hs, rfl⟩ := List.mem_map.1 hr
    exact ⟨_, h.reach s hs⟩)
  rw [List.length_map] at h1
  have h2 := List.length_filter_le (fun s : StD => s.2.2) S
  rw [h.cnt] at h2
  exact ⟨h1, h2⟩
theorem sinv_nil (E : List (List Int)) : SInv E [] (fun _ _ => False) 0 :=
  ⟨⟨fun _ _ h => (by cases h), fun _ _ h => (by cases h), fun _ _ _ _ h => (by cases h), fun _ _ (h : False) => absurd h id⟩, fun _ h => (by cases h), fun _ h => (by cases h), fun i j s t h => (by simp at h), rfl⟩
theorem filter_set {S : List StD} : ∀ {i : Nat} {s x : StD}, S[i]? = some s → ((S.set i x).filter (·.2.2)).length + (if s.2.2 then 1 else 0) = (S.filter (·.2.2)).length + (if x.2.2 then 1 else 0) := by
  induction S with
  | nil => intro i s x h; simp at h
  | cons t S ih =>
    intro i s x h
    cases i with
    | zero =>
      simp only [List.getElem?_cons_zero, Option.some.injEq] at h
      subst h
      rw [List.set_cons_zero, List.filter_cons, List.filter_cons]
      split <;> split <;> simp_all <;> omega
    | succ i =>
      have h2 := ih (i := i) (s := s) (x := x) (by simpa using h)
      rw [List.set_cons_succ, List.filter_cons, List.filter_cons]
      split <;> (try simp only [List.length_cons]) <;> omega
theorem sinv_put {E : List (List Int)} {S : List StD} {Q : List Int → List Int → Prop} {m : Nat} {r a : List Int} (h : SInv E S Q m) (hr : Reach E r a) (hl : a.length ≤ 6 * (m + 1)) (hb : ∀ r0 a0, DS S r0 a0 → leA a0 a) :
    SInv E (putL S r a) (fun r' a' => Q r' a' ∨ (r' = r ∧ a' = a)) m ∧ ∀ r0 a0, DS (putL S r a) r0 a0 ↔ DS S r0 a0 := by
  rcases first_at S r with ⟨i, s, h1, h2, h3⟩ | h1
  · rw [putL_at S i s r a h1 h2 h3]
    have hsm := List.mem_of_getElem? h1
    obtain ⟨s1, s2, s3⟩ := s
    simp only at h2
    subst h2
    simp only
    by_cases hs3 : s3 = true
    · subst hs3
      rw [ltA_not (hb _ _ hsm)]
      simp only [Bool.false_eq_true, if_false]
      rw [set_same h1]
      exact ⟨⟨search_put h.srch hr hb (fun r' a' h => .inl h) (fun r' a' h => ⟨a', h, leA_refl a'⟩) (.inl ⟨s2, hsm, hb _ _ hsm⟩) (fun r' a' h => h), h.reach, h.len, h.nd, h.cnt⟩, fun _ _ => Iff.rfl⟩
    · obtain rfl : s3 = false := by cases s3 <;> simp_all
      cases hlt : ltA a s2 with
      | false =>
        simp only [Bool.false_eq_true, if_false]
        rw [set_same h1]
        exact ⟨⟨search_put h.srch hr hb (fun r' a' h => .inl h) (fun r' a' h => ⟨a', h, leA_refl a'⟩) (.inr ⟨s2, hsm, ltA_false hlt⟩) (fun r' a' h => h), h.reach, h.len, h.nd, h.cnt⟩, fun _ _ => Iff.rfl⟩
      | true =>
        simp only [if_true]
        have hD : ∀ r0 a0, DS (S.set i (s1, a, false)) r0 a0 ↔ DS S r0 a0 := fun r0 a0 => by
          unfold DS
          rw [mem_set h1]
          constructor
          · rintro (e | ⟨j, -, hj⟩)
            · simp at e
            · exact List.mem_of_getElem? hj
          · intro hm
            obtain ⟨j, hj⟩ := List.mem_iff_getElem?.1 hm
            refine .inr ⟨j, fun e => ?_, hj⟩
            rw [e, h1] at hj
            simp at hj
        refine ⟨⟨search_put (D := DS (S.set i (s1, a, false))) (O := OS S) (O' := OS (S.set i (s1, a, false))) ?_ hr (fun r0 a0 h0 => hb _ _ ((hD _ _).1 h0)) (fun r' a' ho => ?_) (fun r' a' ho => ?_) (.inr ⟨a, (mem_set h1).2 (.inl rfl), leA_refl a⟩) (fun r' a' h => h), fun t ht => ?_, fun t ht => ?_, fun j k u v hj hk he => ?_, ?_⟩, hD⟩
        · exact ⟨h.srch.reach, fun r' a' h0 => h.srch.some_ _ _ ((hD _ _).1 h0), fun r1 a1 r2 a2 h4 h5 => h.srch.before _ _ _ _ ((hD _ _).1 h4) h5, fun r' a' hq => by
            rcases h.srch.cov _ _ hq with ⟨d, h4, h5⟩ | h4
            · exact .inl ⟨d, (hD _ _).2 h4, h5⟩
            · exact .inr h4⟩
        · rcases (mem_set h1).1 ho with e | ⟨j, -, hj⟩
          · simp only [Prod.mk.injEq] at e
            exact .inr ⟨e.1, e.2.1⟩
          · exact .inl (List.mem_of_getElem? hj)
        · obtain ⟨j, hj⟩ := List.mem_iff_getElem?.1 ho
          by_cases hji : j = i
          · rw [hji, h1] at hj
            simp only [Option.some.injEq, Prod.mk.injEq] at hj
            exact ⟨a, by rw [← hj.1]; exact (mem_set h1).2 (.inl rfl), by rw [← hj.2.1]; exact ltA_true hlt⟩
          · exact ⟨a', (mem_set h1).2 (.inr ⟨j, hji, hj⟩), leA_refl a'⟩
        · rcases (mem_set h1).1 ht with rfl | ⟨j, -, hj⟩
          · exact hr
          · exact h.reach t (List.mem_of_getElem? hj)
        · rcases (mem_set h1).1 ht with rfl | ⟨j, -, hj⟩
          · exact hl
          · exact h.len t (List.mem_of_getElem? hj)
        · have g1 : ∀ (j : Nat) u, (S.set i (s1, a, false))[j]? = some u → ∃ u', S[j]? = some u' ∧ u'.1 = u.1 := fun j u hu => by
            rw [List.getElem?_set] at hu
            split at hu
            · rename_i e
              rw [if_pos (by have := (List.getElem?_eq_some_iff.1 h1).1; omega)] at hu
              rw [← Option.some.inj hu, ← e]
              exact ⟨_, h1, rfl⟩
            · exact ⟨u, hu, rfl⟩
          obtain ⟨u', hu1, hu2⟩ := g1 j u hj
          obtain ⟨v', hv1, hv2⟩ := g1 k v hk
          exact h.nd j k u' v' hu1 hv1 (by rw [hu2, hv2, he])
        · have := filter_set (x := (s1, a, false)) h1
          simp only [Bool.false_eq_true, if_false] at this
          have hc := h.cnt
          omega
  · rw [putL_new S r a h1]
    have hD : ∀ r0 a0, DS (S ++ [(r, a, false)]) r0 a0 ↔ DS S r0 a0 := fun r0 a0 => by unfold DS; simp
    refine ⟨⟨search_put (D := DS (S ++ [(r, a, false)])) (O := OS S) (O' := OS (S ++ [(r, a, false)])) ?_ hr (fun r0 a0 h0 => hb _ _ ((hD _ _).1 h0)) (fun r' a' ho => ?_) (fun r' a' ho => ⟨a', List.mem_append_left _ ho, leA_refl a'⟩) (.inr ⟨a, List.mem_append_right _ (by simp), leA_refl a⟩) (fun r' a' h => h), fun t ht => ?_, fun t ht => ?_, fun j k u v hj hk he => ?_, ?_⟩, hD⟩
    · exact ⟨h.srch.reach, fun r' a' h0 => h.srch.some_ _ _ ((hD _ _).1 h0), fun r1 a1 r2 a2 h4 h5 => h.srch.before _ _ _ _ ((hD _ _).1 h4) h5, fun r' a' hq => by
        rcases h.srch.cov _ _ hq with ⟨d, h4, h5⟩ | h4
        · exact .inl ⟨d, (hD _ _).2 h4, h5⟩
        · exact .inr h4⟩
    · rcases List.mem_append.1 ho with h4 | h4
      · exact .inl h4
      · simp only [List.mem_singleton, Prod.mk.injEq] at h4
        exact .inr ⟨h4.1, h4.2.1⟩
    · rcases List.mem_append.1 ht with h4 | h4
      · exact h.reach t h4
      · rw [List.mem_singleton] at h4; subst h4; exact hr
    · rcases List.mem_append.1 ht with h4 | h4
      · exact h.len t h4
      · rw [List.mem_singleton] at h4; subst h4; exact hl
    · have g1 : ∀ (j : Nat) u, (S ++ [(r, a, false)])[j]? = some u → S[j]? = some u ∨ (j = S.length ∧ u.1 = r) := fun j u hu => by
        rw [List.getElem?_append] at hu
        split at hu
        · exact .inl hu
        · by_cases e : j = S.length
          · subst e
            simp only [Nat.sub_self, List.getElem?_cons_zero, Option.some.injEq] at hu
            exact .inr ⟨rfl, by rw [← hu]⟩
          · rw [List.getElem?_eq_none (by simp; omega)] at hu
            cases hu
      rcases g1 j u hj with hj | ⟨e1, hj⟩
      · rcases g1 k v hk with hk | ⟨e2, hk⟩
        · exact h.nd j k u v hj hk he
        · exact absurd (he.trans hk) (h1 u (List.mem_of_getElem? hj))
      · rcases g1 k v hk with hk | ⟨e2, hk⟩
        · exact absurd (he.symm.trans hj) (h1 v (List.mem_of_getElem? hk))
        · omega
    · rw [List.filter_append]; simp [h.cnt]
/-- The least open state is closed. -/
theorem sinv_done {E : List (List Int)} {S : List StD} {Q : List Int → List Int → Prop} {m i : Nat} {r a : List Int} (h : SInv E S Q m) (hi : S[i]? = some (r, a, false)) (hr : r ≠ []) (hmin : ∀ r' a', OS S r' a' → leA a a') :
    SInv E (S.set i (r, a, true)) Q (m + 1) ∧ (∀ r0 a0, DS (S.set i (r, a, true)) r0 a0 ↔ DS S r0 a0 ∨ (r0 = r ∧ a0 = a)) ∧ ∀ r0 a0, DS (S.set i (r, a, true)) r0 a0 → leA a0 a := by
  have hD : ∀ r0 a0, DS (S.set i (r, a, true)) r0 a0 ↔ DS S r0 a0 ∨ (r0 = r ∧ a0 = a) := fun r0 a0 => by
    unfold DS
    rw [mem_set hi]
    constructor
    · rintro (e | ⟨j, -, hj⟩)
      · simp only [Prod.mk.injEq, and_true] at e
        exact .inr e
      · exact .inl (List.mem_of_getElem? hj)
    · rintro (hm | ⟨rfl, rfl⟩)
      · obtain ⟨j, hj⟩ := List.mem_iff_getElem?.1 hm
        refine .inr ⟨j, fun e => ?_, hj⟩
        rw [e, hi] at hj
        simp at hj
      · exact .inl rfl
  have ho := List.mem_of_getElem? hi
  refine ⟨⟨search_done h.srch (fun r' a' h1 => ?_) (fun r' a' h1 => ?_) ho hr hmin hD, fun t ht => ?_, fun t ht => ?_, fun j k u v hj hk he => ?_, ?_⟩, hD, fun r0 a0 h0 => ?_⟩
  · rcases (mem_set hi).1 h1 with e | ⟨j, -, hj⟩
    · simp at e
    · exact List.mem_of_getElem? hj
  · obtain ⟨j, hj⟩ := List.mem_iff_getElem?.1 h1
    by_cases e : j = i
    · rw [e, hi] at hj
      simp only [Option.some.injEq, Prod.mk.injEq, and_true] at hj
      exact .inr ⟨hj.1.symm, hj.2.symm⟩
    · exact .inl ((mem_set hi).2 (.inr ⟨j, e, hj⟩))
  · rcases (mem_set hi).1 ht with rfl | ⟨j, -, hj⟩
    · exact h.reach (r, a, false) ho
    · exact h.reach t (List.mem_of_getElem? hj)
  · rcases (mem_set hi).1 ht with rfl | ⟨j, -, hj⟩
    · have := h.len (r, a, false) ho
      simp only at this ⊢
      omega
    · have := h.len t (List.mem_of_getElem? hj)
      omega
  · have g1 : ∀ (j : Nat) u, (S.set i (r, a, true))[j]? = some u → ∃ u', S[j]? = some u' ∧ u'.1 = u.1 := fun j u hu => by
      rw [List.getElem?_set] at hu
      split at hu
      · rename_i e
        rw [if_pos (by have := (List.getElem?_eq_some_iff.1 hi).1; omega)] at hu
        rw [← Option.some.inj hu, ← e]
        exact ⟨_, hi, rfl⟩
      · exact ⟨u, hu, rfl⟩
    obtain ⟨u', hu1, hu2⟩ := g1 j u hj
    obtain ⟨v', hv1, hv2⟩ := g1 k v hk
    exact h.nd j k u' v' hu1 hv1 (by rw [hu2, hv2, he])
  · have := filter_set (x := (r, a, true)) hi
    simp only [Bool.false_eq_true, if_false, if_true] at this
    have hc := h.cnt
    omega
  · rcases (hD _ _).1 h0 with h1 | ⟨-, rfl⟩
    · exact h.srch.before _ _ _ _ h1 ho
    · exact leA_refl _
/-- The reference starts with all pairs of which one begins the other. -/
theorem start_of {E : List (List Int)} {p b : List Int} (hp : p ∈ E) (hb : b ∈ E) (hne : p ≠ b) (h : beginsB b p = true) : Start E (b.drop p.length) b := by
  refine ⟨p, hp, hb, ?_, h, rfl⟩
  obtain ⟨x, hx⟩ := begins_iff.1 h
  cases x with
  | nil => rw [List.append_nil] at hx; exact absurd hx.symm hne
  | cons y x => rw [hx]; simp
theorem sinv_weaken {E : List (List Int)} {S : List StD} {Q Q' : List Int → List Int → Prop} {m : Nat} (h : SInv E S Q m) (hQ : ∀ r a, Q' r a → Q r a) : SInv E S Q' m := ⟨search_weaken h.srch hQ, h.reach, h.len, h.nd, h.cnt⟩
theorem sinv_lens {E : List (List Int)} {S : List StD} {Q : List Int → List Int → Prop} {m : Nat} (h : SInv E S Q m) (hE : E.length ≤ 40) (ho : ∀ o ∈ E, o.length ≤ 6) : ∀ s ∈ S, s.1.length ≤ 6 ∧ s.2.1.length ≤ 1686 := fun s hs => by
  have h1 := rest_len ho (h.reach s hs)
  have h2 := h.len s hs
  have h3 := h.size hE ho
  omega
theorem sinv_none {E : List (List Int)} {S : List StD} {Q : List Int → List Int → Prop} (h : SInv E S Q 0) : ∀ r a, ¬ DS S r a := fun r a hd => by
  have h1 := h.cnt
  have h2 : (r, a, true) ∈ S.filter (·.2.2) := List.mem_filter.2 ⟨hd, rfl⟩
  rw [List.eq_nil_of_length_eq_zero h1] at h2
  cases h2
end Go.Proofs.YtekidodfcanjaaaDoor
