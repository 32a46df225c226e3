/-
  The ends of outlines: a search meets no more than so many. Plain values; no program is named here.
-/
import Derived.Test.YtekidodfcanjaaaGreatDoorDictPl
namespace Go.Proofs.YtekidodfcanjaaaGreatDoor
set_option linter.unusedVariables false

theorem nodup_len {α : Type} [DecidableEq α] : ∀ (a b : List α), a.Nodup → (∀ x ∈ a, x ∈ b) → a.length ≤ b.length
  | [], b, _, _ => Nat.zero_le _
  | x :: a, b, hn, h => by
    have hn' := List.nodup_cons.1 hn
    have hx := h x (by simp)
    have h1 := nodup_len a (b.erase x) hn'.2 (fun y hy => (List.mem_erase_of_ne (fun e => hn'.1 (by rw [← e]; exact hy))).2 (h y (by simp [hy])))
    rw [List.length_erase_of_mem hx] at h1
    have := List.length_pos_of_mem hx
    simp only [List.length_cons]
    omega
def tailsL (E : List (List Int)) : List (List Int) := E.flatMap fun o => (List.range (o.length + 1)).map o.drop
theorem tails_len : ∀ (E : List (List Int)), (∀ o ∈ E, o.length ≤ 6) → (tailsL E).length ≤ 7 * E.length
  | [], _ => by simp [tailsL]
  | o :: E, h => by
    have h1 := tails_len E (fun x hx => h x (by simp [hx]))
    have h2 := h o (by simp)
    unfold tailsL at h1 ⊢
    rw [List.flatMap_cons, List.length_append]
    simp only [List.length_map, List.length_range, List.length_cons]
    omega
theorem reach_tails {E : List (List Int)} {r a : List Int} (h : Reach E r a) : r ∈ tailsL E := by
  obtain ⟨o, ho, k, hk, rfl⟩ := reach_tail h
  exact List.mem_flatMap.2 ⟨o, ho, List.mem_map.2 ⟨k, List.mem_range.2 (by omega), rfl⟩⟩
/-- Ends that are read once more, each met once: not more than 280. -/
theorem rests_len {E : List (List Int)} (hE : E.length ≤ 40) (ho : ∀ o ∈ E, o.length ≤ 6) {rs : List (List Int)} (hn : rs.Nodup) (hr : ∀ r ∈ rs, ∃ a, Reach E r a) : rs.length ≤ 280 := by
  have h1 := nodup_len rs (tailsL E) hn (fun r h => by obtain ⟨a, ha⟩ := hr r h; exact reach_tails ha)
  have h2 := tails_len E ho
  omega
theorem rest_len {E : List (List Int)} (ho : ∀ o ∈ E, o.length ≤ 6) {r a : List Int} (h : Reach E r a) : r.length ≤ 6 := by
  obtain ⟨o, hoE, k, hk, rfl⟩ := reach_tail h
  have := ho o hoE
  simp
  omega
end Go.Proofs.YtekidodfcanjaaaGreatDoor
namespace Go.Proofs.YtekidodfcanjaaaGreatDoor
set_option linter.unusedVariables false
set_option linter.unusedSimpArgs false

abbrev StD := List Int × List Int × Bool
def DS (S : List StD) (r a : List Int) : Prop := (r, a, true) ∈ S
def OS (S : List StD) (r a : List Int) : Prop := (r, a, false) ∈ S
theorem ltA_irr (a : List Int) : ltA a a = false := by
  unfold ltA
  rw [if_pos rfl, cmpL_eq.2 rfl]
  rfl
theorem ltA_not {a b : List Int} (h : leA b a) : ltA a b = false := by
  cases hl : ltA a b with
  | false => rfl
  | true =>
    have := leA_anti (ltA_true hl) h
    rw [this, ltA_irr] at hl
    cases hl
/-- A state is put in: another one of the same rest is improved. -/
def putL : List StD → List Int → List Int → List StD
  | [], r, a => [(r, a, false)]
  | s :: S, r, a => if s.1 = r then (s.1, (if ltA a s.2.1 then a else s.2.1), s.2.2) :: S else s :: putL S r a
theorem putL_at : ∀ (S : List StD) (i : Nat) (s : StD) (r a : List Int), S[i]? = some s → s.1 = r → (∀ (j : Nat) t, j < i → S[j]? = some t → t.1 ≠ r) → putL S r a = S.set i (s.1, (if ltA a s.2.1 then a else s.2.1), s.2.2)
  | [], i, s, r, a, h, _, _ => by simp at h
  | t :: S, 0, s, r, a, h, h1, _ => by
    simp only [List.getElem?_cons_zero, Option.some.injEq] at h
    subst h
    rw [putL, if_pos h1]; rfl
  | t :: S, i + 1, s, r, a, h, h1, h2 => by
    have h0 := h2 0 t (by omega) rfl
    rw [putL, if_neg h0, List.set_cons_succ, putL_at S i s r a (by simpa using h) h1 (fun j u hj hu => h2 (j + 1) u (by omega) (by simpa using hu))]
theorem putL_new : ∀ (S : List StD) (r a : List Int), (∀ t ∈ S, t.1 ≠ r) → putL S r a = S ++ [(r, a, false)]
  | [], r, a, _ => rfl
  | t :: S, r, a, h => by rw [putL, if_neg (h t (by simp)), putL_new S r a (fun u hu => h u (by simp [hu]))]; rfl
theorem first_at : ∀ (S : List StD) (r : List Int), (∃ (i : Nat) (s : StD), S[i]? = some s ∧ s.1 = r ∧ ∀ (j : Nat) t, j < i → S[j]? = some t → t.1 ≠ r) ∨ ∀ t ∈ S, t.1 ≠ r
  | [], r => .inr (fun t h => by cases h)
  | s :: S, r => by
    by_cases h : s.1 = r
    · exact .inl ⟨0, s, rfl, h, fun j t hj => absurd hj (by omega)⟩
    · rcases first_at S r with ⟨i, u, h1, h2, h3⟩ | h1
      · refine .inl ⟨i + 1, u, by simpa using h1, h2, fun j t hj ht => ?_⟩
        cases j with
        | zero => simp only [List.getElem?_cons_zero, Option.some.injEq] at ht; subst ht; exact h
        | succ j => exact h3 j t (by omega) (by simpa using ht)
      · refine .inr fun t ht => ?_
        rcases List.mem_cons.1 ht with rfl | ht
        · exact h
        · exact h1 t ht
theorem mem_set {α : Type} {S : List α} {i : Nat} {s x t : α} (hi : S[i]? = some s) : t ∈ S.set i x ↔ t = x ∨ ∃ j, j ≠ i ∧ S[j]? = some t := by
  have hl := (List.getElem?_eq_some_iff.1 hi).1
  rw [List.mem_iff_getElem?]
  constructor
  · rintro ⟨j, hj⟩
    rw [List.getElem?_set] at hj
    split at hj
    · first | exact .inl (Option.some.inj hj).symm | (split at hj; exact .inl (Option.some.inj hj).symm; cases hj)
    · exact .inr ⟨j, by omega, hj⟩
  · rintro (rfl | ⟨j, h1, h2⟩)
    · exact ⟨i, by rw [List.getElem?_set, if_pos rfl, if_pos hl]⟩
    · exact ⟨j, by rw [List.getElem?_set, if_neg (by omega)]; exact h2⟩
theorem set_same {α : Type} : ∀ {S : List α} {i : Nat} {s : α}, S[i]? = some s → S.set i s = S
  | [], i, s, h => by simp at h
  | t :: S, 0, s, h => by simp only [List.getElem?_cons_zero, Option.some.injEq] at h; rw [h]; rfl
  | t :: S, i + 1, s, h => by rw [List.set_cons_succ, set_same (by simpa using h)]

/-- What holds of the reference's list of states; m of them are done. -/
structure SInv (E : List (List Int)) (S : List StD) (Q : List Int → List Int → Prop) (m : Nat) : Prop where
  srch : Search E (DS S) (OS S) Q
  reach : ∀ s ∈ S, Reach E s.1 s.2.1
  len : ∀ s ∈ S, s.2.1.length ≤ 6 * (m + 1)
  nd : ∀ (i j : Nat) s t, S[i]? = some s → S[j]? = some t → s.1 = t.1 → i = j
  cnt : (S.filter (·.2.2)).length = m
theorem SInv.nodup {E : List (List Int)} {S : List StD} {Q : List Int → List Int → Prop} {m : Nat} (h : SInv E S Q m) : (S.map (·.1)).Nodup := by
  rw [List.Nodup, List.pairwise_iff_getElem]
  intro i j hi hj hij he
  simp only [List.length_map] at hi hj
  simp only [List.getElem_map] at he
  have := h.nd i j _ _ (List.getElem?_eq_getElem hi) (List.getElem?_eq_getElem hj) he
  omega
theorem SInv.size {E : List (List Int)} {S : List StD} {Q : List Int → List Int → Prop} {m : Nat} (h : SInv E S Q m) (hE : E.length ≤ 40) (ho : ∀ o ∈ E, o.length ≤ 6) : S.length ≤ 280 ∧ m ≤ S.length := by
  have h1 := rests_len hE ho h.nodup (fun r hr => by
    obtain ⟨s, hs, rfl⟩ := List.mem_map.1 hr
    exact ⟨_, h.reach s hs⟩)
  rw [List.length_map] at h1
  have h2 := List.length_filter_le (fun s : StD => s.2.2) S
  rw [h.cnt] at h2
  exact ⟨h1, h2⟩
theorem sinv_nil (E : List (List Int)) : SInv E [] (fun _ _ => False) 0 :=
  ⟨⟨fun _ _ h => (by cases h), fun _ _ h => (by cases h), fun _ _ _ _ h => (by cases h), fun _ _ (h : False) => absurd h id⟩, fun _ h => (by cases h), fun _ h => (by cases h), fun i j s t h => (by simp at h), rfl⟩
theorem filter_set {S : List StD} : ∀ {i : Nat} {s x : StD}, S[i]? = some s → ((S.set i x).filter (·.2.2)).length + (if s.2.2 then 1 else 0) = (S.filter (·.2.2)).length + (if x.2.2 then 1 else 0) := by
  induction S with
  | nil => intro i s x h; simp at h
  | cons t S ih =>
    intro i s x h
    cases i with
    | zero =>
      simp only [List.getElem?_cons_zero, Option.some.injEq] at h
      subst h
      rw [List.set_cons_zero, List.filter_cons, List.filter_cons]
      split <;> split <;> simp_all <;> omega
    | succ i =>
      have h2 := ih (i := i) (s := s) (x := x) (by simpa using h)
      rw [List.set_cons_succ, List.filter_cons, List.filter_cons]
      split <;> (try simp only [List.length_cons]) <;> omega
theorem sinv_put {E : List (List Int)} {S : List StD} {Q : List Int → List Int → Prop} {m : Nat} {r a : List Int} (h : SInv E S Q m) (hr : Reach E r a) (hl : a.length ≤ 6 * (m + 1)) (hb : ∀ r0 a0, DS S r0 a0 → leA a0 a) :
    SInv E (putL S r a) (fun r' a' => Q r' a' ∨ (r' = r ∧ a' = a)) m ∧ ∀ r0 a0, DS (putL S r a) r0 a0 ↔ DS S r0 a0 := by
  rcases first_at S r with ⟨i, s, h1, h2, h3⟩ | h1
  · rw [putL_at S i s r a h1 h2 h3]
    have hsm := List.mem_of_getElem? h1
    obtain ⟨s1, s2, s3⟩ := s
    simp only at h2
    subst h2
    simp only
    by_cases hs3 : s3 = true
    · subst hs3
      rw [ltA_not (hb _ _ hsm)]
      simp only [Bool.false_eq_true, if_false]
      rw [set_same h1]
      exact ⟨⟨search_put h.srch hr hb (fun r' a' h => .inl h) (fun r' a' h => ⟨a', h, leA_refl a'⟩) (.inl ⟨s2, hsm, hb _ _ hsm⟩) (fun r' a' h => h), h.reach, h.len, h.nd, h.cnt⟩, fun _ _ => Iff.rfl⟩
    · obtain rfl : s3 = false := by cases s3 <;> simp_all
      cases hlt : ltA a s2 with
      | false =>
        simp only [Bool.false_eq_true, if_false]
        rw [set_same h1]
        exact ⟨⟨search_put h.srch hr hb (fun r' a' h => .inl h) (fun r' a' h => ⟨a', h, leA_refl a'⟩) (.inr ⟨s2, hsm, ltA_false hlt⟩) (fun r' a' h => h), h.reach, h.len, h.nd, h.cnt⟩, fun _ _ => Iff.rfl⟩
      | true =>
        simp only [if_true]
        have hD : ∀ r0 a0, DS (S.set i (s1, a, false)) r0 a0 ↔ DS S r0 a0 := fun r0 a0 => by
          unfold DS
          rw [mem_set h1]
          constructor
          · rintro (e | ⟨j, -, hj⟩)
            · simp at e
            · exact List.mem_of_getElem? hj
          · intro hm
            obtain ⟨j, hj⟩ := List.mem_iff_getElem?.1 hm
            refine .inr ⟨j, fun e => ?_, hj⟩
            rw [e, h1] at hj
            simp at hj
        refine ⟨⟨search_put (D := DS (S.set i (s1, a, false))) (O := OS S) (O' := OS (S.set i (s1, a, false))) ?_ hr (fun r0 a0 h0 => hb _ _ ((hD _ _).1 h0)) (fun r' a' ho => ?_) (fun r' a' ho => ?_) (.inr ⟨a, (mem_set h1).2 (.inl rfl), leA_refl a⟩) (fun r' a' h => h), fun t ht => ?_, fun t ht => ?_, fun j k u v hj hk he => ?_, ?_⟩, hD⟩
        · exact ⟨h.srch.reach, fun r' a' h0 => h.srch.some_ _ _ ((hD _ _).1 h0), fun r1 a1 r2 a2 h4 h5 => h.srch.before _ _ _ _ ((hD _ _).1 h4) h5, fun r' a' hq => by
            rcases h.srch.cov _ _ hq with ⟨d, h4, h5⟩ | h4
            · exact .inl ⟨d, (hD _ _).2 h4, h5⟩
            · exact .inr h4⟩
        · rcases (mem_set h1).1 ho with e | ⟨j, -, hj⟩
          · simp only [Prod.mk.injEq] at e
            exact .inr ⟨e.1, e.2.1⟩
          · exact .inl (List.mem_of_getElem? hj)
        · obtain ⟨j, hj⟩ := List.mem_iff_getElem?.1 ho
          by_cases hji : j = i
          · rw [hji, h1] at hj
            simp only [Option.some.injEq, Prod.mk.injEq] at hj
            exact ⟨a, by rw [← hj.1]; exact (mem_set h1).2 (.inl rfl), by rw [← hj.2.1]; exact ltA_true hlt⟩
          · exact ⟨a', (mem_set h1).2 (.inr ⟨j, hji, hj⟩), leA_refl a'⟩
        · rcases (mem_set h1).1 ht with rfl | ⟨j, -, hj⟩
          · exact hr
          · exact h.reach t (List.mem_of_getElem? hj)
        · rcases (mem_set h1).1 ht with rfl | ⟨j, -, hj⟩
          · exact hl
          · exact h.len t (List.mem_of_getElem? hj)
        · have g1 : ∀ (j : Nat) u, (S.set i (s1, a, false))[j]? = some u → ∃ u', S[j]? = some u' ∧ u'.1 = u.1 := fun j u hu => by
            rw [List.getElem?_set] at hu
            split at hu
            · rename_i e
              rw [if_pos (by have := (List.getElem?_eq_some_iff.1 h1).1; omega)] at hu
              rw [← Option.some.inj hu, ← e]
              exact ⟨_, h1, rfl⟩
            · exact ⟨u, hu, rfl⟩
          obtain ⟨u', hu1, hu2⟩ := g1 j u hj
          obtain ⟨v', hv1, hv2⟩ := g1 k v hk
          exact h.nd j k u' v' hu1 hv1 (by rw [hu2, hv2, he])
        · have := filter_set (x := (s1, a, false)) h1
          simp only [Bool.false_eq_true, if_false] at this
          have hc := h.cnt
          omega
  · rw [putL_new S r a h1]
    have hD : ∀ r0 a0, DS (S ++ [(r, a, false)]) r0 a0 ↔ DS S r0 a0 := fun r0 a0 => by unfold DS; simp
    refine ⟨⟨search_put (D := DS (S ++ [(r, a, false)])) (O := OS S) (O' := OS (S ++ [(r, a, false)])) ?_ hr (fun r0 a0 h0 => hb _ _ ((hD _ _).1 h0)) (fun r' a' ho => ?_) (fun r' a' ho => ⟨a', List.mem_append_left _ ho, leA_refl a'⟩) (.inr ⟨a, List.mem_append_right _ (by simp), leA_refl a⟩) (fun r' a' h => h), fun t ht => ?_, fun t ht => ?_, fun j k u v hj hk he => ?_, ?_⟩, hD⟩
    · exact ⟨h.srch.reach, fun r' a' h0 => h.srch.some_ _ _ ((hD _ _).1 h0), fun r1 a1 r2 a2 h4 h5 => h.srch.before _ _ _ _ ((hD _ _).1 h4) h5, fun r' a' hq => by
        rcases h.srch.cov _ _ hq with ⟨d, h4, h5⟩ | h4
        · exact .inl ⟨d, (hD _ _).2 h4, h5⟩
        · exact .inr h4⟩
    · rcases List.mem_append.1 ho with h4 | h4
      · exact .inl h4
      · simp only [List.mem_singleton, Prod.mk.injEq] at h4
        exact .inr ⟨h4.1, h4.2.1⟩
    · rcases List.mem_append.1 ht with h4 | h4
      · exact h.reach t h4
      · rw [List.mem_singleton] at h4; subst h4; exact hr
    · rcases List.mem_append.1 ht with h4 | h4
      · exact h.len t h4
      · rw [List.mem_singleton] at h4; subst h4; exact hl
    · have g1 : ∀ (j : Nat) u, (S ++ [(r, a, false)])[j]? = some u → S[j]? = some u ∨ (j = S.length ∧ u.1 = r) := fun j u hu => by
        rw [List.getElem?_append] at hu
        split at hu
        · exact .inl hu
        · by_cases e : j = S.length
          · subst e
            simp only [Nat.sub_self, List.getElem?_cons_zero, Option.some.injEq] at hu
            exact .inr ⟨rfl, by rw [← hu]⟩
          · rw [List.getElem?_eq_none (by simp; omega)] at hu
            cases hu
      rcases g1 j u hj with hj | ⟨e1, hj⟩
      · rcases g1 k v hk with hk | ⟨e2, hk⟩
        · exact h.nd j k u v hj hk he
        · exact absurd (he.trans hk) (h1 u (List.mem_of_getElem? hj))
      · rcases g1 k v hk with hk | ⟨e2, hk⟩
        · exact absurd (he.symm.trans hj) (h1 v (List.mem_of_getElem? hk))
        · omega
    · rw [List.filter_append]; simp [h.cnt]
/-- The least open state is closed. -/
theorem sinv_done {E : List (List Int)} {S : List StD} {Q : List Int → List Int → Prop} {m i : Nat} {r a : List Int} (h : SInv E S Q m) (hi : S[i]? = some (r, a, false)) (hr : r ≠ []) (hmin : ∀ r' a', OS S r' a' → leA a a') :
    SInv E (S.set i (r, a, true)) Q (m + 1) ∧ (∀ r0 a0, DS (S.set i (r, a, true)) r0 a0 ↔ DS S r0 a0 ∨ (r0 = r ∧ a0 = a)) ∧ ∀ r0 a0, DS (S.set i (r, a, true)) r0 a0 → leA a0 a := by
  have hD : ∀ r0 a0, DS (S.set i (r, a, true)) r0 a0 ↔ DS S r0 a0 ∨ (r0 = r ∧ a0 = a) := fun r0 a0 => by
    unfold DS
    rw [mem_set hi]
    constructor
    · rintro (e | ⟨j, -, hj⟩)
      · simp only [Prod.mk.injEq, and_true] at e
        exact .inr e
      · exact .inl (List.mem_of_getElem? hj)
    · rintro (hm | ⟨rfl, rfl⟩)
      · obtain ⟨j, hj⟩ := List.mem_iff_getElem?.1 hm
        refine .inr ⟨j, fun e => ?_, hj⟩
        rw [e, hi] at hj
        simp at hj
      · exact .inl rfl
  have ho := List.mem_of_getElem? hi
  refine ⟨⟨search_done h.srch (fun r' a' h1 => ?_) (fun r' a' h1 => ?_) ho hr hmin hD, fun t ht => ?_, fun t ht => ?_, fun j k u v hj hk he => ?_, ?_⟩, hD, fun r0 a0 h0 => ?_⟩
  · rcases (mem_set hi).1 h1 with e | ⟨j, -, hj⟩
    · simp at e
    · exact List.mem_of_getElem? hj
  · obtain ⟨j, hj⟩ := List.mem_iff_getElem?.1 h1
    by_cases e : j = i
    · rw [e, hi] at hj
      simp only [Option.some.injEq, Prod.mk.injEq, and_true] at hj
      exact .inr ⟨hj.1.symm, hj.2.symm⟩
    · exact .inl ((mem_set hi).2 (.inr ⟨j, e, hj⟩))
  · rcases (mem_set hi).1 ht with rfl | ⟨j, -, hj⟩
    · exact h.reach (r, a, false) ho
    · exact h.reach t (List.mem_of_getElem? hj)
  · rcases (mem_set hi).1 ht with rfl | ⟨j, -, hj⟩
    · have := h.len (r, a, false) ho
      simp only at this ⊢
      omega
    · have := h.len t (List.mem_of_getElem? hj)
      omega
  · have g1 : ∀ (j : Nat) u, (S.set i (r, a, true))[j]? = some u → ∃ u', S[j]? = some u' ∧ u'.1 = u.1 := fun j u hu => by
      rw [List.getElem?_set] at hu
      split at hu
      · rename_i e
        rw [if_pos (by have := (List.getElem?_eq_some_iff.1 hi).1; omega)] at hu
        rw [← Option.some.inj hu, ← e]
        exact ⟨_, hi, rfl⟩
      · exact ⟨u, hu, rfl⟩
    obtain ⟨u', hu1, hu2⟩ := g1 j u hj
    obtain ⟨v', hv1, hv2⟩ := g1 k v hk
    exact h.nd j k u' v' hu1 hv1 (by rw [hu2, hv2, he])
  · have := filter_set (x := (r, a, true)) hi
    simp only [Bool.false_eq_true, if_false, if_true] at this
    have hc := h.cnt
    omega
  · rcases (hD _ _).1 h0 with h1 | ⟨-, rfl⟩
    · exact h.srch.before _ _ _ _ h1 ho
    · exact leA_refl _
/-- The reference starts with all pairs of which one begins the other. -/
theorem start_of {E : List (List Int)} {p b : List Int} (hp : p ∈ E) (hb : b ∈ E) (hne : p ≠ b) (h : beginsB b p = true) : Start E (b.drop p.length) b := by
  refine ⟨p, hp, hb, ?_, h, rfl⟩
  obtain ⟨x, hx⟩ := begins_iff.1 h
  cases x with
  | nil => rw [List.append_nil] at hx; exact absurd hx.symm hne
  | cons y x => rw [hx]; simp
theorem sinv_weaken {E : List (List Int)} {S : List StD} {Q Q' : List Int → List Int → Prop} {m : Nat} (h : SInv E S Q m) (hQ : ∀ r a, Q' r a → Q r a) : SInv E S Q' m := ⟨search_weaken h.srch hQ, h.reach, h.len, h.nd, h.cnt⟩
theorem sinv_lens {E : List (List Int)} {S : List StD} {Q : List Int → List Int → Prop} {m : Nat} (h : SInv E S Q m) (hE : E.length ≤ 40) (ho : ∀ o ∈ E, o.length ≤ 6) : ∀ s ∈ S, s.1.length ≤ 6 ∧ s.2.1.length ≤ 1686 := fun s hs => by
  have h1 := rest_len ho (h.reach s hs)
  have h2 := h.len s hs
  have h3 := h.size hE ho
  omega
theorem sinv_none {E : List (List Int)} {S : List StD} {Q : List Int → List Int → Prop} (h : SInv E S Q 0) : ∀ r a, ¬ DS S r a := fun r a hd => by
  have h1 := h.cnt
  have h2 : (r, a, true) ∈ S.filter (·.2.2) := List.mem_filter.2 ⟨hd, rfl⟩
  rw [List.eq_nil_of_length_eq_zero h1] at h2
  cases h2
end Go.Proofs.YtekidodfcanjaaaGreatDoor
namespace Go.Proofs.YtekidodfcanjaaaGreatDoor
set_option linter.unusedVariables false
set_option linter.unusedSimpArgs false

abbrev WtD := List Int × List Int
def without (O : List WtD) (k : Nat) : List WtD := O.take k ++ O.drop (k + 1)
theorem without_len {O : List WtD} {k : Nat} (h : k < O.length) : (without O k).length = O.length - 1 := by simp [without]; omega
theorem without_mem {O : List WtD} {k : Nat} {s : WtD} (h : O[k]? = some s) : (∀ t, t ∈ without O k → t ∈ O) ∧ ∀ t, t ∈ O → t ∈ without O k ∨ t = s := by
  have hk := (List.getElem?_eq_some_iff.1 h).1
  have hs := (List.getElem?_eq_some_iff.1 h).2
  have e : O = O.take k ++ s :: O.drop (k + 1) := by
    rw [← hs, ← List.drop_eq_getElem_cons hk, List.take_append_drop]
  unfold without
  refine ⟨fun t ht => ?_, fun t ht => ?_⟩
  · rw [e]
    rcases List.mem_append.1 ht with h1 | h1
    · exact List.mem_append_left _ h1
    · exact List.mem_append_right _ (List.mem_cons_of_mem _ h1)
  · rw [e] at ht
    rcases List.mem_append.1 ht with h1 | h1
    · exact .inl (List.mem_append_left _ h1)
    · rcases List.mem_cons.1 h1 with h1 | h1
      · exact .inr h1
      · exact .inl (List.mem_append_right _ h1)
structure WInv (E : List (List Int)) (D O : List WtD) (Q : List Int → List Int → Prop) : Prop where
  srch : Search E (fun r a => (r, a) ∈ D) (fun r a => (r, a) ∈ O) Q
  reach : ∀ s ∈ D, Reach E s.1 s.2
  lenD : ∀ s ∈ D, s.2.length ≤ 6 * (D.length + 1)
  lenO : ∀ s ∈ O, s.2.length ≤ 6 * (D.length + 1)
  nd : (D.map (·.1)).Nodup
section
variable {E : List (List Int)} {D O : List WtD} {Q : List Int → List Int → Prop} {r a : List Int} {k : Nat}
theorem winv_nil (E : List (List Int)) : WInv E [] [] (fun _ _ => False) :=
  ⟨⟨fun _ _ h => (by cases h), fun _ _ h => (by cases h), fun _ _ _ _ h => (by cases h), fun _ _ (h : False) => absurd h id⟩, fun _ h => (by cases h), fun _ h => (by cases h), fun _ h => (by cases h), List.nodup_nil⟩
theorem WInv.size (h : WInv E D O Q) (hE : E.length ≤ 40) (ho : ∀ o ∈ E, o.length ≤ 6) : D.length ≤ 280 := by
  have h1 := rests_len hE ho h.nd (fun r hr => by
    obtain ⟨s, hs, rfl⟩ := List.mem_map.1 hr
    exact ⟨_, h.reach s hs⟩)
  rwa [List.length_map] at h1
theorem winv_put (h : WInv E D O Q) (hr : Reach E r a) (hl : a.length ≤ 6 * (D.length + 1)) (hb : ∀ r0 a0, (r0, a0) ∈ D → leA a0 a) : WInv E D (O ++ [(r, a)]) (fun r' a' => Q r' a' ∨ (r' = r ∧ a' = a)) := by
  refine ⟨search_put h.srch hr hb (fun r' a' h1 => ?_) (fun r' a' h1 => ⟨a', List.mem_append_left _ h1, leA_refl a'⟩) (.inr ⟨a, List.mem_append_right _ (by simp), leA_refl a⟩) (fun r' a' h1 => h1), h.reach, h.lenD, fun s hs => ?_, h.nd⟩
  · rcases List.mem_append.1 h1 with h2 | h2
    · exact .inl h2
    · simp only [List.mem_singleton, Prod.mk.injEq] at h2
      exact .inr h2
  · rcases List.mem_append.1 hs with h2 | h2
    · exact h.lenO s h2
    · rw [List.mem_singleton] at h2; subst h2; exact hl
theorem winv_skip (h : WInv E D O Q) (hk : O[k]? = some (r, a)) (hd : ∃ d, (r, d) ∈ D) : WInv E D (without O k) Q := by
  have hm := without_mem hk
  exact ⟨search_skip h.srch (fun r' a' h1 => hm.1 _ h1) (fun r' a' h1 => (hm.2 _ h1).imp id (fun e => by simpa using e)) (List.mem_of_getElem? hk) hd, h.reach, h.lenD, fun s hs => h.lenO s (hm.1 s hs), h.nd⟩
theorem winv_done (h : WInv E D O Q) (hk : O[k]? = some (r, a)) (hr : r ≠ []) (hno : ∀ d, (r, d) ∉ D) (hmin : ∀ s ∈ O, leA a s.2) :
    WInv E (D ++ [(r, a)]) (without O k) Q ∧ ∀ r0 a0, (r0, a0) ∈ D ++ [(r, a)] → leA a0 a := by
  have hm := without_mem hk
  have ho := List.mem_of_getElem? hk
  refine ⟨⟨search_done h.srch (fun r' a' h1 => hm.1 _ h1) (fun r' a' h1 => (hm.2 _ h1).imp id (fun e => by simpa using e)) ho hr (fun r' a' h1 => hmin _ h1) (fun r' a' => by simp), fun s hs => ?_, fun s hs => ?_, fun s hs => ?_, ?_⟩, fun r0 a0 h0 => ?_⟩
  · rcases List.mem_append.1 hs with h2 | h2
    · exact h.reach s h2
    · rw [List.mem_singleton] at h2; subst h2; exact h.srch.reach _ _ ho
  · rw [List.length_append, List.length_singleton]
    rcases List.mem_append.1 hs with h2 | h2
    · have := h.lenD s h2; omega
    · rw [List.mem_singleton] at h2; subst h2
      have := h.lenO _ ho
      simp only at this ⊢
      omega
  · rw [List.length_append, List.length_singleton]
    have := h.lenO s (hm.1 s hs); omega
  · rw [List.map_append, List.nodup_append]
    refine ⟨h.nd, by simp, fun x hx y hy => ?_⟩
    simp only [List.map_cons, List.map_nil, List.mem_singleton] at hy
    obtain ⟨s, hs, rfl⟩ := List.mem_map.1 hx
    intro e
    rw [hy] at e
    exact hno s.2 (by rw [← e]; exact hs)
  · rcases List.mem_append.1 h0 with h1 | h1
    · exact h.srch.before _ _ _ _ h1 ho
    · simp only [List.mem_singleton, Prod.mk.injEq] at h1
      rw [h1.2]; exact leA_refl a
end
/-- All pairs were tried: what is due with nothing done. -/
theorem due_nil {E : List (List Int)} {D : List Int → List Int → Prop} (hD : ∀ r a, ¬ D r a) {r a : List Int} (h : Due E D r a) : Start E r a := by
  rcases h with h | ⟨r0, a0, h, -⟩
  · exact h
  · exact absurd h (hD _ _)
end Go.Proofs.YtekidodfcanjaaaGreatDoor
namespace Go.Proofs.YtekidodfcanjaaaGreatDoor
set_option linter.unusedVariables false
set_option linter.unusedSimpArgs false

theorem outs_len (l : List EntD) : (outsD l).length = l.length := by simp [outsD]
theorem outs_mem {l : List EntD} {k : Nat} {c : EntD} (h : l[k]? = some c) : c.1 ∈ outsD l := List.mem_map.2 ⟨c, List.mem_of_getElem? h, rfl⟩
theorem outs_at {l : List EntD} {o : List Int} (h : o ∈ outsD l) : ∃ (k : Nat) (c : EntD), l[k]? = some c ∧ c.1 = o := by
  obtain ⟨c, hc, rfl⟩ := List.mem_map.1 h
  obtain ⟨k, hk⟩ := List.mem_iff_getElem?.1 hc
  exact ⟨k, c, hk, rfl⟩
theorem outs_six {l : List EntD} (hv : dictB l = true) : ∀ o ∈ outsD l, o.length ≤ 6 := fun o ho => by
  obtain ⟨k, c, hk, rfl⟩ := outs_at ho
  exact (dict_out hv hk).2
/-- Pairs of entries before (i, k), the first of which begins the second. -/
def PairQ (l : List EntD) (i k : Nat) (r a : List Int) : Prop := ∃ (i' k' : Nat) (c d : EntD), (i' < i ∨ (i' = i ∧ k' < k)) ∧ l[i']? = some c ∧ l[k']? = some d ∧ c.1.length < d.1.length ∧ beginsB d.1 c.1 = true ∧ r = d.1.drop c.1.length ∧ a = d.1
section
variable {l : List EntD} {i k : Nat} {r a : List Int} {c d : EntD}
theorem pairQ_zero : ¬ PairQ l 0 0 r a := by
  rintro ⟨i', k', c, d, h, -⟩
  omega
theorem pairQ_next (hi : l[i]? = some c) (hk : l[k]? = some d) (h : PairQ l i (k + 1) r a) : PairQ l i k r a ∨ (r = d.1.drop c.1.length ∧ a = d.1) := by
  obtain ⟨i', k', c', d', h1, h2, h3, h4, h5, h6, h7⟩ := h
  by_cases e : i' = i ∧ k' = k
  · obtain ⟨rfl, rfl⟩ := e
    rw [hi] at h2
    rw [hk] at h3
    cases h2
    cases h3
    exact .inr ⟨h6, h7⟩
  · exact .inl ⟨i', k', c', d', by omega, h2, h3, h4, h5, h6, h7⟩
theorem pairQ_miss (hi : l[i]? = some c) (hk : l[k]? = some d) (hno : ¬ (c.1.length < d.1.length ∧ beginsB d.1 c.1 = true)) (h : PairQ l i (k + 1) r a) : PairQ l i k r a := by
  obtain ⟨i', k', c', d', h1, h2, h3, h4, h5, h6, h7⟩ := h
  by_cases e : i' = i ∧ k' = k
  · obtain ⟨rfl, rfl⟩ := e
    rw [hi] at h2
    rw [hk] at h3
    cases h2
    cases h3
    exact absurd ⟨h4, h5⟩ hno
  · exact ⟨i', k', c', d', by omega, h2, h3, h4, h5, h6, h7⟩
theorem pairQ_row (h : PairQ l (i + 1) 0 r a) : PairQ l i l.length r a := by
  obtain ⟨i', k', c', d', h1, h2, h3, h4, h5, h6, h7⟩ := h
  have := (List.getElem?_eq_some_iff.1 h3).1
  exact ⟨i', k', c', d', by omega, h2, h3, h4, h5, h6, h7⟩
theorem pairQ_start (h : Start (outsD l) r a) : PairQ l l.length 0 r a := by
  obtain ⟨p, hp, ha, h1, h2, h3⟩ := h
  obtain ⟨i, c, hi, rfl⟩ := outs_at hp
  obtain ⟨k, d, hk, rfl⟩ := outs_at ha
  exact ⟨i, k, c, d, .inl (List.getElem?_eq_some_iff.1 hi).1, hi, hk, h1, h2, h3, rfl⟩
theorem pair_start (hi : l[i]? = some c) (hk : l[k]? = some d) (h1 : c.1.length < d.1.length) (h2 : beginsB d.1 c.1 = true) : Start (outsD l) (d.1.drop c.1.length) d.1 := ⟨c.1, outs_mem hi, outs_mem hk, h1, h2, rfl⟩
/-- Two entries that differ: the one begins the other only if it is shorter. -/
theorem pair_lt (hv : dictB l = true) (hi : l[i]? = some c) (hk : l[k]? = some d) (hne : i ≠ k) (h : beginsB d.1 c.1 = true) : c.1.length < d.1.length := by
  obtain ⟨x, hx⟩ := begins_iff.1 h
  cases x with
  | nil =>
    rw [List.append_nil] at hx
    exact absurd (dict_inj hv hi hk hx.symm) hne
  | cons y x => rw [hx]; simp
theorem pair_no (hi : l[i]? = some c) (hk : l[k]? = some d) (h : ¬ (i ≠ k ∧ beginsB d.1 c.1 = true)) : ¬ (c.1.length < d.1.length ∧ beginsB d.1 c.1 = true) := by
  rintro ⟨h1, h2⟩
  refine h ⟨fun e => ?_, h2⟩
  rw [e, hk] at hi
  cases hi
  omega
end
/-- The least open state among the first i, or none. -/
def BestAt (S : List StD) (i : Nat) (b : Int) : Prop := (b = -1 ∧ ∀ (j : Nat) s, j < i → S[j]? = some s → s.2.2 = true) ∨ ∃ (n : Nat) (r a : List Int), b = (n : Int) ∧ n < i ∧ S[n]? = some (r, a, false) ∧ ∀ (j : Nat) r' a', j < i → S[j]? = some (r', a', false) → leA a a'
section
variable {S : List StD} {i n : Nat} {b : Int} {r a r' a' : List Int} {s : StD}
theorem best_none0 (S : List StD) : BestAt S 0 (-1) := .inl ⟨rfl, fun j s h => absurd h (by omega)⟩
theorem best_done (h : BestAt S i b) (hs : S[i]? = some s) (hd : s.2.2 = true) : BestAt S (i + 1) b := by
  rcases h with ⟨h1, h2⟩ | ⟨n, r, a, h1, h2, h3, h4⟩
  · refine .inl ⟨h1, fun j t hj ht => ?_⟩
    by_cases e : j = i
    · subst e
      rw [hs] at ht
      cases ht
      exact hd
    · exact h2 j t (by omega) ht
  · refine .inr ⟨n, r, a, h1, by omega, h3, fun j r' a' hj ht => ?_⟩
    by_cases e : j = i
    · subst e
      rw [hs] at ht
      cases ht
      simp at hd
    · exact h4 j r' a' (by omega) ht
theorem best_first (h : BestAt S i (-1)) (hs : S[i]? = some (r, a, false)) : BestAt S (i + 1) (i : Int) := by
  rcases h with ⟨h1, h2⟩ | ⟨n, r, a, h1, -⟩
  · refine .inr ⟨i, r, a, rfl, by omega, hs, fun j r' a' hj ht => ?_⟩
    by_cases e : j = i
    · subst e
      rw [hs] at ht
      cases ht
      exact leA_refl a
    · have := h2 j _ (by omega) ht
      simp at this
  · omega
theorem best_some (h : BestAt S i (n : Int)) : ∃ r a, n < i ∧ S[n]? = some (r, a, false) := by
  rcases h with ⟨h1, h2⟩ | ⟨m, r, a, h1, h2, h3, -⟩
  · omega
  · obtain rfl : n = m := by omega
    exact ⟨r, a, h2, h3⟩
theorem best_cases (h : BestAt S i b) : b = -1 ∨ ∃ (n : Nat) (r a : List Int), b = (n : Int) ∧ n < i ∧ S[n]? = some (r, a, false) := by
  rcases h with ⟨h1, h2⟩ | ⟨m, r, a, h1, h2, h3, -⟩
  · exact .inl h1
  · exact .inr ⟨m, r, a, h1, h2, h3⟩
theorem best_other (h : BestAt S i (n : Int)) (hn : S[n]? = some (r, a, false)) (hs : S[i]? = some (r', a', false)) (hl : ltA a' a = true) : BestAt S (i + 1) (i : Int) := by
  rcases h with ⟨h1, h2⟩ | ⟨m, r2, a2, h1, h2, h3, h4⟩
  · omega
  · obtain rfl : n = m := by omega
    rw [hn] at h3
    cases h3
    refine .inr ⟨i, r', a', rfl, by omega, hs, fun j r3 a3 hj ht => ?_⟩
    by_cases e : j = i
    · subst e
      rw [hs] at ht
      cases ht
      exact leA_refl _
    · exact leA_trans (ltA_true hl) (h4 j r3 a3 (by omega) ht)
theorem best_same (h : BestAt S i (n : Int)) (hn : S[n]? = some (r, a, false)) (hs : S[i]? = some (r', a', false)) (hl : ltA a' a = false) : BestAt S (i + 1) (n : Int) := by
  rcases h with ⟨h1, h2⟩ | ⟨m, r2, a2, h1, h2, h3, h4⟩
  · omega
  · obtain rfl : n = m := by omega
    rw [hn] at h3
    cases h3
    refine .inr ⟨n, r, a, rfl, by omega, hn, fun j r3 a3 hj ht => ?_⟩
    by_cases e : j = i
    · subst e
      rw [hs] at ht
      cases ht
      exact ltA_false hl
    · exact h4 j r3 a3 (by omega) ht
theorem best_none (h : BestAt S S.length (-1)) : ∀ r a, ¬ OS S r a := fun r a ho => by
  rcases h with ⟨h1, h2⟩ | ⟨n, r, a, h1, -⟩
  · obtain ⟨j, hj⟩ := List.mem_iff_getElem?.1 ho
    have := h2 j _ (List.getElem?_eq_some_iff.1 hj).1 hj
    simp at this
  · omega
theorem best_min (h : BestAt S S.length (n : Int)) (hn : S[n]? = some (r, a, false)) : ∀ r' a', OS S r' a' → leA a a' := fun r' a' ho => by
  rcases h with ⟨h1, h2⟩ | ⟨m, r2, a2, h1, h2, h3, h4⟩
  · omega
  · obtain rfl : n = m := by omega
    rw [hn] at h3
    cases h3
    obtain ⟨j, hj⟩ := List.mem_iff_getElem?.1 ho
    exact h4 j _ _ (List.getElem?_eq_some_iff.1 hj).1 hj
end
/-- Steps by the first k entries. -/
def StepQ (l : List EntD) (k : Nat) (r a r' a' : List Int) : Prop := ∃ (j : Nat) (c : EntD), j < k ∧ l[j]? = some c ∧ stepO c.1 r a = some (r', a')
section
variable {l : List EntD} {k : Nat} {r a r' a' r2 a2 : List Int} {c : EntD}
theorem stepQ_zero : ¬ StepQ l 0 r a r' a' := by
  rintro ⟨j, c, h, -⟩
  omega
theorem stepQ_next (hk : l[k]? = some c) (hs : stepO c.1 r a = some (r2, a2)) (h : StepQ l (k + 1) r a r' a') : StepQ l k r a r' a' ∨ (r' = r2 ∧ a' = a2) := by
  obtain ⟨j, d, h1, h2, h3⟩ := h
  by_cases e : j = k
  · subst e
    rw [hk] at h2
    cases h2
    rw [hs] at h3
    cases h3
    exact .inr ⟨rfl, rfl⟩
  · exact .inl ⟨j, d, by omega, h2, h3⟩
theorem stepQ_miss (hk : l[k]? = some c) (hs : stepO c.1 r a = none) (h : StepQ l (k + 1) r a r' a') : StepQ l k r a r' a' := by
  obtain ⟨j, d, h1, h2, h3⟩ := h
  by_cases e : j = k
  · subst e
    rw [hk] at h2
    cases h2
    rw [hs] at h3
    cases h3
  · exact ⟨j, d, by omega, h2, h3⟩
theorem stepQ_due {D D' : List Int → List Int → Prop} (hD : ∀ r0 a0, D' r0 a0 → D r0 a0 ∨ (r0 = r ∧ a0 = a)) (h : Due (outsD l) D' r' a') : Due (outsD l) D r' a' ∨ StepQ l l.length r a r' a' := by
  rcases h with h | ⟨r0, a0, h1, o, ho, h2⟩
  · exact .inl (.inl h)
  · rcases hD _ _ h1 with h3 | ⟨rfl, rfl⟩
    · exact .inl (.inr ⟨r0, a0, h3, o, ho, h2⟩)
    · obtain ⟨k, c, hk, rfl⟩ := outs_at ho
      exact .inr ⟨k, c, (List.getElem?_eq_some_iff.1 hk).1, hk, h2⟩
end
end Go.Proofs.YtekidodfcanjaaaGreatDoor
namespace Go.Proofs.YtekidodfcanjaaaGreatDoor
set_option linter.unusedVariables false

open Classical in
/-- The least list of strokes with two readings, or the empty list (a search finds it: ambD_eq). -/
noncomputable def ambD (l : List EntD) : List Int := if h : ∃ out, AmbRes (outsD l) out ∧ out.length ≤ 2000 then Classical.choose h else []
theorem ambD_eq {l : List EntD} {out : List Int} (h : AmbRes (outsD l) out) (hl : out.length ≤ 2000) : ambD l = out := by
  unfold ambD
  rw [dif_pos ⟨out, h, hl⟩]
  exact amb_same (Classical.choose_spec (⟨out, h, hl⟩ : ∃ out, AmbRes (outsD l) out ∧ out.length ≤ 2000)).1 h
theorem ambD_len (l : List EntD) : (ambD l).length ≤ 2000 := by
  unfold ambD
  split
  · rename_i h
    exact (Classical.choose_spec h).2
  · simp
noncomputable def ambV (l : List EntD) : List Int := if dictB l then ambD l else []
noncomputable def ambVB (l : List EntD) : Bool := decide (0 < (ambV l).length)
noncomputable def uniqB (l : List EntD) : Bool := dictB l && decide ((ambD l).length = 0)
theorem ambV_yes {l : List EntD} (h : dictB l = true) : ambV l = ambD l := by rw [ambV, if_pos h]
theorem ambV_no {l : List EntD} (h : dictB l = false) : ambV l = [] := by rw [ambV, if_neg (by simp [h])]
theorem ambV_len (l : List EntD) : (ambV l).length ≤ 1048576 := by
  unfold ambV
  split
  · have := ambD_len l; omega
  · simp
/-- Something is found exactly if it has a stroke. -/
theorem amb_some {E : List (List Int)} {out : List Int} (h : AmbRes E out) : (0 < out.length ↔ IsMin E out) ∧ (out = [] ↔ ∀ s, ¬ Reach E [] s) := by
  rcases h with ⟨rfl, h⟩ | h
  · exact ⟨⟨fun h0 => absurd h0 (by simp), fun h1 => absurd h1.1 (h _)⟩, ⟨fun _ => h, fun _ => rfl⟩⟩
  · have hne := reach_some h.1
    refine ⟨⟨fun _ => h, fun _ => List.length_pos_iff.2 hne⟩, ⟨fun e => absurd e hne, fun h1 => absurd h.1 (h1 _)⟩⟩
end Go.Proofs.YtekidodfcanjaaaGreatDoor
