/-
  Notations of atoms and of translations, as plain lists of bytes. No program is named here.
-/
import Derived.Test.YtkclolejoijelaaDoorPartsPl
import Derived.Lib.SlTrimSet
namespace Go.Proofs.YtkclolejoijelaaDoor
set_option linter.unusedVariables false

/-- The signs that no word text bears. -/
def signs : List UInt8 := [123, 125, 94, 38, 35, 62]
def wordC (c : UInt8) : Bool := decide (33 ≤ c.toNat) && decide (c.toNat ≤ 126) && !(signs.contains c)
def wordL (l : List UInt8) : Bool := (decide (1 ≤ l.length) && decide (l.length ≤ 20)) && l.all wordC
theorem wordC_ne {c d : UInt8} (h : wordC c = true) (hd : signs.contains d = true) : c ≠ d := by
  intro e
  subst e
  simp [wordC] at h
  have : signs.contains c = false := by simpa using h.2
  rw [this] at hd
  cases hd
/-- Whether an atom is valid. -/
def atomOk (k : Int) (l : List UInt8) : Bool :=
  if 1 ≤ k ∧ k ≤ 5 then wordL l
  else if k = 6 then decide (l = [46] ∨ l = [33] ∨ l = [63])
  else if k = 7 then decide (l = [44] ∨ l = [59] ∨ l = [58])
  else decide (8 ≤ k ∧ k ≤ 10) && decide (l = [])
theorem atomOk_range {k : Int} {l : List UInt8} (h : atomOk k l = true) : 1 ≤ k ∧ k ≤ 10 := by
  unfold atomOk at h
  split at h
  · omega
  split at h
  · omega
  split at h
  · omega
  · simp at h; omega
/-- An atom's notation. -/
def noteL (k : Int) (l : List UInt8) : List UInt8 :=
  if k = 1 then l
  else if k = 2 then [123, 94] ++ l ++ [125]
  else if k = 3 then [123] ++ l ++ [94, 125]
  else if k = 4 then [123, 94] ++ l ++ [94, 125]
  else if k = 5 then [123, 38] ++ l ++ [125]
  else if k = 8 then [123, 45, 124, 125]
  else if k = 9 then [123, 62, 125]
  else if k = 10 then [123, 42, 45, 124, 125]
  else [123] ++ l ++ [125]
/-- What stands between the braces. -/
def innerL (k : Int) (l : List UInt8) : List UInt8 :=
  if k = 2 then 94 :: l
  else if k = 3 then l ++ [94]
  else if k = 4 then 94 :: (l ++ [94])
  else if k = 5 then 38 :: l
  else if k = 8 then [45, 124]
  else if k = 9 then [62]
  else if k = 10 then [42, 45, 124]
  else l
theorem note_inner {k : Int} {l : List UInt8} (hk : k ≠ 1) : noteL k l = 123 :: (innerL k l ++ [125]) := by
  unfold noteL innerL
  rw [if_neg hk]
  repeat' split
  all_goals first | rfl | simp
/-- The atom whose notation stands between braces. -/
def kindI (i : List UInt8) : Int × List UInt8 :=
  if i = [45, 124] then (8, [])
  else if i = [62] then (9, [])
  else if i = [42, 45, 124] then (10, [])
  else if i = [46] ∨ i = [33] ∨ i = [63] then (6, i)
  else if i = [44] ∨ i = [59] ∨ i = [58] then (7, i)
  else if i.head? = some 38 then (5, i.tail)
  else if i.head? = some 94 ∧ i.getLast? = some 94 ∧ 2 < i.length then (4, i.tail.dropLast)
  else if i.head? = some 94 then (2, i.tail)
  else if i.getLast? = some 94 then (3, i.dropLast)
  else (0, [])
theorem wordL_head {l : List UInt8} (h : wordL l = true) : ∃ c t, l = c :: t ∧ wordC c = true := by
  cases l with
  | nil => simp [wordL] at h
  | cons c t =>
    simp [wordL] at h
    exact ⟨c, t, rfl, h.2.1⟩
theorem wordL_last {l : List UInt8} (h : wordL l = true) : ∃ t c, l = t ++ [c] ∧ wordC c = true := by
  have hne : l ≠ [] := by
    intro e
    subst e
    simp [wordL] at h
  refine ⟨l.dropLast, l.getLast hne, (List.dropLast_concat_getLast hne).symm, ?_⟩
  simp only [wordL, Bool.and_eq_true, List.all_eq_true] at h
  exact h.2 _ (List.getLast_mem hne)
theorem head_ne {i l : List UInt8} {c d : UInt8} (h : i.head? = some c) (hl : l.head? = some d) (hcd : c ≠ d) : i ≠ l := by
  intro e
  subst e
  rw [h] at hl
  exact hcd (Option.some.inj hl)
theorem last_ne {i l : List UInt8} {c d : UInt8} (h : i.getLast? = some c) (hl : l.getLast? = some d) (hcd : c ≠ d) : i ≠ l := by
  intro e
  subst e
  rw [h] at hl
  exact hcd (Option.some.inj hl)
theorem kindI_amp {l : List UInt8} : kindI (38 :: l) = (5, l) := by simp [kindI]
theorem kindI_hat {l : List UInt8} (h : l.getLast? ≠ some 94) (hl : l ≠ []) : kindI (94 :: l) = (2, l) := by
  have h2 : (94 :: l).getLast? ≠ some 94 := by rw [List.getLast?_cons_of_ne_nil hl]; exact h
  simp only [kindI, List.head?_cons, List.tail_cons]
  rw [if_neg (by simp), if_neg (by simp), if_neg (by simp), if_neg (by simp), if_neg (by simp), if_neg (by simp), if_neg (fun h3 => h2 h3.2.1), if_pos trivial]
theorem kindI_both {l : List UInt8} (hl : l ≠ []) : kindI (94 :: (l ++ [94])) = (4, l) := by
  have h3 : 0 < l.length := List.length_pos_iff.2 hl
  have h4 : (94 :: (l ++ [94])).getLast? = some (94 : UInt8) := by
    rw [← List.cons_append, List.getLast?_concat]
  simp only [kindI, h4, List.head?_cons, List.tail_cons]
  rw [if_neg (by simp), if_neg (by simp), if_neg (by simp), if_neg (by simp), if_neg (by simp), if_neg (by simp), if_pos ⟨trivial, trivial, by simp; omega⟩, List.dropLast_concat]
theorem kindI_end {l : List UInt8} {c : UInt8} {t : List UInt8} (hl : l = c :: t) (h1 : c ≠ 38) (h2 : c ≠ 94) : kindI (l ++ [94]) = (3, l) := by
  have h4 : (l ++ [94]).getLast? = some (94 : UInt8) := List.getLast?_concat ..
  have h5 : (l ++ [94]).head? = some c := by rw [hl]; rfl
  simp only [kindI, h4, h5]
  rw [if_neg (last_ne h4 (d := 124) rfl (by decide)), if_neg (last_ne h4 (d := 62) rfl (by decide)), if_neg (last_ne h4 (d := 124) rfl (by decide)),
    if_neg (fun h => by rcases h with h | h | h <;> exact last_ne h4 (d := _) rfl (by decide) h), if_neg (fun h => by rcases h with h | h | h <;> exact last_ne h4 (d := _) rfl (by decide) h),
    if_neg (by simpa using h1), if_neg (by simp [h2]), if_neg (by simpa using h2), if_pos trivial, List.dropLast_concat]
/-- The atom is found again. -/
theorem kindI_inner {k : Int} {l : List UInt8} (h : atomOk k l = true) (hk : k ≠ 1) : kindI (innerL k l) = (k, l) := by
  obtain ⟨r1, r2⟩ := atomOk_range h
  have hw : 1 ≤ k ∧ k ≤ 5 → wordL l = true := fun hr => by rw [atomOk, if_pos hr] at h; exact h
  have hs : 8 ≤ k → l = [] := fun hr => by
    rw [atomOk, if_neg (by omega), if_neg (by omega), if_neg (by omega)] at h
    simp at h
    exact h.2
  rcases (show k = 2 ∨ k = 3 ∨ k = 4 ∨ k = 5 ∨ k = 6 ∨ k = 7 ∨ k = 8 ∨ k = 9 ∨ k = 10 by omega) with rfl | rfl | rfl | rfl | rfl | rfl | rfl | rfl | rfl
  · obtain ⟨t, c, rfl, hc⟩ := wordL_last (hw (by omega))
    exact kindI_hat (by rw [List.getLast?_concat]; intro e; exact wordC_ne hc (d := 94) (by decide) (Option.some.inj e)) (by simp)
  · obtain ⟨c, t, hl, hc⟩ := wordL_head (hw (by omega))
    exact kindI_end hl (wordC_ne hc (by decide)) (wordC_ne hc (by decide))
  · obtain ⟨c, t, rfl, hc⟩ := wordL_head (hw (by omega))
    exact kindI_both (by simp)
  · exact kindI_amp
  · have h6 : l = [46] ∨ l = [33] ∨ l = [63] := by simpa [atomOk] using h
    rcases h6 with rfl | rfl | rfl <;> decide
  · have h7 : l = [44] ∨ l = [59] ∨ l = [58] := by simpa [atomOk] using h
    rcases h7 with rfl | rfl | rfl <;> decide
  · rw [hs (by omega)]; decide
  · rw [hs (by omega)]; decide
  · rw [hs (by omega)]; decide

/-- The atom of a notation, unchecked. -/
def kindL (s : List UInt8) : Int × List UInt8 :=
  if s.length < 3 ∨ s.head? ≠ some 123 ∨ s.getLast? ≠ some 125 then (1, s) else kindI s.tail.dropLast
theorem word_brace {l : List UInt8} (h : wordL l = true) : l.head? ≠ some 123 := by
  obtain ⟨c, t, rfl, hc⟩ := wordL_head h
  intro e
  exact wordC_ne hc (d := 123) (by decide) (Option.some.inj e)
theorem inner_len {k : Int} {l : List UInt8} (h : atomOk k l = true) (hk : k ≠ 1) : 1 ≤ (innerL k l).length := by
  obtain ⟨r1, r2⟩ := atomOk_range h
  unfold innerL
  repeat' split
  all_goals try simp
  have h67 : k = 6 ∨ k = 7 := by omega
  rcases h67 with rfl | rfl
  · have h6 : l = [46] ∨ l = [33] ∨ l = [63] := by simpa [atomOk] using h
    rcases h6 with rfl | rfl | rfl <;> decide
  · have h7 : l = [44] ∨ l = [59] ∨ l = [58] := by simpa [atomOk] using h
    rcases h7 with rfl | rfl | rfl <;> decide
theorem kindL_note {k : Int} {l : List UInt8} (h : atomOk k l = true) : kindL (noteL k l) = (k, l) := by
  by_cases hk : k = 1
  · subst hk
    have hw : wordL l = true := by rwa [atomOk, if_pos (by omega)] at h
    have hn : noteL 1 l = l := if_pos rfl
    rw [hn, kindL, if_pos (.inr (.inl (word_brace hw)))]
  · rw [note_inner hk, kindL, if_neg, List.tail_cons, List.dropLast_concat, kindI_inner h hk]
    have := inner_len h hk
    rintro (h1 | h1 | h1)
    · simp at h1; omega
    · exact h1 rfl
    · rw [← List.cons_append, List.getLast?_concat] at h1; exact h1 rfl

/-- A notation of a valid atom. -/
def Noted (s : List UInt8) : Prop := ∃ k l, atomOk k l = true ∧ noteL k l = s
/-- The cutset. -/
def cutset4 : List UInt8 := [123, 125, 94, 38]
/-- What the program tries. -/
def tryB (s : List UInt8) (k : Int) (l : List UInt8) : Bool := atomOk k l && decide (noteL k l = s)
def atomL (s : List UInt8) : Bool := (List.range 10).any fun i => tryB s ((i : Int) + 1) (Lib.trimS s cutset4) || tryB s ((i : Int) + 1) []

theorem trim_clean {l m r : List UInt8} (hl : ∀ c ∈ l, cutset4.contains c = true) (hr : ∀ c ∈ r, cutset4.contains c = true) (hm : ∀ c ∈ m, cutset4.contains c = false) : Lib.trimS (l ++ m ++ r) cutset4 = m := by
  have hd : ∀ (p q : List UInt8), (∀ c ∈ p, cutset4.contains c = true) → (∀ c ∈ q, cutset4.contains c = false) → (p ++ q).dropWhile (cutset4.contains ·) = q := by
    intro p q hp hq
    induction p with
    | nil =>
      cases q with
      | nil => rfl
      | cons c q => rw [List.nil_append, List.dropWhile_cons, if_neg (by rw [hq c (by simp)]; simp)]
    | cons c p ih =>
      rw [List.cons_append, List.dropWhile_cons, if_pos (hp c (by simp))]
      exact ih (fun d hd => hp d (by simp [hd]))
  by_cases hm0 : m = []
  · subst hm0
    have h1 : Lib.trimRightS (l ++ [] ++ r) cutset4 = [] := by
      unfold Lib.trimRightS
      have h := hd (l ++ [] ++ r).reverse [] (fun c hc => by
        simp at hc
        rcases hc with hc | hc
        · exact hr c hc
        · exact hl c hc) (by simp)
      rw [List.append_nil] at h
      rw [h]
      rfl
    unfold Lib.trimS
    rw [h1]
    rfl
  · have h1 : Lib.trimRightS (l ++ m ++ r) cutset4 = l ++ m := by
      unfold Lib.trimRightS
      rw [List.reverse_append, List.reverse_append]
      have hme : m.reverse ≠ [] := by simpa using hm0
      obtain ⟨c, t, hct⟩ := List.exists_cons_of_ne_nil hme
      have hc : cutset4.contains c = false := hm c (by rw [← List.mem_reverse, hct]; simp)
      have e : ∀ (p : List UInt8), (∀ d ∈ p, cutset4.contains d = true) → (p ++ (m.reverse ++ l.reverse)).dropWhile (cutset4.contains ·) = m.reverse ++ l.reverse := by
        intro p hp
        induction p with
        | nil => rw [List.nil_append, hct, List.cons_append, List.dropWhile_cons, if_neg (by rw [hc]; simp)]
        | cons d p ih =>
          rw [List.cons_append, List.dropWhile_cons, if_pos (hp d (by simp))]
          exact ih (fun x hx => hp x (by simp [hx]))
      rw [e r.reverse (fun d hd => hr d (by simpa using hd))]
      simp
    unfold Lib.trimS
    rw [h1]
    exact hd l m hl hm
theorem word_clean {l : List UInt8} (h : wordL l = true) : ∀ c ∈ l, cutset4.contains c = false := by
  intro c hc
  simp only [wordL, Bool.and_eq_true, List.all_eq_true] at h
  have hw := h.2 c hc
  cases hk : cutset4.contains c with
  | false => rfl
  | true =>
    have : signs.contains c = true := by
      simp [cutset4] at hk
      rcases hk with rfl | rfl | rfl | rfl <;> decide
    exact absurd rfl (wordC_ne hw this)
theorem trim_note {k : Int} {l : List UInt8} (h : atomOk k l = true) : Lib.trimS (noteL k l) cutset4 = l ∨ l = [] := by
  obtain ⟨r1, r2⟩ := atomOk_range h
  have hw : 1 ≤ k ∧ k ≤ 5 → ∀ c ∈ l, cutset4.contains c = false := fun hr => word_clean (by rw [atomOk, if_pos hr] at h; exact h)
  have hs : 8 ≤ k → l = [] := fun hr => by
    rw [atomOk, if_neg (by omega), if_neg (by omega), if_neg (by omega)] at h
    simp at h
    exact h.2
  rcases (show k = 1 ∨ k = 2 ∨ k = 3 ∨ k = 4 ∨ k = 5 ∨ k = 6 ∨ k = 7 ∨ 8 ≤ k by omega) with rfl | rfl | rfl | rfl | rfl | rfl | rfl | h8
  · left
    have := trim_clean (l := []) (m := l) (r := []) (by simp) (by simp) (hw (by omega))
    rw [List.nil_append, List.append_nil] at this
    exact this
  · exact .inl (trim_clean (l := [123, 94]) (m := l) (r := [125]) (by decide) (by decide) (hw (by omega)))
  · exact .inl (trim_clean (l := [123]) (m := l) (r := [94, 125]) (by decide) (by decide) (hw (by omega)))
  · exact .inl (trim_clean (l := [123, 94]) (m := l) (r := [94, 125]) (by decide) (by decide) (hw (by omega)))
  · exact .inl (trim_clean (l := [123, 38]) (m := l) (r := [125]) (by decide) (by decide) (hw (by omega)))
  · have h6 : l = [46] ∨ l = [33] ∨ l = [63] := by simpa [atomOk] using h
    left
    rcases h6 with rfl | rfl | rfl <;> decide
  · have h7 : l = [44] ∨ l = [59] ∨ l = [58] := by simpa [atomOk] using h
    left
    rcases h7 with rfl | rfl | rfl <;> decide
  · exact .inr (hs h8)
theorem tryB_noted {s : List UInt8} {k : Int} {l : List UInt8} (h : tryB s k l = true) : Noted s := by
  simp only [tryB, Bool.and_eq_true, decide_eq_true_eq] at h
  exact ⟨k, l, h.1, h.2⟩
theorem atomL_iff (s : List UInt8) : atomL s = true ↔ Noted s := by
  constructor
  · intro h
    obtain ⟨i, -, hi⟩ := List.any_eq_true.1 h
    simp only [Bool.or_eq_true] at hi
    rcases hi with hi | hi
    · exact tryB_noted hi
    · exact tryB_noted hi
  · rintro ⟨k, l, h, rfl⟩
    obtain ⟨r1, r2⟩ := atomOk_range h
    refine List.any_eq_true.2 ⟨(k - 1).toNat, by simp; omega, ?_⟩
    rw [show (((k - 1).toNat : Nat) : Int) + 1 = k by omega]
    simp only [Bool.or_eq_true, tryB, Bool.and_eq_true, decide_eq_true_eq]
    rcases trim_note h with h1 | h1
    · left; rw [h1]; exact ⟨h, rfl⟩
    · subst h1; exact .inr ⟨h, rfl⟩
/-- What the reference tries. -/
theorem atomL_kind {s : List UInt8} {k : Int} {l : List UInt8} (hk : Noted s → kindL s = (k, l)) : tryB s k l = atomL s := by
  cases h : atomL s with
  | true =>
    obtain ⟨k0, l0, h1, h2⟩ := (atomL_iff s).1 h
    have h3 := hk ⟨k0, l0, h1, h2⟩
    rw [← h2, kindL_note h1] at h3
    injection h3 with h4 h5
    subst h4 h5
    simp [tryB, h1, h2]
  | false =>
    cases h2 : tryB s k l with
    | false => rfl
    | true =>
      rw [(atomL_iff s).2 (tryB_noted h2)] at h
      cases h
end Go.Proofs.YtkclolejoijelaaDoor
