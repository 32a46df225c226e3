/-
  Outlines, translations, entries and dictionaries as plain values; how a dictionary lies in memory. No statement is named here.
-/
import Derived.Test.YtekidodfcanjaaaGreatDoorBase
import Derived.Test.YtekidodfcanjaaaGreatDoorStrokes
namespace Go.Proofs.YtekidodfcanjaaaGreatDoor
open Go.RowKit
set_option linter.unusedVariables false

/-! ### Comparing outlines -/
def cmpL : List Int → List Int → Int
  | [], [] => 0
  | [], _ :: _ => -1
  | _ :: _, [] => 1
  | a :: ar, b :: bs => if a < b then -1 else if b < a then 1 else cmpL ar bs
theorem cmpL_nil (xs : List Int) (h : 0 < xs.length) : cmpL [] xs = -1 := by
  cases xs with
  | nil => simp at h
  | cons a ar => rfl
theorem cmpL_nil' (xs : List Int) (h : 0 < xs.length) : cmpL xs [] = 1 := by
  cases xs with
  | nil => simp at h
  | cons a ar => rfl
theorem drop_at {xs : List Int} {k : Nat} {x : Int} (h : xs[k]? = some x) : xs.drop k = x :: xs.drop (k + 1) := by
  obtain ⟨hk, rfl⟩ := List.getElem?_eq_some_iff.1 h
  exact List.drop_eq_getElem_cons hk
theorem cmp_lt {xs ys : List Int} {k : Nat} {x y : Int} (hx : xs[k]? = some x) (hy : ys[k]? = some y) (h : x < y) : cmpL (xs.drop k) (ys.drop k) = -1 := by
  rw [drop_at hx, drop_at hy, cmpL, if_pos h]
theorem cmp_gt {xs ys : List Int} {k : Nat} {x y : Int} (hx : xs[k]? = some x) (hy : ys[k]? = some y) (h : y < x) : cmpL (xs.drop k) (ys.drop k) = 1 := by
  rw [drop_at hx, drop_at hy, cmpL, if_neg (by omega), if_pos h]
theorem cmp_eq {xs ys : List Int} {k : Nat} {x y : Int} (hx : xs[k]? = some x) (hy : ys[k]? = some y) (h : x = y) : cmpL (xs.drop k) (ys.drop k) = cmpL (xs.drop (k + 1)) (ys.drop (k + 1)) := by
  rw [drop_at hx, drop_at hy, cmpL, if_neg (by omega), if_neg (by omega)]
theorem cmp_end {xs ys : List Int} {k : Nat} (hx : xs.length = k) (hy : ys.length = k) : cmpL (xs.drop k) (ys.drop k) = 0 := by
  rw [List.drop_eq_nil_of_le (by omega), List.drop_eq_nil_of_le (by omega)]; rfl
theorem cmp_short {xs ys : List Int} {k : Nat} (hx : xs.length = k) (hy : k < ys.length) : cmpL (xs.drop k) (ys.drop k) = -1 := by
  rw [show xs.drop k = [] from List.drop_eq_nil_of_le (by omega)]; exact cmpL_nil _ (by simp; omega)
theorem cmp_long {xs ys : List Int} {k : Nat} (hx : k < xs.length) (hy : ys.length = k) : cmpL (xs.drop k) (ys.drop k) = 1 := by
  rw [show ys.drop k = [] from List.drop_eq_nil_of_le (by omega)]; exact cmpL_nil' _ (by simp; omega)
theorem cmpL_three (xs ys : List Int) : cmpL xs ys = -1 ∨ cmpL xs ys = 0 ∨ cmpL xs ys = 1 := by
  induction xs generalizing ys with
  | nil => cases ys <;> simp [cmpL]
  | cons a ar ih =>
    cases ys with
    | nil => simp [cmpL]
    | cons b bs =>
      unfold cmpL
      split
      · exact .inl rfl
      split
      · exact .inr (.inr rfl)
      · exact ih bs
theorem cmpL_eq {xs ys : List Int} : cmpL xs ys = 0 ↔ xs = ys := by
  induction xs generalizing ys with
  | nil => cases ys <;> simp [cmpL]
  | cons a ar ih =>
    cases ys with
    | nil => simp [cmpL]
    | cons b bs =>
      unfold cmpL
      split
      · simp; intro h; omega
      split
      · simp; intro h; omega
      · rw [ih]
        have : a = b := by omega
        simp [this]
theorem cmpL_trans {xs ys zs : List Int} (h1 : cmpL xs ys < 0) (h2 : cmpL ys zs < 0) : cmpL xs zs < 0 := by
  induction xs generalizing ys zs with
  | nil =>
    cases zs with
    | nil => cases ys <;> simp [cmpL] at h2
    | cons c cr => simp [cmpL]
  | cons a ar ih =>
    cases ys with
    | nil => simp [cmpL] at h1
    | cons b bs =>
      cases zs with
      | nil => simp [cmpL] at h2
      | cons c cr =>
        unfold cmpL at h1 h2 ⊢
        split at h1
        · split at h2
          · rw [if_pos (by omega)]; omega
          · split at h2
            · omega
            · rw [if_pos (by omega)]; omega
        · split at h1
          · omega
          · split at h2
            · rw [if_pos (by omega)]; omega
            · split at h2
              · omega
              · rw [if_neg (by omega), if_neg (by omega)]
                exact ih h1 h2

/-! ### Validity -/
def outB (o : List Int) : Bool := inB o.length 1 6 && goodB o
theorem out_len {o : List Int} (h : outB o = true) : 1 ≤ o.length ∧ o.length ≤ 6 := by
  simp only [outB, Bool.and_eq_true] at h
  have := inB_iff.1 h.1
  omega
theorem out_good {o : List Int} (h : outB o = true) : goodB o = true := by
  simp only [outB, Bool.and_eq_true] at h
  exact h.2
def atomB (s : ByteArray) : Bool := atomL s.data.toList
def tranB (s : ByteArray) : Bool := decide (s.size ≤ 60) && (decide ((partsV 32 s).length ≤ 10) && (partsV 32 s).all atomB)
theorem tran_some {s : ByteArray} (h : tranB s = true) : 0 < s.size := by
  rcases Nat.eq_zero_or_pos s.size with h0 | h0
  · have he : s = ⟨#[]⟩ := ByteArray.ext (Array.eq_empty_of_size_eq_zero h0)
    subst he
    have : tranB ⟨#[]⟩ = false := by decide +kernel
    rw [this] at h
    cases h
  · exact h0
theorem tran_len {s : ByteArray} (h : tranB s = true) : s.size ≤ 60 := by
  simp only [tranB, Bool.and_eq_true, decide_eq_true_eq] at h
  exact h.1
theorem tran_no {s : ByteArray} {k : Nat} {x : ByteArray} (h : (partsV 32 s)[k]? = some x) (hx : atomB x = false) : tranB s = false := by
  cases ht : tranB s with
  | false => rfl
  | true =>
    simp only [tranB, Bool.and_eq_true, List.all_eq_true] at ht
    rw [ht.2.2 x (List.mem_of_getElem? h)] at hx
    cases hx
theorem tran_yes {s : ByteArray} (h60 : s.size ≤ 60) (h : ∀ (j : Nat) x, (partsV 32 s)[j]? = some x → atomB x = true) : tranB s = decide ((partsV 32 s).length ≤ 10) := by
  have ha : (partsV 32 s).all atomB = true := by
    rw [List.all_eq_true]
    intro x hx
    obtain ⟨j, hj⟩ := List.mem_iff_getElem?.1 hx
    exact h j x hj
  simp [tranB, ha, h60]

abbrev EntD := List Int × ByteArray
def entB (c : EntD) : Bool := outB c.1 && tranB c.2
def ordB (l : List EntD) (k : Nat) : Bool := match l[k]?, l[k + 1]? with | some a, some b => decide (cmpL a.1 b.1 < 0) | _, _ => true
def risingB (l : List EntD) : Bool := (List.range l.length).all (ordB l)
def dictB (l : List EntD) : Bool := decide (l.length ≤ 40) && (l.all entB && risingB l)
theorem rising_at {l : List EntD} {k : Nat} {a b : EntD} (h : risingB l = true) (ha : l[k]? = some a) (hb : l[k + 1]? = some b) : cmpL a.1 b.1 < 0 := by
  have := List.all_eq_true.1 h k (by simp; have := (List.getElem?_eq_some_iff.1 ha).1; omega)
  simpa [ordB, ha, hb] using this
theorem dict_no_ent {l : List EntD} {k : Nat} {c : EntD} (h : l[k]? = some c) (hc : entB c = false) : dictB l = false := by
  cases hd : dictB l with
  | false => rfl
  | true =>
    simp only [dictB, Bool.and_eq_true, List.all_eq_true] at hd
    rw [hd.2.1 c (List.mem_of_getElem? h)] at hc
    cases hc
theorem dict_no_ord {l : List EntD} {k : Nat} {a b : EntD} (ha : l[k]? = some a) (hb : l[k + 1]? = some b) (h : ¬ cmpL a.1 b.1 < 0) : dictB l = false := by
  cases hd : dictB l with
  | false => rfl
  | true =>
    simp only [dictB, Bool.and_eq_true] at hd
    exact absurd (rising_at hd.2.2 ha hb) h
theorem dict_no_len {l : List EntD} (h : ¬ l.length ≤ 40) : dictB l = false := by simp [dictB, h]
theorem dict_yes {l : List EntD} (h40 : l.length ≤ 40) (h : ∀ (j : Nat) c, l[j]? = some c → entB c = true) (ho : ∀ (j : Nat) a b, l[j]? = some a → l[j + 1]? = some b → cmpL a.1 b.1 < 0) : dictB l = true := by
  have h1 : l.all entB = true := by
    rw [List.all_eq_true]
    intro c hc
    obtain ⟨j, hj⟩ := List.mem_iff_getElem?.1 hc
    exact h j c hj
  have h2 : risingB l = true := by
    unfold risingB
    rw [List.all_eq_true]
    intro k hk
    unfold ordB
    split
    · rename_i a b ha hb
      exact decide_eq_true (ho k a b ha hb)
    · rfl
  simp [dictB, h1, h2, h40]
theorem dict_len {l : List EntD} (h : dictB l = true) : l.length ≤ 40 := by
  simp only [dictB, Bool.and_eq_true, decide_eq_true_eq] at h
  exact h.1
theorem dict_ent {l : List EntD} (h : dictB l = true) {k : Nat} {c : EntD} (hc : l[k]? = some c) : entB c = true := by
  simp only [dictB, Bool.and_eq_true, List.all_eq_true] at h
  exact h.2.1 c (List.mem_of_getElem? hc)
theorem ent_parts {c : EntD} (h : entB c = true) : outB c.1 = true ∧ tranB c.2 = true := by
  simpa [entB] using h
theorem dict_out {l : List EntD} (h : dictB l = true) {k : Nat} {c : EntD} (hc : l[k]? = some c) : 1 ≤ c.1.length ∧ c.1.length ≤ 6 := out_len (ent_parts (dict_ent h hc)).1
theorem dict_text {l : List EntD} (h : dictB l = true) {k : Nat} {c : EntD} (hc : l[k]? = some c) : 0 < c.2.size ∧ c.2.size ≤ 60 := ⟨tran_some (ent_parts (dict_ent h hc)).2, tran_len (ent_parts (dict_ent h hc)).2⟩
theorem dict_lt {l : List EntD} (h : dictB l = true) {i j : Nat} {a b : EntD} (hij : i < j) (ha : l[i]? = some a) (hb : l[j]? = some b) : cmpL a.1 b.1 < 0 := by
  have hr : risingB l = true := by simp only [dictB, Bool.and_eq_true] at h; exact h.2.2
  induction j generalizing b with
  | zero => omega
  | succ j ih =>
    rcases Nat.lt_or_ge i j with h1 | h1
    · obtain ⟨c, hc⟩ := some_at l (show j < l.length by have := (List.getElem?_eq_some_iff.1 hb).1; omega)
      exact cmpL_trans (ih h1 hc) (rising_at hr hc hb)
    · obtain rfl : i = j := by omega
      exact rising_at hr ha hb
/-- No outline twice. -/
theorem dict_inj {l : List EntD} (h : dictB l = true) {i j : Nat} {a b : EntD} (ha : l[i]? = some a) (hb : l[j]? = some b) (he : a.1 = b.1) : i = j := by
  rcases Nat.lt_trichotomy i j with h1 | h1 | h1
  · have := dict_lt h h1 ha hb
    rw [cmpL_eq.2 he] at this
    omega
  · exact h1
  · have := dict_lt h h1 hb ha
    rw [cmpL_eq.2 he.symm] at this
    omega

/-! ### In memory -/
/-- The slice at A holds the entries l, all of it below block B. -/
def DictR (w : World) (B : Nat) (A : Option Addr) (l : List EntD) : Prop :=
  0 < l.length → ∃ b off, A = some ⟨b, off, none⟩ ∧ b < B ∧ ∀ (j : Nat) c, l[j]? = some c → ∃ (a : Option Addr) (cap : Nat),
    w.cell? ⟨b, off + j * 2, none⟩ = some (.slice a c.1.length cap) ∧ w.cell? ⟨b, off + j * 2 + 1, none⟩ = some (.string c.2) ∧ Reads w B 1 a c.1.length (ints c.1) ∧ c.1.length ≤ cap ∧ cap ≤ maxLen
section
variable {w w' : World} {B B' : Nat} {A : Option Addr} {l : List EntD}
theorem DictR.keep (h : DictR w B A l) (hk : ∀ p : Addr, p.block < B → w'.cell? p = w.cell? p) : DictR w' B A l := fun hn => by
  obtain ⟨b, off, e, hb, hc⟩ := h hn
  refine ⟨b, off, e, hb, fun j c hj => ?_⟩
  obtain ⟨a, cap, h1, h2, h3, h4, h5⟩ := hc j c hj
  exact ⟨a, cap, (hk _ hb).trans h1, (hk _ hb).trans h2, h3.keep hk, h4, h5⟩
theorem DictR.more (h : DictR w B A l) (hB : B ≤ B') : DictR w B' A l := fun hn => by
  obtain ⟨b, off, e, hb, hc⟩ := h hn
  refine ⟨b, off, e, by omega, fun j c hj => ?_⟩
  obtain ⟨a, cap, h1, h2, h3, h4, h5⟩ := hc j c hj
  exact ⟨a, cap, h1, h2, h3.more hB, h4, h5⟩
theorem DictR.below (h : DictR w B A l) (hb : Below B w w') : DictR w' B A l := h.keep fun _ hp => hb.cell hp
theorem DictR.far (h : DictR w w.heap.size A l) (hb : Below w.heap.size w w') : DictR w' w'.heap.size A l := (h.below hb).more hb.size
theorem DictR.drewN (h : DictR w B A l) (k : Nat) : DictR (w.drewN k) B A l := h
theorem DictR.alloc (h : DictR w B A l) (hB : B ≤ w.heap.size) (o : Obj) : DictR (w.alloc o) B A l := h.keep fun p hp => World.cell?_alloc_lt w o p (by omega)
end
end Go.Proofs.YtekidodfcanjaaaGreatDoor
namespace Go.Proofs.YtekidodfcanjaaaGreatDoor
set_option linter.unusedVariables false

/-! ### Shorter first, then by strokes -/
theorem cmpL_neg (a b : List Int) : cmpL b a = - cmpL a b := by
  induction a generalizing b with
  | nil => cases b <;> simp [cmpL]
  | cons x a ih =>
    cases b with
    | nil => simp [cmpL]
    | cons y b =>
      unfold cmpL
      by_cases h1 : x < y
      · rw [if_pos h1, if_neg (by omega), if_pos h1]; rfl
      · by_cases h2 : y < x
        · simp [h1, h2]
        · rw [if_neg h1, if_neg h2, if_neg h2, if_neg h1]; exact ih b
theorem cmpL_append {a b : List Int} (h : a.length = b.length) (x : List Int) : cmpL (a ++ x) (b ++ x) = cmpL a b := by
  induction a generalizing b with
  | nil =>
    obtain rfl : b = [] := List.eq_nil_of_length_eq_zero (by simpa using h.symm)
    simp only [List.nil_append]
    rw [cmpL_eq.2 rfl, cmpL_eq.2 rfl]
  | cons y a ih =>
    cases b with
    | nil => simp at h
    | cons z b =>
      simp only [List.cons_append, cmpL]
      rw [ih (by simpa using h)]
def leA (a b : List Int) : Prop := a.length < b.length ∨ (a.length = b.length ∧ cmpL a b ≤ 0)
def ltA (a b : List Int) : Bool := if a.length = b.length then decide (cmpL a b < 0) else decide (a.length < b.length)
theorem ltA_true {a b : List Int} (h : ltA a b = true) : leA a b := by
  unfold ltA at h
  split at h
  · rename_i he
    exact .inr ⟨he, by have := of_decide_eq_true h; omega⟩
  · exact .inl (of_decide_eq_true h)
theorem ltA_false {a b : List Int} (h : ltA a b = false) : leA b a := by
  unfold ltA at h
  split at h
  · rename_i he
    have := of_decide_eq_false h
    have hn := cmpL_neg a b
    exact .inr ⟨he.symm, by omega⟩
  · have := of_decide_eq_false h
    exact .inl (by omega)
theorem leA_refl (a : List Int) : leA a a := .inr ⟨rfl, by rw [cmpL_eq.2 rfl]; omega⟩
theorem leA_trans {a b c : List Int} (h1 : leA a b) (h2 : leA b c) : leA a c := by
  rcases h1 with h1 | ⟨h1, k1⟩
  · rcases h2 with h2 | ⟨h2, _⟩
    · exact .inl (by omega)
    · exact .inl (by omega)
  · rcases h2 with h2 | ⟨h2, k2⟩
    · exact .inl (by omega)
    · refine .inr ⟨by omega, ?_⟩
      rcases cmpL_three a b with e1 | e1 | e1
      · rcases cmpL_three b c with e2 | e2 | e2
        · have := cmpL_trans (xs := a) (ys := b) (zs := c) (by omega) (by omega); omega
        · rw [← cmpL_eq.1 e2]; exact k1
        · omega
      · rw [cmpL_eq.1 e1]; exact k2
      · omega
theorem leA_anti {a b : List Int} (h1 : leA a b) (h2 : leA b a) : a = b := by
  have hn := cmpL_neg a b
  rcases h1 with h1 | ⟨h1, k1⟩
  · rcases h2 with h2 | ⟨h2, _⟩ <;> omega
  · rcases h2 with h2 | ⟨_, k2⟩
    · omega
    · exact cmpL_eq.1 (by omega)
theorem leA_app {a b : List Int} (h : leA a b) (x : List Int) : leA (a ++ x) (b ++ x) := by
  rcases h with h | ⟨h, k⟩
  · exact .inl (by simp; omega)
  · exact .inr ⟨by simp; omega, by rw [cmpL_append h]; exact k⟩
theorem leA_grow (a x : List Int) : leA a (a ++ x) := by
  cases x with
  | nil => rw [List.append_nil]; exact leA_refl a
  | cons y x => exact .inl (by simp)
theorem ltA_or_le (a b : List Int) : ltA a b = true ∨ leA b a := by
  cases h : ltA a b
  · exact .inr (ltA_false h)
  · exact .inl rfl

/-! ### Two beginnings of readings, one longer by some strokes -/
def beginsB (o p : List Int) : Bool := decide (p.length ≤ o.length) && decide (o.take p.length = p)
theorem begins_iff {o p : List Int} : beginsB o p = true ↔ ∃ x, o = p ++ x := by
  unfold beginsB
  rw [Bool.and_eq_true, decide_eq_true_eq, decide_eq_true_eq]
  constructor
  · rintro ⟨-, h⟩
    exact ⟨o.drop p.length, by
      have h2 := List.take_append_drop p.length o
      rw [h] at h2
      exact h2.symm⟩
  · rintro ⟨x, rfl⟩
    simp
theorem begins_drop {o p : List Int} (h : beginsB o p = true) : o = p ++ o.drop p.length := by
  obtain ⟨x, rfl⟩ := begins_iff.1 h
  simp
def stepO (o r a : List Int) : Option (List Int × List Int) :=
  if beginsB r o then some (r.drop o.length, a) else if beginsB o r then some (o.drop r.length, a ++ o.drop r.length) else none
theorem stepO_mono {o r a b r' a' : List Int} (h : stepO o r a = some (r', a')) (hb : leA b a) : ∃ b', stepO o r b = some (r', b') ∧ leA b' a' := by
  unfold stepO at h ⊢
  split at h
  · rename_i h1
    rw [if_pos h1]
    simp only [Option.some.injEq, Prod.mk.injEq] at h
    exact ⟨b, by rw [h.1], by rw [← h.2]; exact hb⟩
  · split at h
    · rename_i h1 h2
      rw [if_neg h1, if_pos h2]
      simp only [Option.some.injEq, Prod.mk.injEq] at h
      exact ⟨_, by rw [h.1], by rw [← h.2, h.1]; exact leA_app hb r'⟩
    · cases h
theorem stepO_grow {o r a r' a' : List Int} (h : stepO o r a = some (r', a')) : leA a a' := by
  unfold stepO at h
  split at h
  · simp only [Option.some.injEq, Prod.mk.injEq] at h
    rw [← h.2]; exact leA_refl a
  · split at h
    · simp only [Option.some.injEq, Prod.mk.injEq] at h
      rw [← h.2]; exact leA_grow a _
    · cases h
theorem stepO_len {o r a r' a' : List Int} (h : stepO o r a = some (r', a')) : a'.length ≤ a.length + o.length := by
  unfold stepO at h
  split at h
  · simp only [Option.some.injEq, Prod.mk.injEq] at h
    rw [← h.2]; omega
  · split at h
    · simp only [Option.some.injEq, Prod.mk.injEq] at h
      rw [← h.2]; simp
    · cases h
/-- A pair to begin with. -/
def Start (E : List (List Int)) (r a : List Int) : Prop := ∃ p ∈ E, a ∈ E ∧ p.length < a.length ∧ beginsB a p = true ∧ r = a.drop p.length
inductive Reach (E : List (List Int)) : List Int → List Int → Prop
  | start {r a : List Int} : Start E r a → Reach E r a
  | step {r a o r' a' : List Int} : Reach E r a → o ∈ E → stepO o r a = some (r', a') → Reach E r' a'
theorem reach_some {E : List (List Int)} {r a : List Int} (h : Reach E r a) : a ≠ [] := by
  induction h with
  | start h =>
    obtain ⟨p, -, -, h1, -⟩ := h
    intro e
    subst e
    simp at h1
  | step _ _ hs ih =>
    have := stepO_grow hs
    intro e
    subst e
    rcases this with h | ⟨h, _⟩
    · simp at h
    · exact ih (List.eq_nil_of_length_eq_zero (by simpa using h))
/-- The strokes that are read once more are an end of an outline. -/
theorem reach_tail {E : List (List Int)} {r a : List Int} (h : Reach E r a) : ∃ o ∈ E, ∃ k, k ≤ o.length ∧ r = o.drop k := by
  induction h with
  | start h =>
    obtain ⟨p, -, h2, h3, -, h5⟩ := h
    exact ⟨_, h2, p.length, by omega, h5⟩
  | @step r0 a0 o r1 a1 _ ho hs ih =>
    unfold stepO at hs
    split at hs
    · rename_i hb
      simp only [Option.some.injEq, Prod.mk.injEq] at hs
      obtain ⟨q, hq, k, hk, hr⟩ := ih
      have hl := begins_iff.1 hb
      obtain ⟨x, hx⟩ := hl
      refine ⟨q, hq, k + o.length, ?_, by rw [← hs.1, hr, List.drop_drop]⟩
      have : (q.drop k).length = (o ++ x).length := by rw [← hr, hx]
      simp at this
      omega
    · split at hs
      · rename_i hb
        simp only [Option.some.injEq, Prod.mk.injEq] at hs
        obtain ⟨x, hx⟩ := begins_iff.1 hb
        exact ⟨o, ho, r0.length, by rw [hx]; simp, hs.1.symm⟩
      · cases hs

/-! ### A search: D has been done, O is open, Q is covered -/
def Cov (D O : List Int → List Int → Prop) (r a : List Int) : Prop := (∃ d, D r d ∧ leA d a) ∨ ∃ x, O r x ∧ leA x a
structure Search (E : List (List Int)) (D O Q : List Int → List Int → Prop) : Prop where
  reach : ∀ r a, O r a → Reach E r a
  some_ : ∀ r a, D r a → r ≠ []
  before : ∀ r a r' a', D r a → O r' a' → leA a a'
  cov : ∀ r a, Q r a → Cov D O r a
/-- What a search must cover. -/
def Due (E : List (List Int)) (D : List Int → List Int → Prop) (r a : List Int) : Prop := Start E r a ∨ ∃ r0 a0, D r0 a0 ∧ ∃ o ∈ E, stepO o r0 a0 = some (r, a)
theorem cov_le {D O : List Int → List Int → Prop} {r a b : List Int} (h : Cov D O r a) (hb : leA a b) : Cov D O r b := by
  rcases h with ⟨d, h1, h2⟩ | ⟨d, h1, h2⟩
  · exact .inl ⟨d, h1, leA_trans h2 hb⟩
  · exact .inr ⟨d, h1, leA_trans h2 hb⟩
theorem search_reach {E : List (List Int)} {D O : List Int → List Int → Prop} (h : Search E D O (Due E D)) {r a : List Int} (hr : Reach E r a) : Cov D O r a ∨ ∃ r' x, O r' x ∧ leA x a := by
  induction hr with
  | start hs => exact .inl (h.cov _ _ (.inl hs))
  | step hr ho hs ih =>
    rcases ih with (⟨d, h1, h2⟩ | ⟨x, h1, h2⟩) | ⟨r', x, h1, h2⟩
    · obtain ⟨b', h3, h4⟩ := stepO_mono hs h2
      exact .inl (cov_le (h.cov _ _ (.inr ⟨_, _, h1, _, ho, h3⟩)) h4)
    · exact .inr ⟨_, x, h1, leA_trans h2 (stepO_grow hs)⟩
    · exact .inr ⟨r', x, h1, leA_trans h2 (stepO_grow hs)⟩
/-- What the search finds. -/
def IsMin (E : List (List Int)) (a : List Int) : Prop := Reach E [] a ∧ ∀ s, Reach E [] s → leA a s
def AmbRes (E : List (List Int)) (out : List Int) : Prop := (out = [] ∧ ∀ s, ¬ Reach E [] s) ∨ IsMin E out
theorem amb_same {E : List (List Int)} {a b : List Int} (ha : AmbRes E a) (hb : AmbRes E b) : a = b := by
  rcases ha with ⟨ha, h1⟩ | ha
  · rcases hb with ⟨hb, _⟩ | hb
    · rw [ha, hb]
    · exact absurd hb.1 (h1 b)
  · rcases hb with ⟨hb, h1⟩ | hb
    · exact absurd ha.1 (h1 a)
    · exact leA_anti (ha.2 b hb.1) (hb.2 a ha.1)
theorem search_open {E : List (List Int)} {D O : List Int → List Int → Prop} (h : Search E D O (Due E D)) {s : List Int} (hs : Reach E [] s) : ∃ r x, O r x ∧ leA x s := by
  rcases search_reach h hs with (⟨d, h1, -⟩ | ⟨x, h1, h2⟩) | h1
  · exact absurd rfl (h.some_ _ _ h1)
  · exact ⟨_, x, h1, h2⟩
  · exact h1
theorem search_found {E : List (List Int)} {D O : List Int → List Int → Prop} (h : Search E D O (Due E D)) {a : List Int} (ha : O [] a) (hmin : ∀ r x, O r x → leA a x) : AmbRes E a :=
  .inr ⟨h.reach _ _ ha, fun s hs => by
    obtain ⟨r, x, h1, h2⟩ := search_open h hs
    exact leA_trans (hmin r x h1) h2⟩
theorem search_none {E : List (List Int)} {D O : List Int → List Int → Prop} (h : Search E D O (Due E D)) (hO : ∀ r a, ¬ O r a) : AmbRes E [] :=
  .inl ⟨rfl, fun s hs => by
    obtain ⟨r, x, h1, -⟩ := search_open h hs
    exact hO r x h1⟩
/-- One is left out that has been done before. -/
theorem search_skip {E : List (List Int)} {D O O' Q : List Int → List Int → Prop} (h : Search E D O Q) {r a : List Int} (hs : ∀ r' a', O' r' a' → O r' a') (hk : ∀ r' a', O r' a' → O' r' a' ∨ (r' = r ∧ a' = a)) (ha : O r a) (hd : ∃ d, D r d) : Search E D O' Q := by
  obtain ⟨d, hd⟩ := hd
  refine ⟨fun r' a' h1 => h.reach _ _ (hs _ _ h1), h.some_, fun r1 a1 r2 a2 h1 h2 => h.before _ _ _ _ h1 (hs _ _ h2), fun r' a' hq => ?_⟩
  rcases h.cov _ _ hq with h1 | ⟨x, h1, h2⟩
  · exact .inl h1
  · rcases hk _ _ h1 with h3 | ⟨h3, h4⟩
    · exact .inr ⟨x, h3, h2⟩
    · subst h3 h4
      exact .inl ⟨d, hd, leA_trans (h.before _ _ _ _ hd ha) h2⟩
/-- One is done; what follows is owed. -/
theorem search_done {E : List (List Int)} {D D' O O' Q : List Int → List Int → Prop} (h : Search E D O Q) {r a : List Int} (hs : ∀ r' a', O' r' a' → O r' a') (hk : ∀ r' a', O r' a' → O' r' a' ∨ (r' = r ∧ a' = a)) (ha : O r a) (hr : r ≠ [])
    (hmin : ∀ r' a', O r' a' → leA a a') (hD : ∀ r' a', D' r' a' ↔ D r' a' ∨ (r' = r ∧ a' = a)) : Search E D' O' Q := by
  refine ⟨fun r' a' h1 => h.reach _ _ (hs _ _ h1), fun r' a' h1 => ?_, fun r1 a1 r2 a2 h1 h2 => ?_, fun r' a' hq => ?_⟩
  · rcases (hD _ _).1 h1 with h2 | ⟨h2, _⟩
    · exact h.some_ _ _ h2
    · rw [h2]; exact hr
  · rcases (hD _ _).1 h1 with h3 | ⟨_, h3⟩
    · exact h.before _ _ _ _ h3 (hs _ _ h2)
    · rw [h3]; exact hmin _ _ (hs _ _ h2)
  · rcases h.cov _ _ hq with ⟨d, h1, h2⟩ | ⟨x, h1, h2⟩
    · exact .inl ⟨d, (hD _ _).2 (.inl h1), h2⟩
    · rcases hk _ _ h1 with h3 | ⟨h3, h4⟩
      · exact .inr ⟨x, h3, h2⟩
      · subst h3 h4
        exact .inl ⟨x, (hD _ _).2 (.inr ⟨rfl, rfl⟩), h2⟩
/-- One more is put in (or a better one in its place). -/
theorem search_put {E : List (List Int)} {D O O' Q Q' : List Int → List Int → Prop} (h : Search E D O Q) {r a : List Int} (hr : Reach E r a) (hb : ∀ r0 a0, D r0 a0 → leA a0 a)
    (hs : ∀ r' a', O' r' a' → O r' a' ∨ (r' = r ∧ a' = a)) (hk : ∀ r' a', O r' a' → ∃ x, O' r' x ∧ leA x a') (hc : Cov D O' r a) (hQ : ∀ r' a', Q' r' a' → Q r' a' ∨ (r' = r ∧ a' = a)) : Search E D O' Q' := by
  refine ⟨fun r' a' h1 => ?_, h.some_, fun r1 a1 r2 a2 h1 h2 => ?_, fun r' a' hq => ?_⟩
  · rcases hs _ _ h1 with h2 | ⟨h2, h3⟩
    · exact h.reach _ _ h2
    · rw [h2, h3]; exact hr
  · rcases hs _ _ h2 with h3 | ⟨_, h3⟩
    · exact h.before _ _ _ _ h1 h3
    · rw [h3]; exact hb _ _ h1
  · rcases hQ _ _ hq with hq | ⟨h2, h3⟩
    · rcases h.cov _ _ hq with h1 | ⟨x, h1, h2⟩
      · exact .inl h1
      · obtain ⟨y, h3, h4⟩ := hk _ _ h1
        exact .inr ⟨y, h3, leA_trans h4 h2⟩
    · rw [h2, h3]; exact hc
theorem search_weaken {E : List (List Int)} {D O Q Q' : List Int → List Int → Prop} (h : Search E D O Q) (hQ : ∀ r a, Q' r a → Q r a) : Search E D O Q' := ⟨h.reach, h.some_, h.before, fun r a hq => h.cov r a (hQ r a hq)⟩

/-! ### What it says of readings -/
/-- Two lists of words, the first words of which differ: one reads a, the other one all but the end r. -/
theorem reach_words {E : List (List Int)} {r a : List Int} (h : Reach E r a) : ∃ p q : List (List Int), (∀ x ∈ p, x ∈ E) ∧ (∀ x ∈ q, x ∈ E) ∧ p.flatten = a ∧ q.flatten ++ r = a ∧ p ≠ [] ∧ q ≠ [] ∧ p.head? ≠ q.head? := by
  induction h with
  | start h =>
    obtain ⟨p, h1, h2, h3, h4, h5⟩ := h
    refine ⟨[_], [p], by simpa using h2, by simpa using h1, by simp, by rw [h5]; simpa using (begins_drop h4).symm, by simp, by simp, ?_⟩
    intro e
    simp at e
    rw [e] at h3
    omega
  | @step r0 a0 o r1 a1 _ ho hs ih =>
    obtain ⟨p, q, hp, hq, h1, h2, h3, h4, h5⟩ := ih
    unfold stepO at hs
    split at hs
    · rename_i hb
      simp only [Option.some.injEq, Prod.mk.injEq] at hs
      have hd := begins_drop hb
      refine ⟨p, q ++ [o], hp, fun x hx => ?_, by rw [h1, hs.2], by rw [← hs.1, ← hs.2, ← h2]; rw [List.flatten_append]; simp; exact hd.symm, h3, by simp, ?_⟩
      · rcases List.mem_append.1 hx with h | h
        · exact hq x h
        · simp at h; rw [h]; exact ho
      · intro e
        apply h5
        rw [e]
        cases q with
        | nil => exact absurd rfl h4
        | cons y q => rfl
    · split at hs
      · rename_i hb
        simp only [Option.some.injEq, Prod.mk.injEq] at hs
        have hd := begins_drop hb
        refine ⟨q ++ [o], p, fun x hx => ?_, hp, ?_, by rw [h1, ← hs.1, ← hs.2], by simp, h3, ?_⟩
        · rcases List.mem_append.1 hx with h | h
          · exact hq x h
          · simp at h; rw [h]; exact ho
        · rw [← hs.2, ← h2, List.flatten_append, List.append_assoc, ← hd]; simp
        · intro e
          apply h5
          rw [← e]
          cases q with
          | nil => exact absurd rfl h4
          | cons y q => rfl
      · cases hs
theorem comparable {a b c d : List Int} (h : a ++ c = b ++ d) : (∃ x, a = b ++ x ∧ x ++ c = d) ∨ ∃ x, b = a ++ x ∧ x ++ d = c := by
  rcases List.append_eq_append_iff.1 h with ⟨x, h1, h2⟩ | ⟨x, h1, h2⟩
  · exact .inr ⟨x, h1, h2.symm⟩
  · exact .inl ⟨x, h1, h2.symm⟩
theorem reach_on {E : List (List Int)} : ∀ (n : Nat) (r a : List Int) (p q : List (List Int)), p.length + q.length ≤ n → Reach E r a → (∀ x ∈ p, x ∈ E) → (∀ x ∈ q, x ∈ E) → r ++ p.flatten = q.flatten → ∃ s, Reach E [] s ∧ s.length ≤ a.length + p.flatten.length := by
  intro n
  induction n with
  | zero =>
    intro r a p q hn hr hp hq he
    have hp0 : p = [] := List.eq_nil_of_length_eq_zero (by omega)
    have hq0 : q = [] := List.eq_nil_of_length_eq_zero (by omega)
    subst hp0 hq0
    have : r = [] := by simpa using he
    subst this
    exact ⟨a, hr, by omega⟩
  | succ n ih =>
    intro r a p q hn hr hp hq he
    by_cases hr0 : r = []
    · subst hr0; exact ⟨a, hr, by omega⟩
    · cases q with
      | nil =>
        have : r = [] := by
          have := congrArg List.length he
          simp at this
          exact this.1
        exact absurd this hr0
      | cons o q =>
        have ho : o ∈ E := hq o (by simp)
        rw [List.flatten_cons] at he
        rcases comparable he with ⟨x, h1, h2⟩ | ⟨x, h1, h2⟩
        · have hs : stepO o r a = some (x, a) := by
            unfold stepO
            rw [if_pos (begins_iff.2 ⟨x, h1⟩), h1]
            simp
          exact ih x a p q (by simp at hn; omega) (.step hr ho hs) hp (fun y hy => hq y (by simp [hy])) h2
        · by_cases hb : beginsB r o = true
          · obtain ⟨y, hy⟩ := begins_iff.1 hb
            have hl := congrArg List.length h1
            have hl2 := congrArg List.length hy
            simp at hl hl2
            have hx : x = [] := List.eq_nil_of_length_eq_zero (by omega)
            subst hx
            have hor : o = r := by simpa using h1
            have hs : stepO o r a = some ([], a) := by
              unfold stepO
              rw [if_pos hb, hor]
              simp
            exact ⟨a, .step hr ho hs, by omega⟩
          · have hs : stepO o r a = some (x, a ++ x) := by
              unfold stepO
              rw [if_neg hb, if_pos (begins_iff.2 ⟨x, h1⟩), h1]
              simp
            obtain ⟨s, h3, h4⟩ := ih x (a ++ x) q p (by simp at hn; omega) (.step hr ho hs) (fun y hy => hq y (by simp [hy])) hp h2
            refine ⟨s, h3, ?_⟩
            have := congrArg List.length h2
            simp only [List.length_append] at this h4
            omega
/-- Where a list of strokes has two readings, the search finds something no longer. -/
theorem two_reach {E : List (List Int)} (hE : ∀ x ∈ E, x ≠ []) : ∀ (p q : List (List Int)), (∀ x ∈ p, x ∈ E) → (∀ x ∈ q, x ∈ E) → p.flatten = q.flatten → p ≠ q → ∃ s, Reach E [] s ∧ s.length ≤ p.flatten.length := by
  intro p
  induction p with
  | nil =>
    intro q _ hq he hne
    cases q with
    | nil => exact absurd rfl hne
    | cons o q =>
      have := hE o (hq o (by simp))
      rw [List.flatten_cons, List.flatten_nil] at he
      exact absurd (List.append_eq_nil_iff.1 he.symm).1 this
  | cons b p ih =>
    intro q hp hq he hne
    cases q with
    | nil =>
      have := hE b (hp b (by simp))
      rw [List.flatten_cons, List.flatten_nil] at he
      exact absurd (List.append_eq_nil_iff.1 he).1 this
    | cons a q =>
      have hb := hp b (by simp)
      have ha := hq a (by simp)
      by_cases hab : a = b
      · subst hab
        obtain ⟨s, h1, h2⟩ := ih q (fun x hx => hp x (by simp [hx])) (fun x hx => hq x (by simp [hx])) (by simpa using he) (fun e => hne (by rw [e]))
        exact ⟨s, h1, by rw [List.flatten_cons, List.length_append]; omega⟩
      · rw [List.flatten_cons, List.flatten_cons] at he
        rcases comparable he with ⟨x, h1, h2⟩ | ⟨x, h1, h2⟩
        · have hx : x ≠ [] := fun e => hab (by rw [h1, e]; simp)
          have hxl := List.length_pos_iff.2 hx
          have hst : Reach E x b := .start ⟨a, ha, hb, by rw [h1, List.length_append]; omega, begins_iff.2 ⟨x, h1⟩, by rw [h1]; simp⟩
          obtain ⟨s, h3, h4⟩ := reach_on _ x b p q (Nat.le_refl _) hst (fun y hy => hp y (by simp [hy])) (fun y hy => hq y (by simp [hy])) h2
          exact ⟨s, h3, by rw [List.flatten_cons, List.length_append]; exact h4⟩
        · have hx : x ≠ [] := fun e => hab (by rw [h1, e]; simp)
          have hxl := List.length_pos_iff.2 hx
          have hst : Reach E x a := .start ⟨b, hb, ha, by rw [h1, List.length_append]; omega, begins_iff.2 ⟨x, h1⟩, by rw [h1]; simp⟩
          obtain ⟨s, h3, h4⟩ := reach_on _ x a q p (Nat.le_refl _) hst (fun y hy => hq y (by simp [hy])) (fun y hy => hp y (by simp [hy])) h2
          refine ⟨s, h3, ?_⟩
          have := congrArg List.length he
          rw [List.flatten_cons]
          simp only [List.length_append] at this h4 ⊢
          omega
end Go.Proofs.YtekidodfcanjaaaGreatDoor
namespace Go.Proofs.YtekidodfcanjaaaGreatDoor
set_option linter.unusedVariables false

/-! ### The readings, in order -/
def readF (l : List EntD) : Nat → List Int → List (List Nat)
  | 0, zs => if zs.isEmpty then [[]] else []
  | f + 1, zs => if zs.isEmpty then [[]] else (List.range l.length).flatMap fun k => match l[k]? with
    | some c => if beginsB zs c.1 then (readF l f (zs.drop c.1.length)).map (k :: ·) else []
    | none => []
def readD (l : List EntD) (zs : List Int) : List (List Nat) := readF l zs.length zs
/-- The words of a reading. -/
def wordsOf (l : List EntD) (r : List Nat) : List (List Int) := r.map fun k => ((l[k]?).getD ([], ⟨#[]⟩)).1
theorem readF_mem {l : List EntD} : ∀ (f : Nat) (zs : List Int) (r : List Nat), r ∈ readF l f zs → (wordsOf l r).flatten = zs ∧ ∀ k ∈ r, k < l.length
  | 0, zs, r, h => by
    unfold readF at h
    split at h
    · rename_i hz
      simp at h hz
      subst h hz
      simp [wordsOf]
    · simp at h
  | f + 1, zs, r, h => by
    unfold readF at h
    split at h
    · rename_i hz
      simp at h hz
      subst h hz
      simp [wordsOf]
    · obtain ⟨k, hk, hr⟩ := List.mem_flatMap.1 h
      have hkl : k < l.length := by simpa using hk
      obtain ⟨c, hc⟩ := some_at l hkl
      rw [hc] at hr
      simp only at hr
      split at hr
      · rename_i hb
        obtain ⟨q, hq, rfl⟩ := List.mem_map.1 hr
        obtain ⟨h1, h2⟩ := readF_mem f _ q hq
        refine ⟨?_, fun j hj => ?_⟩
        · simp only [wordsOf, List.map_cons, List.flatten_cons, hc, Option.getD_some] at h1 ⊢
          rw [h1]
          exact (begins_drop hb).symm
        · rcases List.mem_cons.1 hj with rfl | hj
          · exact hkl
          · exact h2 j hj
      · simp at hr
theorem readF_all {l : List EntD} (hE : ∀ c ∈ l, c.1 ≠ []) : ∀ (f : Nat) (zs : List Int) (r : List Nat), zs.length ≤ f → (∀ k ∈ r, k < l.length) → (wordsOf l r).flatten = zs → r ∈ readF l f zs
  | 0, zs, r, hf, hr, h => by
    have hz : zs = [] := List.eq_nil_of_length_eq_zero (by omega)
    subst hz
    cases r with
    | nil => simp [readF]
    | cons k r =>
      obtain ⟨c, hc⟩ := some_at l (hr k (by simp))
      have h1 := hE c (List.mem_of_getElem? hc)
      simp only [wordsOf, List.map_cons, List.flatten_cons, hc, Option.getD_some] at h
      exact absurd (List.append_eq_nil_iff.1 h).1 h1
  | f + 1, zs, r, hf, hr, h => by
    cases r with
    | nil =>
      have hz : zs = [] := by rw [← h]; rfl
      subst hz
      simp [readF]
    | cons k r =>
      obtain ⟨c, hc⟩ := some_at l (hr k (by simp))
      have h1 := hE c (List.mem_of_getElem? hc)
      have hcl := List.length_pos_iff.2 h1
      simp only [wordsOf, List.map_cons, List.flatten_cons, hc, Option.getD_some] at h
      have hz : zs.isEmpty = false := by
        rw [← h]
        cases hcc : c.1 with
        | nil => exact absurd hcc h1
        | cons a b => rfl
      unfold readF
      rw [hz]
      simp only [Bool.false_eq_true, if_false]
      refine List.mem_flatMap.2 ⟨k, by simpa using hr k (by simp), ?_⟩
      rw [hc]
      simp only
      rw [if_pos (begins_iff.2 ⟨_, h.symm⟩)]
      refine List.mem_map.2 ⟨r, readF_all hE f _ r ?_ (fun j hj => hr j (by simp [hj])) ?_, rfl⟩
      · have := congrArg List.length h
        simp at this ⊢
        omega
      · rw [← h]; simp [wordsOf]
theorem readF_fuel {l : List EntD} (hE : ∀ c ∈ l, c.1 ≠ []) : ∀ (f g : Nat) (zs : List Int), zs.length ≤ f → zs.length ≤ g → readF l f zs = readF l g zs
  | 0, 0, zs, _, _ => rfl
  | 0, g + 1, zs, h, _ => by
    have hz : zs = [] := List.eq_nil_of_length_eq_zero (by omega)
    subst hz
    rfl
  | f + 1, 0, zs, _, h => by
    have hz : zs = [] := List.eq_nil_of_length_eq_zero (by omega)
    subst hz
    rfl
  | f + 1, g + 1, zs, h1, h2 => by
    unfold readF
    split
    · rfl
    · rename_i hz
      congr 1
      funext k
      cases hc : l[k]? with
      | none => rfl
      | some c =>
        simp only
        split
        · have hcl := List.length_pos_iff.2 (hE c (List.mem_of_getElem? hc))
          have hzl : 0 < zs.length := by
            cases zs with
            | nil => simp at hz
            | cons a b => simp
          rw [readF_fuel hE f g _ (by simp; omega) (by simp; omega)]
        · rfl
theorem readF_nodup {l : List EntD} : ∀ (f : Nat) (zs : List Int), (readF l f zs).Nodup
  | 0, zs => by unfold readF; split <;> simp
  | f + 1, zs => by
    unfold readF
    split
    · simp
    · unfold List.Nodup
      rw [List.pairwise_flatMap]
      refine ⟨fun k _ => ?_, ?_⟩
      · cases hc : l[k]? with
        | none => simp
        | some c =>
          simp only
          split
          · rw [List.pairwise_map]
            exact (readF_nodup f _).imp fun h e => h (List.cons.inj e).2
          · simp
      · refine List.nodup_range.imp fun {i j} hij x hx y hy he => ?_
        subst he
        have hh : ∀ k, x ∈ (match l[k]? with | some c => if beginsB zs c.1 = true then (readF l f (zs.drop c.1.length)).map (k :: ·) else [] | none => []) → x.head? = some k := by
          intro k hk
          cases hc : l[k]? with
          | none => rw [hc] at hk; simp at hk
          | some c =>
            rw [hc] at hk
            simp only at hk
            split at hk
            · obtain ⟨q, -, rfl⟩ := List.mem_map.1 hk
              rfl
            · simp at hk
        have h1 := hh i hx
        have h2 := hh j hy
        rw [h1] at h2
        exact hij (Option.some.inj h2)
/-- Distinct readings read distinct words. -/
theorem wordsOf_inj {l : List EntD} (hi : ∀ (i j : Nat) a b, l[i]? = some a → l[j]? = some b → a.1 = b.1 → i = j) : ∀ (r q : List Nat), (∀ k ∈ r, k < l.length) → (∀ k ∈ q, k < l.length) → wordsOf l r = wordsOf l q → r = q
  | [], [], _, _, _ => rfl
  | [], b :: q, _, _, h => by simp [wordsOf] at h
  | a :: r, [], _, _, h => by simp [wordsOf] at h
  | a :: r, b :: q, hr, hq, h => by
    obtain ⟨x, hx⟩ := some_at l (hr a (by simp))
    obtain ⟨y, hy⟩ := some_at l (hq b (by simp))
    simp only [wordsOf, List.map_cons, List.cons.injEq, hx, hy, Option.getD_some] at h
    rw [hi a b x y hx hy h.1, wordsOf_inj hi r q (fun k hk => hr k (by simp [hk])) (fun k hk => hq k (by simp [hk])) h.2]

/-! ### The capped number -/
def cap1 : Nat := 1000001
def foldC (l : List EntD) (suf : List Int) (T : List Nat) : Nat → Nat
  | 0 => 0
  | k + 1 => match l[k]? with
    | some c => if beginsB suf c.1 then min cap1 (foldC l suf T k + T.getD (c.1.length - 1) 0) else foldC l suf T k
    | none => foldC l suf T k
theorem foldC_yes {l : List EntD} {suf : List Int} {T : List Nat} {k : Nat} {c : EntD} (hc : l[k]? = some c) (hb : beginsB suf c.1 = true) : foldC l suf T (k + 1) = min cap1 (foldC l suf T k + T.getD (c.1.length - 1) 0) := by
  rw [foldC, hc]; simp [hb]
theorem foldC_no {l : List EntD} {suf : List Int} {T : List Nat} {k : Nat} {c : EntD} (hc : l[k]? = some c) (hb : beginsB suf c.1 = false) : foldC l suf T (k + 1) = foldC l suf T k := by
  rw [foldC, hc]; simp [hb]
theorem foldC_le (l : List EntD) (suf : List Int) (T : List Nat) : ∀ k, foldC l suf T k ≤ cap1
  | 0 => by simp [foldC]
  | k + 1 => by
    have := foldC_le l suf T k
    unfold foldC
    split
    · split
      · exact Nat.min_le_left _ _
      · exact this
    · exact this
/-- The numbers of the last places: of place n - r up to place n. -/
def cntT (l : List EntD) (zs : List Int) : Nat → List Nat
  | 0 => [1]
  | r + 1 => foldC l (zs.drop (zs.length - (r + 1))) (cntT l zs r) l.length :: cntT l zs r
theorem cntT_length (l : List EntD) (zs : List Int) : ∀ r, (cntT l zs r).length = r + 1
  | 0 => rfl
  | r + 1 => by rw [cntT, List.length_cons, cntT_length l zs r]
theorem cntT_le (l : List EntD) (zs : List Int) : ∀ r, ∀ x ∈ cntT l zs r, x ≤ cap1
  | 0, x, h => by simp [cntT] at h; subst h; decide
  | r + 1, x, h => by
    rw [cntT] at h
    rcases List.mem_cons.1 h with rfl | h
    · exact foldC_le _ _ _ _
    · exact cntT_le l zs r x h
def cntD (l : List EntD) (zs : List Int) : Nat := (cntT l zs zs.length).headD 0
def numR (l : List EntD) (zs : List Int) : Nat := min cap1 (readD l zs).length
theorem numR_nil (l : List EntD) : numR l [] = 1 := by simp [numR, readD, readF]; decide
theorem sum_range_succ (g : Nat → Nat) (k : Nat) : ((List.range (k + 1)).map g).sum = ((List.range k).map g).sum + g k := by
  rw [List.range_succ, List.map_append, List.sum_append]; simp
theorem foldC_num {l : List EntD} (hE : ∀ c ∈ l, c.1 ≠ []) {suf : List Int} {T : List Nat} (hs : suf ≠ []) (hT : ∀ j, j < suf.length → T.getD j 0 = numR l (suf.drop (j + 1))) :
    ∀ k, k ≤ l.length → foldC l suf T k = min cap1 ((List.range k).map fun k => (match l[k]? with | some c => if beginsB suf c.1 then (readF l (suf.length - 1) (suf.drop c.1.length)).map (k :: ·) else [] | none => []).length).sum
  | 0, _ => by simp [foldC]
  | k + 1, hk => by
    have ih := foldC_num hE hs hT k (by omega)
    obtain ⟨c, hc⟩ := some_at l (show k < l.length by omega)
    rw [sum_range_succ, hc]
    simp only
    cases hb : beginsB suf c.1 with
    | false => rw [foldC_no hc hb, ih]; simp
    | true =>
      have hcl := List.length_pos_iff.2 (hE c (List.mem_of_getElem? hc))
      have hle : c.1.length ≤ suf.length := by
        obtain ⟨x, hx⟩ := begins_iff.1 hb
        rw [hx]; simp
      rw [foldC_yes hc hb, ih, hT _ (by omega), show c.1.length - 1 + 1 = c.1.length by omega]
      simp only [if_true, List.length_map]
      have : (readD l (suf.drop c.1.length)) = readF l (suf.length - 1) (suf.drop c.1.length) := readF_fuel hE _ _ _ (Nat.le_refl _) (by simp; omega)
      unfold numR
      rw [this]
      omega
theorem cntT_num {l : List EntD} (hE : ∀ c ∈ l, c.1 ≠ []) (zs : List Int) : ∀ r, r ≤ zs.length → ∀ j, j ≤ r → (cntT l zs r).getD j 0 = numR l (zs.drop (zs.length - r + j))
  | 0, _, j, hj => by
    obtain rfl : j = 0 := by omega
    simp [cntT, numR_nil]
  | r + 1, hr, j, hj => by
    have ih := cntT_num hE zs r (by omega)
    rw [cntT]
    cases j with
    | succ j =>
      rw [List.getD_cons_succ, ih j (by omega)]
      congr 2
      omega
    | zero =>
      rw [List.getD_cons_zero]
      have hsl : (zs.drop (zs.length - (r + 1))).length = r + 1 := by simp; omega
      have hs : zs.drop (zs.length - (r + 1)) ≠ [] := by
        intro e
        rw [e] at hsl
        simp at hsl
      rw [foldC_num hE hs (fun j hj => by
        rw [ih j (by omega), List.drop_drop]
        congr 2
        omega) _ (Nat.le_refl _)]
      unfold numR readD
      simp only [Nat.add_zero]
      rw [hsl, Nat.add_sub_cancel, readF.eq_2]
      have he : (zs.drop (zs.length - (r + 1))).isEmpty = false := by
        cases h : zs.drop (zs.length - (r + 1)) with
        | nil => exact absurd h hs
        | cons a b => rfl
      rw [he]
      simp only [Bool.false_eq_true, if_false, List.length_flatMap]
theorem cntD_num {l : List EntD} (hE : ∀ c ∈ l, c.1 ≠ []) (zs : List Int) : cntD l zs = numR l zs := by
  have h := cntT_num hE zs zs.length (Nat.le_refl _) 0 (by omega)
  have hl := cntT_length l zs zs.length
  unfold cntD
  cases hc : cntT l zs zs.length with
  | nil => rw [hc] at hl; simp at hl
  | cons a b =>
    rw [hc] at h
    simpa using h
end Go.Proofs.YtekidodfcanjaaaGreatDoor
namespace Go.Proofs.YtekidodfcanjaaaGreatDoor
set_option linter.unusedVariables false

/-- The table with the places from n - r on done, and place n - r - 1 after k entries. -/
def cntAt (l : List EntD) (zs : List Int) (r k : Nat) : List Int :=
  List.replicate (zs.length - (r + 1)) 0 ++ ((foldC l (zs.drop (zs.length - (r + 1))) (cntT l zs r) k : Nat) : Int) :: (cntT l zs r).map Int.ofNat
/-- The table with the places from n - r on done. -/
def cntRow (l : List EntD) (zs : List Int) (r : Nat) : List Int := List.replicate (zs.length - r) 0 ++ (cntT l zs r).map Int.ofNat
theorem cntAt_zero {l : List EntD} {zs : List Int} {r : Nat} (h : r < zs.length) : cntAt l zs r 0 = cntRow l zs r := by
  unfold cntAt cntRow
  rw [show zs.length - r = (zs.length - (r + 1)) + 1 by omega, List.replicate_succ']
  simp [foldC]
theorem cntAt_last (l : List EntD) (zs : List Int) (r : Nat) : cntAt l zs r l.length = cntRow l zs (r + 1) := by
  unfold cntAt cntRow
  rw [cntT, List.map_cons]
  rfl
theorem cntRow_zero (l : List EntD) (zs : List Int) : cntRow l zs 0 = (List.replicate (zs.length + 1) 0).set zs.length 1 := by
  unfold cntRow
  rw [List.replicate_succ', List.set_append_right _ _ (by simp)]
  simp [cntT]
theorem cntRow_length {l : List EntD} {zs : List Int} {r : Nat} (h : r ≤ zs.length) : (cntRow l zs r).length = zs.length + 1 := by
  unfold cntRow
  simp [cntT_length]
  omega
theorem cntAt_length {l : List EntD} {zs : List Int} {r : Nat} (h : r < zs.length) (k : Nat) : (cntAt l zs r k).length = zs.length + 1 := by
  unfold cntAt
  simp [cntT_length]
  omega
theorem cntAt_here (l : List EntD) (zs : List Int) (r k : Nat) : (cntAt l zs r k)[zs.length - (r + 1)]? = some ((foldC l (zs.drop (zs.length - (r + 1))) (cntT l zs r) k : Nat) : Int) := by
  unfold cntAt
  rw [List.getElem?_append_right (by simp)]
  simp
theorem cntAt_there {l : List EntD} {zs : List Int} {r k m : Nat} (h0 : 0 < m) (h1 : m ≤ r + 1) : (cntAt l zs r k)[zs.length - (r + 1) + m]? = some (((cntT l zs r).getD (m - 1) 0 : Nat) : Int) := by
  unfold cntAt
  rw [List.getElem?_append_right (by simp)]
  obtain ⟨m, rfl⟩ : ∃ j, m = j + 1 := ⟨m - 1, by omega⟩
  have hl := cntT_length l zs r
  simp only [List.length_replicate, Nat.add_sub_cancel_left, List.getElem?_cons_succ, List.getElem?_map, Nat.add_sub_cancel]
  rw [List.getElem?_eq_getElem (by omega), List.getD_eq_getElem?_getD, List.getElem?_eq_getElem (by omega)]
  simp
theorem cntAt_yes {l : List EntD} {zs : List Int} {r k : Nat} {c : EntD} (hc : l[k]? = some c) (hb : beginsB (zs.drop (zs.length - (r + 1))) c.1 = true) :
    (cntAt l zs r k).set (zs.length - (r + 1)) ((min cap1 (foldC l (zs.drop (zs.length - (r + 1))) (cntT l zs r) k + (cntT l zs r).getD (c.1.length - 1) 0) : Nat) : Int) = cntAt l zs r (k + 1) := by
  unfold cntAt
  rw [foldC_yes hc hb, List.set_append_right _ _ (by simp)]
  simp
theorem cntAt_no {l : List EntD} {zs : List Int} {r k : Nat} {c : EntD} (hc : l[k]? = some c) (hb : beginsB (zs.drop (zs.length - (r + 1))) c.1 = false) : cntAt l zs r (k + 1) = cntAt l zs r k := by
  unfold cntAt
  rw [foldC_no hc hb]
theorem cntRow_first {l : List EntD} {zs : List Int} : (cntRow l zs zs.length)[0]? = some ((cntD l zs : Nat) : Int) := by
  unfold cntRow cntD
  have hl := cntT_length l zs zs.length
  cases h : cntT l zs zs.length with
  | nil => rw [h] at hl; simp at hl
  | cons a b => simp
theorem begins_le {xs ys : List Int} (h : beginsB xs ys = true) : ys.length ≤ xs.length := by
  obtain ⟨x, hx⟩ := begins_iff.1 h
  rw [hx]; simp
theorem getD_le_cap (l : List EntD) (zs : List Int) (r m : Nat) : (cntT l zs r).getD m 0 ≤ cap1 := by
  rw [List.getD_eq_getElem?_getD]
  cases h : (cntT l zs r)[m]? with
  | none => simp
  | some x => simpa using cntT_le l zs r x (List.mem_of_getElem? h)
/-- What CountReadings returns. -/
def countD (l : List EntD) (zs : List Int) : Option Nat := if dictB l && strokesB zs then (if cntD l zs ≤ 1000000 then some (cntD l zs) else none) else none
end Go.Proofs.YtekidodfcanjaaaGreatDoor
namespace Go.Proofs.YtekidodfcanjaaaGreatDoor
set_option linter.unusedVariables false

/-- The first entry with an outline, or -1. -/
def findD (l : List EntD) (o : List Int) : Int :=
  let k := l.findIdx fun c => decide (c.1 = o)
  if k < l.length then (k : Int) else -1
theorem findD_at {l : List EntD} {o : List Int} {k : Nat} {c : EntD} (hk : l[k]? = some c) (hc : c.1 = o) (h : ∀ (j : Nat) d, j < k → l[j]? = some d → d.1 ≠ o) : findD l o = k := by
  obtain ⟨hkl, hkc⟩ := List.getElem?_eq_some_iff.1 hk
  have hi : l.findIdx (fun c => decide (c.1 = o)) = k := by
    rw [List.findIdx_eq hkl]
    refine ⟨by rw [hkc]; exact decide_eq_true hc, fun j hj => ?_⟩
    exact decide_eq_false (h j _ hj (List.getElem?_eq_getElem (by omega)))
  unfold findD
  rw [hi, if_pos hkl]
theorem findD_no {l : List EntD} {o : List Int} (h : ∀ (j : Nat) d, l[j]? = some d → d.1 ≠ o) : findD l o = -1 := by
  unfold findD
  rw [if_neg]
  intro hlt
  have hp := List.findIdx_getElem (w := hlt)
  exact h _ _ (List.getElem?_eq_getElem hlt) (of_decide_eq_true hp)
theorem findD_cases (l : List EntD) (o : List Int) : (findD l o = -1 ∧ ∀ (j : Nat) d, l[j]? = some d → d.1 ≠ o) ∨ ∃ (k : Nat) (c : EntD), findD l o = k ∧ l[k]? = some c ∧ c.1 = o := by
  by_cases hlt : l.findIdx (fun c => decide (c.1 = o)) < l.length
  · have hp := List.findIdx_getElem (w := hlt)
    exact .inr ⟨_, _, by unfold findD; rw [if_pos hlt], List.getElem?_eq_getElem hlt, of_decide_eq_true hp⟩
  · refine .inl ⟨by unfold findD; rw [if_neg hlt], fun j d hj hd => ?_⟩
    obtain ⟨hjl, rfl⟩ := List.getElem?_eq_some_iff.1 hj
    have := List.findIdx_lt_length_of_exists (xs := l) (p := fun c => decide (c.1 = o)) ⟨l[j], List.getElem_mem hjl, decide_eq_true hd⟩
    exact hlt this
/-- The text of an outline. -/
def lookD (l : List EntD) (o : List Int) : Option ByteArray := (l[l.findIdx fun c => decide (c.1 = o)]?).map (·.2)
theorem lookD_some {l : List EntD} {o : List Int} {k : Nat} {c : EntD} (hf : findD l o = k) (hk : l[k]? = some c) : lookD l o = some c.2 := by
  unfold findD at hf
  simp only at hf
  split at hf
  · unfold lookD
    rw [show l.findIdx (fun c => decide (c.1 = o)) = k by omega, hk]
    rfl
  · omega
theorem lookD_none {l : List EntD} {o : List Int} (hf : findD l o = -1) : lookD l o = none := by
  unfold findD at hf
  simp only at hf
  split at hf
  · omega
  · unfold lookD
    rw [List.getElem?_eq_none (by omega)]
    rfl
theorem lookD_mem {l : List EntD} {o : List Int} {t : ByteArray} (h : lookD l o = some t) : ∃ (k : Nat) (c : EntD), findD l o = k ∧ l[k]? = some c ∧ c.1 = o ∧ c.2 = t := by
  rcases findD_cases l o with ⟨h1, -⟩ | ⟨k, c, h1, h2, h3⟩
  · rw [lookD_none h1] at h; cases h
  · rw [lookD_some h1 h2] at h
    exact ⟨k, c, h1, h2, h3, Option.some.inj h⟩
theorem lookD_ent {l : List EntD} (hv : dictB l = true) {k : Nat} {c : EntD} (hk : l[k]? = some c) : findD l c.1 = k ∧ lookD l c.1 = some c.2 := by
  have h := findD_at hk rfl (fun j d hj hd he => by
    have := dict_inj hv hd hk he
    omega)
  exact ⟨h, lookD_some h hk⟩

/-! ### The longest match -/
def part (zs : List Int) (i n : Nat) : List Int := (zs.drop i).take n
theorem part_length {zs : List Int} {i n : Nat} (h : i + n ≤ zs.length) : (part zs i n).length = n := by simp [part]; omega
def tryN (l : List EntD) (zs : List Int) (i : Nat) : Nat → Nat × ByteArray
  | 0 => (1, ⟨#[]⟩)
  | n + 1 => if i + (n + 1) ≤ zs.length then (match lookD l (part zs i (n + 1)) with | some t => (n + 1, t) | none => tryN l zs i n) else tryN l zs i n
theorem tryN_long {l : List EntD} {zs : List Int} {i n : Nat} (h : ¬ i + (n + 1) ≤ zs.length) : tryN l zs i (n + 1) = tryN l zs i n := by rw [tryN, if_neg h]
theorem tryN_hit {l : List EntD} {zs : List Int} {i n : Nat} {t : ByteArray} (h : i + (n + 1) ≤ zs.length) (ht : lookD l (part zs i (n + 1)) = some t) : tryN l zs i (n + 1) = (n + 1, t) := by rw [tryN, if_pos h, ht]
theorem tryN_miss {l : List EntD} {zs : List Int} {i n : Nat} (h : i + (n + 1) ≤ zs.length) (ht : lookD l (part zs i (n + 1)) = none) : tryN l zs i (n + 1) = tryN l zs i n := by rw [tryN, if_pos h, ht]
theorem tryN_cap (l : List EntD) (zs : List Int) (i : Nat) : ∀ m n, zs.length - i ≤ n → n ≤ m → tryN l zs i m = tryN l zs i n
  | 0, n, _, h => by
    obtain rfl : n = 0 := by omega
    rfl
  | m + 1, n, h1, h2 => by
    rcases Nat.lt_or_ge m n with h | h
    · obtain rfl : n = m + 1 := by omega
      rfl
    · rw [tryN_long (by omega)]
      exact tryN_cap l zs i m n h1 h
def matchD (l : List EntD) (zs : List Int) (i : Nat) : Nat × ByteArray := tryN l zs i 6
theorem tryN_range (l : List EntD) (zs : List Int) (i : Nat) (hi : i < zs.length) : ∀ n, 1 ≤ (tryN l zs i n).1 ∧ i + (tryN l zs i n).1 ≤ zs.length ∧ ((tryN l zs i n).1 ≤ n ∨ (tryN l zs i n).1 = 1)
  | 0 => by simp [tryN]; omega
  | n + 1 => by
    have ih := tryN_range l zs i hi n
    by_cases h : i + (n + 1) ≤ zs.length
    · cases ht : lookD l (part zs i (n + 1)) with
      | some t => rw [tryN_hit h ht]; exact ⟨by simp, h, .inl (Nat.le_refl _)⟩
      | none => rw [tryN_miss h ht]; exact ⟨ih.1, ih.2.1, by omega⟩
    · rw [tryN_long h]; exact ⟨ih.1, ih.2.1, by omega⟩
theorem tryN_text (l : List EntD) (zs : List Int) (i : Nat) : ∀ n, (tryN l zs i n).2.size ≠ 0 → lookD l (part zs i (tryN l zs i n).1) = some (tryN l zs i n).2
  | 0, h => by simp [tryN] at h; exact absurd rfl h
  | n + 1, h => by
    by_cases hl : i + (n + 1) ≤ zs.length
    · cases ht : lookD l (part zs i (n + 1)) with
      | some t => rw [tryN_hit hl ht]; exact ht
      | none => rw [tryN_miss hl ht] at h ⊢; exact tryN_text l zs i n h
    · rw [tryN_long hl] at h ⊢; exact tryN_text l zs i n h

/-! ### The segmentation -/
abbrev PieceD := Nat × Nat × ByteArray
def pieceV (p : PieceD) : List Value := [.int .i64 p.1, .int .i64 p.2.1, .string p.2.2]
def piecesV (ps : List PieceD) : List Value := ps.flatMap pieceV
theorem piecesV_length (ps : List PieceD) : (piecesV ps).length = ps.length * 3 := by
  induction ps with
  | nil => rfl
  | cons p ps ih => simp only [piecesV, List.flatMap_cons, List.length_append, pieceV, List.length_cons, List.length_nil] at *; omega
theorem piecesV_snoc (ps : List PieceD) (p : PieceD) : piecesV (ps ++ [p]) = piecesV ps ++ [.int .i64 p.1, .int .i64 p.2.1, .string p.2.2] := by simp [piecesV, pieceV]
theorem piecesV_at {ps : List PieceD} {k : Nat} {p : PieceD} (h : ps[k]? = some p) : (piecesV ps)[k * 3]? = some (.int .i64 p.1) ∧ (piecesV ps)[k * 3 + 1]? = some (.int .i64 p.2.1) ∧ (piecesV ps)[k * 3 + 2]? = some (.string p.2.2) := by
  obtain ⟨a, b, rfl, rfl⟩ := split_at h
  have e : piecesV (a ++ p :: b) = piecesV a ++ (pieceV p ++ piecesV b) := by simp [piecesV]
  have hn := piecesV_length a
  refine ⟨?_, ?_, ?_⟩
  · rw [e, List.getElem?_append_right (by omega), hn, Nat.sub_self]; rfl
  · rw [e, List.getElem?_append_right (by omega), hn, show a.length * 3 + 1 - a.length * 3 = 1 by omega]; rfl
  · rw [e, List.getElem?_append_right (by omega), hn, show a.length * 3 + 2 - a.length * 3 = 2 by omega]; rfl
def segF (l : List EntD) (zs : List Int) : Nat → Nat → List PieceD
  | 0, _ => []
  | f + 1, i => if i < zs.length then (i, (matchD l zs i).1, (matchD l zs i).2) :: segF l zs f (i + (matchD l zs i).1) else []
theorem segF_end {l : List EntD} {zs : List Int} {f i : Nat} (h : zs.length ≤ i) : segF l zs f i = [] := by
  cases f with
  | zero => rfl
  | succ f => rw [segF, if_neg (by omega)]
theorem segF_fuel (l : List EntD) (zs : List Int) : ∀ f g i, zs.length - i ≤ f → zs.length - i ≤ g → segF l zs f i = segF l zs g i
  | 0, g, i, h, _ => by rw [segF_end (by omega), segF_end (by omega)]
  | f + 1, 0, i, _, h => by rw [segF_end (by omega), segF_end (by omega)]
  | f + 1, g + 1, i, h1, h2 => by
    by_cases hi : i < zs.length
    · have := (tryN_range l zs i hi 6).1
      rw [segF, segF, if_pos hi, if_pos hi, segF_fuel l zs f g _ (by unfold matchD; omega) (by unfold matchD; omega)]
    · rw [segF_end (by omega), segF_end (by omega)]
def segD (l : List EntD) (zs : List Int) : List PieceD := segF l zs zs.length 0
/-- What stands after the pieces ps: the rest from place i on. -/
def SegAt (l : List EntD) (zs : List Int) (ps : List PieceD) (i : Nat) : Prop := ps ++ segF l zs (zs.length - i) i = segD l zs
theorem segAt_zero (l : List EntD) (zs : List Int) : SegAt l zs [] 0 := by simp [SegAt, segD]
theorem segAt_next {l : List EntD} {zs : List Int} {ps : List PieceD} {i : Nat} (h : SegAt l zs ps i) (hi : i < zs.length) : SegAt l zs (ps ++ [(i, (matchD l zs i).1, (matchD l zs i).2)]) (i + (matchD l zs i).1) := by
  unfold SegAt at h ⊢
  have := (tryN_range l zs i hi 6).1
  rw [← h, show zs.length - i = (zs.length - i - 1) + 1 by omega, segF, if_pos hi, List.append_assoc, List.singleton_append, segF_fuel l zs (zs.length - i - 1) (zs.length - (i + (matchD l zs i).1)) _ (by unfold matchD; omega) (Nat.le_refl _)]
theorem segAt_end {l : List EntD} {zs : List Int} {ps : List PieceD} {i : Nat} (h : SegAt l zs ps i) (hi : zs.length ≤ i) : ps = segD l zs := by
  unfold SegAt at h
  rw [segF_end hi, List.append_nil] at h
  exact h
/-- What holds of every piece. -/
def PieceOk (l : List EntD) (zs : List Int) (p : PieceD) : Prop := p.1 < zs.length ∧ 1 ≤ p.2.1 ∧ p.1 + p.2.1 ≤ zs.length ∧ p.2 = matchD l zs p.1
theorem segF_ok (l : List EntD) (zs : List Int) : ∀ f i, ∀ p ∈ segF l zs f i, PieceOk l zs p
  | 0, i, p, h => by simp [segF] at h
  | f + 1, i, p, h => by
    by_cases hi : i < zs.length
    · rw [segF, if_pos hi] at h
      rcases List.mem_cons.1 h with rfl | h
      · have := tryN_range l zs i hi 6
        exact ⟨hi, this.1, this.2.1, rfl⟩
      · exact segF_ok l zs f _ p h
    · rw [segF, if_neg hi] at h; simp at h
theorem segD_ok {l : List EntD} {zs : List Int} {p : PieceD} (h : p ∈ segD l zs) : PieceOk l zs p := segF_ok l zs _ _ p h
theorem segF_len (l : List EntD) (zs : List Int) : ∀ f i, (segF l zs f i).length ≤ f
  | 0, i => by simp [segF]
  | f + 1, i => by
    rw [segF]
    split
    · have := segF_len l zs f (i + (matchD l zs i).1)
      simp; omega
    · simp
theorem segD_len (l : List EntD) (zs : List Int) : (segD l zs).length ≤ zs.length := segF_len l zs _ _
theorem piece_text {l : List EntD} {zs : List Int} {p : PieceD} (h : PieceOk l zs p) (ht : p.2.2.size ≠ 0) : lookD l (part zs p.1 p.2.1) = some p.2.2 := by
  have h1 := h.2.2.2
  have h2 := tryN_text l zs p.1 6
  unfold matchD at h1
  rw [← h1] at h2
  exact h2 ht
end Go.Proofs.YtekidodfcanjaaaGreatDoor
namespace Go.Proofs.YtekidodfcanjaaaGreatDoor
set_option linter.unusedVariables false

def pairB (i m : Nat) (o p : List Int) : Bool := decide (i ≠ m) && beginsB p o
def pairK (l : List EntD) (o : List Int) (i : Nat) : Nat → List (List Int)
  | 0 => []
  | m + 1 => pairK l o i m ++ (match l[m]? with | some c => if pairB i m o c.1 then [[(i : Int), (m : Int)]] else [] | none => [])
theorem pairK_yes {l : List EntD} {o : List Int} {i m : Nat} {c : EntD} (hc : l[m]? = some c) (h : pairB i m o c.1 = true) : pairK l o i (m + 1) = pairK l o i m ++ [[(i : Int), (m : Int)]] := by simp [pairK, hc, h]
theorem pairK_no {l : List EntD} {o : List Int} {i m : Nat} {c : EntD} (hc : l[m]? = some c) (h : pairB i m o c.1 = false) : pairK l o i (m + 1) = pairK l o i m := by simp [pairK, hc, h]
theorem pairK_len (l : List EntD) (o : List Int) (i : Nat) : ∀ m, (pairK l o i m).length ≤ m
  | 0 => by simp [pairK]
  | m + 1 => by
    have := pairK_len l o i m
    unfold pairK
    rw [List.length_append]
    split
    · split <;> simp <;> omega
    · simp; omega
theorem pairK_two (l : List EntD) (o : List Int) (i : Nat) : ∀ m, ∀ r ∈ pairK l o i m, r.length = 2
  | 0 => by simp [pairK]
  | m + 1 => by
    intro r hr
    unfold pairK at hr
    rcases List.mem_append.1 hr with h | h
    · exact pairK_two l o i m r h
    · split at h
      · split at h
        · simp at h; subst h; rfl
        · simp at h
      · simp at h
def pairT (l : List EntD) : Nat → List (List Int)
  | 0 => []
  | k + 1 => pairT l k ++ (match l[k]? with | some c => pairK l c.1 k l.length | none => [])
theorem pairT_next {l : List EntD} {k : Nat} {c : EntD} (h : l[k]? = some c) : pairT l (k + 1) = pairT l k ++ pairK l c.1 k l.length := by simp [pairT, h]
theorem pairT_len (l : List EntD) : ∀ k, (pairT l k).length ≤ k * l.length
  | 0 => by simp [pairT]
  | k + 1 => by
    have := pairT_len l k
    rw [Nat.succ_mul]
    cases h : l[k]? with
    | none => simp [pairT, h]; omega
    | some c =>
      have h2 := pairK_len l c.1 k l.length
      rw [pairT_next h, List.length_append]
      omega
theorem pairT_two (l : List EntD) : ∀ k, ∀ r ∈ pairT l k, r.length = 2
  | 0 => by simp [pairT]
  | k + 1 => by
    intro r hr
    cases h : l[k]? with
    | none => simp [pairT, h] at hr; exact pairT_two l k r hr
    | some c =>
      rw [pairT_next h] at hr
      rcases List.mem_append.1 hr with h1 | h1
      · exact pairT_two l k r h1
      · exact pairK_two _ _ _ _ r h1
def pairD (l : List EntD) : List (List Int) := if dictB l then pairT l l.length else []
theorem pairD_len (l : List EntD) : (pairD l).length ≤ 1600 := by
  unfold pairD
  split
  · rename_i h
    have h1 := pairT_len l l.length
    have h2 := dict_len h
    have h3 : l.length * l.length ≤ 40 * 40 := Nat.mul_le_mul h2 h2
    omega
  · simp
theorem pairD_two (l : List EntD) : ∀ r ∈ pairD l, r.length = 2 := by
  unfold pairD
  split
  · exact pairT_two _ _
  · simp
theorem pairD_row (l : List EntD) : ∀ r ∈ pairD l, r.length ≤ 2 := fun r hr => Nat.le_of_eq (pairD_two l r hr)
end Go.Proofs.YtekidodfcanjaaaGreatDoor
namespace Go.Proofs.YtekidodfcanjaaaGreatDoor
set_option linter.unusedVariables false

/-- Untranslated strokes, pieces, strokes of the first piece (0: an untranslated one). -/
abbrev CostD := Nat × Nat × Nat
def better (a b : CostD) : Bool := decide (a.1 < b.1) || (decide (a.1 = b.1) && decide (a.2.1 ≤ b.2.1))
def costAt (T : List CostD) (k : Nat) : CostD := T.getD k (0, 0, 0)
/-- The best at a place, the counts up to k tried; T: the table of the places behind it. -/
def bestK (l : List EntD) (suf : List Int) (T : List CostD) : Nat → CostD
  | 0 => ((costAt T 0).1 + 1, (costAt T 0).2.1 + 1, 0)
  | k + 1 =>
    let c := ((costAt T k).1, (costAt T k).2.1 + 1, k + 1)
    if (lookD l (suf.take (k + 1))).isSome && better c (bestK l suf T k) then c else bestK l suf T k
theorem bestK_yes {l : List EntD} {suf : List Int} {T : List CostD} {k : Nat} (h : (lookD l (suf.take (k + 1))).isSome = true) (hb : better ((costAt T k).1, (costAt T k).2.1 + 1, k + 1) (bestK l suf T k) = true) : bestK l suf T (k + 1) = ((costAt T k).1, (costAt T k).2.1 + 1, k + 1) := by
  rw [bestK]; simp only [h, hb, Bool.and_self, if_true]
theorem bestK_no {l : List EntD} {suf : List Int} {T : List CostD} {k : Nat} (h : (lookD l (suf.take (k + 1))).isSome = false ∨ better ((costAt T k).1, (costAt T k).2.1 + 1, k + 1) (bestK l suf T k) = false) : bestK l suf T (k + 1) = bestK l suf T k := by
  rw [bestK]
  rcases h with h | h <;> simp [h]
/-- The table of the last places: of place n - r up to place n. -/
def costT (l : List EntD) (zs : List Int) : Nat → List CostD
  | 0 => [(0, 0, 0)]
  | r + 1 => bestK l (zs.drop (zs.length - (r + 1))) (costT l zs r) (min 6 (r + 1)) :: costT l zs r
theorem costT_length (l : List EntD) (zs : List Int) : ∀ r, (costT l zs r).length = r + 1
  | 0 => rfl
  | r + 1 => by rw [costT, List.length_cons, costT_length l zs r]
/-- Bounds: m strokes to come. -/
def CostOk (m : Nat) (c : CostD) : Prop := c.1 ≤ m ∧ c.2.1 ≤ m ∧ c.2.2 ≤ m ∧ c.2.2 ≤ 6
theorem bestK_ok {l : List EntD} {suf : List Int} {T : List CostD} {r : Nat} (hT : ∀ j, j ≤ r → CostOk (r - j) (costAt T j)) : ∀ k, k ≤ r + 1 → k ≤ 6 → CostOk (r + 1) (bestK l suf T k)
  | 0, _, _ => by
    have := hT 0 (by omega)
    unfold CostOk at *
    simp only [bestK]
    omega
  | k + 1, h, h6 => by
    have ih := bestK_ok (l := l) (suf := suf) hT k (by omega) (by omega)
    have := hT k (by omega)
    unfold bestK
    simp only
    split
    · unfold CostOk at *
      simp only
      omega
    · exact ih
theorem costT_ok (l : List EntD) (zs : List Int) : ∀ r, ∀ j, j ≤ r → CostOk (r - j) (costAt (costT l zs r) j)
  | 0, j, h => by
    obtain rfl : j = 0 := by omega
    simp [CostOk, costAt, costT]
  | r + 1, j, h => by
    have ih := costT_ok l zs r
    cases j with
    | zero =>
      rw [costT]
      simp only [costAt, List.getD_cons_zero, Nat.sub_zero]
      exact bestK_ok ih _ (by omega) (by omega)
    | succ j =>
      rw [costT]
      simp only [costAt, List.getD_cons_succ]
      have := ih j (by omega)
      rw [show r + 1 - (j + 1) = r - j by omega]
      exact this
def cost1 (c : CostD) : Int := 1000 * (c.1 : Int) + (c.2.1 : Int)
def cost2 (c : CostD) : Int := 100 * (c.1 : Int) + (c.2.1 : Int)
theorem better_cost1 {a b : CostD} (ha : a.2.1 ≤ 60) (hb : b.2.1 ≤ 60) : decide (cost1 a ≤ cost1 b) = better a b := by
  unfold cost1 better
  rw [Bool.eq_iff_iff]
  simp only [Bool.or_eq_true, Bool.and_eq_true, decide_eq_true_eq]
  omega
theorem better_cost2 {a b : CostD} (ha : a.2.1 ≤ 60) (hb : b.2.1 ≤ 60) : decide (cost2 a ≤ cost2 b) = better a b := by
  unfold cost2 better
  rw [Bool.eq_iff_iff]
  simp only [Bool.or_eq_true, Bool.and_eq_true, decide_eq_true_eq]
  omega
/-- How many pieces. -/
def fewF (T : List CostD) (n : Nat) : Nat → Nat → Nat
  | 0, _ => 0
  | f + 1, i => if i < n then fewF T n f (i + max (costAt T i).2.2 1) + 1 else 0
theorem fewF_fuel (T : List CostD) (n : Nat) : ∀ f g i, n - i ≤ f → n - i ≤ g → fewF T n f i = fewF T n g i
  | 0, 0, i, _, _ => rfl
  | 0, g + 1, i, h, _ => by rw [fewF, fewF, if_neg (by omega)]
  | f + 1, 0, i, _, h => by rw [fewF, fewF, if_neg (by omega)]
  | f + 1, g + 1, i, h1, h2 => by
    rw [fewF, fewF]
    by_cases hi : i < n
    · rw [if_pos hi, if_pos hi, fewF_fuel T n f g _ (by omega) (by omega)]
    · rw [if_neg hi, if_neg hi]
def fewD (l : List EntD) (zs : List Int) : Nat := fewF (costT l zs zs.length) zs.length zs.length 0
def FewAt (T : List CostD) (n : Nat) (m i : Nat) : Prop := m + fewF T n (n - i) i = fewF T n n 0
theorem fewAt_zero (T : List CostD) (n : Nat) : FewAt T n 0 0 := by simp [FewAt]
theorem fewAt_next {T : List CostD} {n m i : Nat} (h : FewAt T n m i) (hi : i < n) : FewAt T n (m + 1) (i + max (costAt T i).2.2 1) := by
  unfold FewAt at h ⊢
  rw [← h, show n - i = (n - i - 1) + 1 by omega, fewF, if_pos hi, fewF_fuel T n (n - i - 1) (n - (i + max (costAt T i).2.2 1)) _ (by omega) (Nat.le_refl _)]
  omega
theorem fewAt_end {T : List CostD} {n m i : Nat} (h : FewAt T n m i) (hi : n ≤ i) : m = fewF T n n 0 := by
  unfold FewAt at h
  rw [show n - i = 0 by omega] at h
  simpa [fewF] using h
end Go.Proofs.YtekidodfcanjaaaGreatDoor
namespace Go.Proofs.YtekidodfcanjaaaGreatDoor
set_option linter.unusedVariables false

theorem cmpL_prefix (p x : List Int) : 0 ≤ cmpL (p ++ x) p := by
  induction p with
  | nil => cases x <;> simp [cmpL]
  | cons a p ih =>
    rw [List.cons_append, cmpL, if_neg (by omega), if_neg (by omega)]
    exact ih
/-- Two outlines that begin the same strokes: the later one is longer. -/
theorem begins_order {l : List EntD} (hv : dictB l = true) {zs : List Int} {i j : Nat} {a b : EntD} (hij : i < j) (ha : l[i]? = some a) (hb : l[j]? = some b) (h1 : beginsB zs a.1 = true) (h2 : beginsB zs b.1 = true) : a.1.length < b.1.length := by
  rcases Nat.lt_or_ge a.1.length b.1.length with h | h
  · exact h
  · obtain ⟨x, hx⟩ := begins_iff.1 h1
    obtain ⟨y, hy⟩ := begins_iff.1 h2
    have hc := dict_lt hv hij ha hb
    rcases comparable (hx.symm.trans hy) with ⟨z, h3, -⟩ | ⟨z, h3, -⟩
    · have := cmpL_prefix b.1 z
      rw [← h3] at this
      omega
    · have hz : z = [] := by
        have := congrArg List.length h3
        simp at this
        exact List.eq_nil_of_length_eq_zero (by omega)
      subst hz
      rw [List.append_nil] at h3
      rw [h3, cmpL_eq.2 rfl] at hc
      omega
theorem readF_le {l : List EntD} (hv : dictB l = true) : ∀ (f : Nat) (zs : List Int), (readF l f zs).length ≤ 2 ^ zs.length
  | 0, zs => by
    unfold readF
    split
    · simpa using Nat.one_le_two_pow
    · simp
  | f + 1, zs => by
    unfold readF
    split
    · simpa using Nat.one_le_two_pow
    · rw [List.length_flatMap]
      have key : ∀ k, k ≤ l.length → ∃ m, m ≤ zs.length ∧ (m = 0 ∨ ∃ (i : Nat) (a : EntD), i < k ∧ l[i]? = some a ∧ beginsB zs a.1 = true ∧ a.1.length = m) ∧
          ((List.range k).map fun k => (match l[k]? with | some c => if beginsB zs c.1 then (readF l f (zs.drop c.1.length)).map (k :: ·) else [] | none => []).length).sum + 2 ^ (zs.length - m) ≤ 2 ^ zs.length := by
        intro k
        induction k with
        | zero => intro _; exact ⟨0, by omega, .inl rfl, by simp⟩
        | succ k ih =>
          intro hk
          obtain ⟨m, h1, h2, h3⟩ := ih (by omega)
          obtain ⟨c, hc⟩ := some_at l (show k < l.length by omega)
          rw [sum_range_succ, hc]
          simp only
          cases hb : beginsB zs c.1 with
          | false =>
            refine ⟨m, h1, ?_, by simpa using h3⟩
            rcases h2 with h2 | ⟨i, a, h4, h5⟩
            · exact .inl h2
            · exact .inr ⟨i, a, by omega, h5⟩
          | true =>
            have hle : c.1.length ≤ zs.length := by
              obtain ⟨x, hx⟩ := begins_iff.1 hb
              rw [hx]; simp
            have hlt : m < c.1.length := by
              rcases h2 with h2 | ⟨i, a, h4, h5, h6, h7⟩
              · have := (dict_out hv hc).1
                omega
              · rw [← h7]
                exact begins_order hv h4 h5 hc h6 hb
            refine ⟨c.1.length, hle, .inr ⟨k, c, by omega, hc, hb, rfl⟩, ?_⟩
            simp only [if_true, List.length_map]
            have ih2 := readF_le hv f (zs.drop c.1.length)
            rw [List.length_drop] at ih2
            have h8 : 2 ^ (zs.length - c.1.length) + 2 ^ (zs.length - c.1.length) ≤ 2 ^ (zs.length - m) := by
              rw [← Nat.two_mul, ← Nat.pow_succ']
              exact Nat.pow_le_pow_right (by omega) (by omega)
            omega
      obtain ⟨m, h1, h2, h3⟩ := key l.length (Nat.le_refl _)
      exact Nat.le_trans (Nat.le_add_right _ _) h3
theorem dict_ne {l : List EntD} (hv : dictB l = true) : ∀ c ∈ l, c.1 ≠ [] := by
  intro c hc e
  obtain ⟨k, hk⟩ := List.mem_iff_getElem?.1 hc
  have := (dict_out hv hk).1
  rw [e] at this
  simp at this
def outsD (l : List EntD) : List (List Int) := l.map (·.1)
theorem outs_ne {l : List EntD} (hv : dictB l = true) : ∀ x ∈ outsD l, x ≠ [] := by
  intro x hx
  obtain ⟨c, hc, rfl⟩ := List.mem_map.1 hx
  exact dict_ne hv c hc
theorem wordsOf_mem {l : List EntD} {r : List Nat} (h : ∀ k ∈ r, k < l.length) : ∀ x ∈ wordsOf l r, x ∈ outsD l := by
  intro x hx
  obtain ⟨k, hk, rfl⟩ := List.mem_map.1 hx
  obtain ⟨c, hc⟩ := some_at l (h k hk)
  rw [hc]
  exact List.mem_map.2 ⟨c, List.mem_of_getElem? hc, rfl⟩
theorem of_words {l : List EntD} : ∀ (p : List (List Int)), (∀ x ∈ p, x ∈ outsD l) → ∃ r : List Nat, (∀ k ∈ r, k < l.length) ∧ wordsOf l r = p
  | [], _ => ⟨[], by simp, rfl⟩
  | x :: p, h => by
    obtain ⟨r, h1, h2⟩ := of_words p (fun y hy => h y (by simp [hy]))
    obtain ⟨c, hc, rfl⟩ := List.mem_map.1 (h x (by simp))
    obtain ⟨k, hk⟩ := List.mem_iff_getElem?.1 hc
    refine ⟨k :: r, fun j hj => ?_, by simp [wordsOf, hk] at h2 ⊢; exact h2⟩
    rcases List.mem_cons.1 hj with rfl | hj
    · exact (List.getElem?_eq_some_iff.1 hk).1
    · exact h1 j hj
/-- What the search finds has two readings. -/
theorem reach_two {l : List EntD} (hv : dictB l = true) {s : List Int} (h : Reach (outsD l) [] s) : 2 ≤ (readD l s).length := by
  obtain ⟨p, q, hp, hq, h1, h2, -, -, h3⟩ := reach_words h
  obtain ⟨r, hr, hrp⟩ := of_words p hp
  obtain ⟨t, ht, htq⟩ := of_words q hq
  have m1 : r ∈ readD l s := readF_all (dict_ne hv) _ _ _ (Nat.le_refl _) hr (by rw [hrp, h1])
  have m2 : t ∈ readD l s := readF_all (dict_ne hv) _ _ _ (Nat.le_refl _) ht (by rw [htq, ← h2, List.append_nil])
  have hne : r ≠ t := by
    intro e
    subst e
    rw [hrp] at htq
    exact h3 (by rw [htq])
  cases hc : readD l s with
  | nil => rw [hc] at m1; simp at m1
  | cons a L =>
    cases L with
    | nil =>
      rw [hc] at m1 m2
      simp at m1 m2
      exact absurd (m1.trans m2.symm) hne
    | cons b L => simp
/-- Where there are two readings, the search finds something no longer. -/
theorem two_search {l : List EntD} (hv : dictB l = true) {zs : List Int} (h : 2 ≤ (readD l zs).length) : ∃ s, Reach (outsD l) [] s ∧ s.length ≤ zs.length := by
  have hn := readF_nodup (l := l) zs.length zs
  cases hc : readD l zs with
  | nil => rw [hc] at h; simp at h
  | cons a L =>
    cases L with
    | nil => rw [hc] at h; simp at h
    | cons b L =>
      have hab : a ≠ b := by
        unfold readD at hc
        rw [hc] at hn
        intro e
        subst e
        simp at hn
      have ma := readF_mem zs.length zs a (by show a ∈ readD l zs; rw [hc]; simp)
      have mb := readF_mem zs.length zs b (by show b ∈ readD l zs; rw [hc]; simp)
      obtain ⟨s, h1, h2⟩ := two_reach (outs_ne hv) (wordsOf l a) (wordsOf l b) (wordsOf_mem ma.2) (wordsOf_mem mb.2) (ma.1.trans mb.1.symm) (fun e => hab (wordsOf_inj (fun i j x y hx hy he => dict_inj hv hx hy he) a b ma.2 mb.2 e))
      exact ⟨s, h1, by rw [ma.1] at h2; exact h2⟩
/-- Few strokes: few readings. -/
theorem numR_few {l : List EntD} (hv : dictB l = true) {zs : List Int} (h : zs.length ≤ 6) : numR l zs = (readD l zs).length ∧ (readD l zs).length ≤ 64 := by
  have h1 : (readD l zs).length ≤ 2 ^ zs.length := readF_le hv _ _
  have h2 : 2 ^ zs.length ≤ 2 ^ 6 := Nat.pow_le_pow_right (by omega) h
  unfold numR cap1
  omega
theorem numR_two {l : List EntD} {zs : List Int} : 2 ≤ numR l zs ↔ 2 ≤ (readD l zs).length := by
  unfold numR cap1
  omega
end Go.Proofs.YtekidodfcanjaaaGreatDoor
namespace Go.Proofs.YtekidodfcanjaaaGreatDoor
set_option linter.unusedVariables false

def dupG (l : List EntD) (t : ByteArray) : Nat → List Int
  | 0 => []
  | m + 1 => dupG l t m ++ (match l[m]? with | some c => if c.2 = t then [(m : Int)] else [] | none => [])
theorem dupG_yes {l : List EntD} {t : ByteArray} {m : Nat} {c : EntD} (hc : l[m]? = some c) (h : c.2 = t) : dupG l t (m + 1) = dupG l t m ++ [(m : Int)] := by simp [dupG, hc, h]
theorem dupG_no {l : List EntD} {t : ByteArray} {m : Nat} {c : EntD} (hc : l[m]? = some c) (h : ¬ c.2 = t) : dupG l t (m + 1) = dupG l t m := by simp [dupG, hc, h]
theorem dupG_len (l : List EntD) (t : ByteArray) : ∀ m, (dupG l t m).length ≤ m
  | 0 => by simp [dupG]
  | m + 1 => by
    have := dupG_len l t m
    unfold dupG
    rw [List.length_append]
    split
    · split <;> simp <;> omega
    · simp; omega
theorem dupG_lt (l : List EntD) (t : ByteArray) : ∀ m, ∀ j ∈ dupG l t m, 0 ≤ j ∧ j < (m : Int)
  | 0, j, h => by simp [dupG] at h
  | m + 1, j, h => by
    unfold dupG at h
    rcases List.mem_append.1 h with h | h
    · have := dupG_lt l t m j h; omega
    · split at h
      · split at h
        · simp at h; omega
        · simp at h
      · simp at h
theorem dupG_sorted (l : List EntD) (t : ByteArray) : ∀ m, (dupG l t m).Pairwise (· < ·)
  | 0 => by simp [dupG]
  | m + 1 => by
    unfold dupG
    rw [List.pairwise_append]
    refine ⟨dupG_sorted l t m, ?_, fun a ha b hb => ?_⟩
    · split
      · split <;> simp
      · simp
    · have h1 := dupG_lt l t m a ha
      split at hb
      · split at hb
        · simp at hb; omega
        · simp at hb
      · simp at hb
theorem dupG_mem {l : List EntD} {t : ByteArray} {i : Nat} {c : EntD} (hc : l[i]? = some c) (h : c.2 = t) : ∀ m, i < m → (i : Int) ∈ dupG l t m
  | 0, hm => by omega
  | m + 1, hm => by
    rcases Nat.lt_or_ge i m with h1 | h1
    · unfold dupG
      exact List.mem_append_left _ (dupG_mem hc h m h1)
    · obtain rfl : i = m := by omega
      rw [dupG_yes hc h]
      simp
/-- No entry before the i-th one is among them. -/
def firstB (l : List EntD) (t : ByteArray) (i m : Nat) : Bool := (dupG l t m).all fun j => decide ((i : Int) ≤ j)
theorem firstB_zero (l : List EntD) (t : ByteArray) (i : Nat) : firstB l t i 0 = true := rfl
theorem firstB_yes {l : List EntD} {t : ByteArray} {i m : Nat} {c : EntD} (hc : l[m]? = some c) (h : c.2 = t) : firstB l t i (m + 1) = (firstB l t i m && decide ((i : Int) ≤ (m : Int))) := by
  unfold firstB
  rw [dupG_yes hc h, List.all_append]
  simp
theorem firstB_no {l : List EntD} {t : ByteArray} {i m : Nat} {c : EntD} (hc : l[m]? = some c) (h : ¬ c.2 = t) : firstB l t i (m + 1) = firstB l t i m := by
  unfold firstB
  rw [dupG_no hc h]
def dupOk (l : List EntD) (t : ByteArray) (i : Nat) : Bool := firstB l t i l.length && decide (1 < (dupG l t l.length).length)
theorem first_head {l : List EntD} {t : ByteArray} {i : Nat} {c : EntD} (hc : l[i]? = some c) (h : c.2 = t) {x : Int} (hx : (dupG l t l.length)[0]? = some x) : firstB l t i l.length = decide (x = (i : Int)) := by
  have hi := dupG_mem hc h l.length (List.getElem?_eq_some_iff.1 hc).1
  have hs := dupG_sorted l t l.length
  unfold firstB
  cases hd : dupG l t l.length with
  | nil => rw [hd] at hi; simp at hi
  | cons a r =>
    rw [hd] at hx hi hs
    simp at hx
    subst hx
    rw [List.pairwise_cons] at hs
    rw [Bool.eq_iff_iff]
    simp only [List.all_eq_true, decide_eq_true_eq]
    constructor
    · intro hall
      have h1 := hall a (by simp)
      rcases List.mem_cons.1 hi with h2 | h2
      · exact h2.symm
      · have := hs.1 _ h2; omega
    · intro he j hj
      rcases List.mem_cons.1 hj with rfl | hj
      · omega
      · have := hs.1 _ hj; omega
def dupT (l : List EntD) : Nat → List (List Int)
  | 0 => []
  | k + 1 => dupT l k ++ (match l[k]? with | some c => if dupOk l c.2 k then [dupG l c.2 l.length] else [] | none => [])
theorem dupT_yes {l : List EntD} {k : Nat} {c : EntD} (hc : l[k]? = some c) (h : dupOk l c.2 k = true) : dupT l (k + 1) = dupT l k ++ [dupG l c.2 l.length] := by simp [dupT, hc, h]
theorem dupT_no {l : List EntD} {k : Nat} {c : EntD} (hc : l[k]? = some c) (h : dupOk l c.2 k = false) : dupT l (k + 1) = dupT l k := by simp [dupT, hc, h]
theorem dupT_len (l : List EntD) : ∀ k, (dupT l k).length ≤ k
  | 0 => by simp [dupT]
  | k + 1 => by
    have := dupT_len l k
    unfold dupT
    rw [List.length_append]
    split
    · split <;> simp <;> omega
    · simp; omega
theorem dupT_row (l : List EntD) : ∀ k, ∀ r ∈ dupT l k, r.length ≤ l.length
  | 0, r, h => by simp [dupT] at h
  | k + 1, r, h => by
    unfold dupT at h
    rcases List.mem_append.1 h with h | h
    · exact dupT_row l k r h
    · split at h
      · split at h
        · simp at h; subst h; exact dupG_len l _ _
        · simp at h
      · simp at h
def dupD (l : List EntD) : List (List Int) := if dictB l then dupT l l.length else []
theorem dupD_no {l : List EntD} (h : dictB l = false) : dupD l = [] := by simp [dupD, h]
theorem dupD_yes {l : List EntD} (h : dictB l = true) : dupD l = dupT l l.length := by simp [dupD, h]
theorem dupD_len (l : List EntD) : (dupD l).length ≤ 40 := by
  unfold dupD
  split
  · rename_i h
    exact Nat.le_trans (dupT_len l _) (dict_len h)
  · simp
theorem dupD_row (l : List EntD) : ∀ r ∈ dupD l, r.length ≤ 40 := by
  unfold dupD
  split
  · rename_i h
    exact fun r hr => Nat.le_trans (dupT_row l _ r hr) (dict_len h)
  · simp
end Go.Proofs.YtekidodfcanjaaaGreatDoor
