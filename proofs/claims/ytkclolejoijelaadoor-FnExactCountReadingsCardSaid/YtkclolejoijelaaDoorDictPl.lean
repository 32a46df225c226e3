/-
  Outlines, translations, entries and dictionaries as plain values; how a dictionary lies in memory. No statement is named here.
-/
import Derived.Test.YtkclolejoijelaaDoorAtomPl
import Derived.Test.YtkclolejoijelaaDoorStrokes
namespace Go.Proofs.YtkclolejoijelaaDoor
open Go.RowKit
set_option linter.unusedVariables false

/-! ### Comparing outlines -/
def cmpL : List Int → List Int → Int
  | [], [] => 0
  | [], _ :: _ => -1
  | _ :: _, [] => 1
  | a :: ar, b :: bs => if a < b then -1 else if b < a then 1 else cmpL ar bs
theorem cmpL_nil (xs : List Int) (h : 0 < xs.length) : cmpL [] xs = -1 := by
  cases xs with
  | nil => simp at h
  | cons a ar => rfl
theorem cmpL_nil' (xs : List Int) (h : 0 < xs.length) : cmpL xs [] = 1 := by
  cases xs with
  | nil => simp at h
  | cons a ar => rfl
theorem drop_at {xs : List Int} {k : Nat} {x : Int} (h : xs[k]? = some x) : xs.drop k = x :: xs.drop (k + 1) := by
  obtain ⟨hk, rfl⟩ := List.getElem?_eq_some_iff.1 h
  exact List.drop_eq_getElem_cons hk
theorem cmp_lt {xs ys : List Int} {k : Nat} {x y : Int} (hx : xs[k]? = some x) (hy : ys[k]? = some y) (h : x < y) : cmpL (xs.drop k) (ys.drop k) = -1 := by
  rw [drop_at hx, drop_at hy, cmpL, if_pos h]
theorem cmp_gt {xs ys : List Int} {k : Nat} {x y : Int} (hx : xs[k]? = some x) (hy : ys[k]? = some y) (h : y < x) : cmpL (xs.drop k) (ys.drop k) = 1 := by
  rw [drop_at hx, drop_at hy, cmpL, if_neg (by omega), if_pos h]
theorem cmp_eq {xs ys : List Int} {k : Nat} {x y : Int} (hx : xs[k]? = some x) (hy : ys[k]? = some y) (h : x = y) : cmpL (xs.drop k) (ys.drop k) = cmpL (xs.drop (k + 1)) (ys.drop (k + 1)) := by
  rw [drop_at hx, drop_at hy, cmpL, if_neg (by omega), if_neg (by omega)]
theorem cmp_end {xs ys : List Int} {k : Nat} (hx : xs.length = k) (hy : ys.length = k) : cmpL (xs.drop k) (ys.drop k) = 0 := by
  rw [List.drop_eq_nil_of_le (by omega), List.drop_eq_nil_of_le (by omega)]; rfl
theorem cmp_short {xs ys : List Int} {k : Nat} (hx : xs.length = k) (hy : k < ys.length) : cmpL (xs.drop k) (ys.drop k) = -1 := by
  rw [show xs.drop k = [] from List.drop_eq_nil_of_le (by omega)]; exact cmpL_nil _ (by simp; omega)
theorem cmp_long {xs ys : List Int} {k : Nat} (hx : k < xs.length) (hy : ys.length = k) : cmpL (xs.drop k) (ys.drop k) = 1 := by
  rw [show ys.drop k = [] from List.drop_eq_nil_of_le (by omega)]; exact cmpL_nil' _ (by simp; omega)
theorem cmpL_three (xs ys : List Int) : cmpL xs ys = -1 ∨ cmpL xs ys = 0 ∨ cmpL xs ys = 1 := by
  induction xs generalizing ys with
  | nil => cases ys <;> simp [cmpL]
  | cons a ar ih =>
    cases ys with
    | nil => simp [cmpL]
    | cons b bs =>
      unfold cmpL
      split
      · exact .inl rfl
      split
      · exact .inr (.inr rfl)
      · exact ih bs
theorem cmpL_eq {xs ys : List Int} : cmpL xs ys = 0 ↔ xs = ys := by
  induction xs generalizing ys with
  | nil => cases ys <;> simp [cmpL]
  | cons a ar ih =>
    cases ys with
    | nil => simp [cmpL]
    | cons b bs =>
      unfold cmpL
      split
      · simp; intro h; omega
      split
      · simp; intro h; omega
      · rw [ih]
        have : a = b := by omega
        simp [this]
theorem cmpL_trans {xs ys zs : List Int} (h1 : cmpL xs ys < 0) (h2 : cmpL ys zs < 0) : cmpL xs zs < 0 := by
  induction xs generalizing ys zs with
  | nil =>
    cases zs with
    | nil => cases ys <;> simp [cmpL] at h2
    | cons c cr => simp [cmpL]
  | cons a ar ih =>
    cases ys with
    | nil => simp [cmpL] at h1
    | cons b bs =>
      cases zs with
      | nil => simp [cmpL] at h2
      | cons c cr =>
        unfold cmpL at h1 h2 ⊢
        split at h1
        · split at h2
          · rw [if_pos (by omega)]; omega
          · split at h2
            · omega
            · rw [if_pos (by omega)]; omega
        · split at h1
          · omega
          · split at h2
            · rw [if_pos (by omega)]; omega
            · split at h2
              · omega
              · rw [if_neg (by omega), if_neg (by omega)]
                exact ih h1 h2

/-! ### Validity -/
def outB (o : List Int) : Bool := inB o.length 1 6 && goodB o
theorem out_len {o : List Int} (h : outB o = true) : 1 ≤ o.length ∧ o.length ≤ 6 := by
  simp only [outB, Bool.and_eq_true] at h
  have := inB_iff.1 h.1
  omega
theorem out_good {o : List Int} (h : outB o = true) : goodB o = true := by
  simp only [outB, Bool.and_eq_true] at h
  exact h.2
def atomB (s : ByteArray) : Bool := atomL s.data.toList
def tranB (s : ByteArray) : Bool := decide (s.size ≤ 60) && (decide ((partsV 32 s).length ≤ 10) && (partsV 32 s).all atomB)
theorem tran_some {s : ByteArray} (h : tranB s = true) : 0 < s.size := by
  rcases Nat.eq_zero_or_pos s.size with h0 | h0
  · have he : s = ⟨#[]⟩ := ByteArray.ext (Array.eq_empty_of_size_eq_zero h0)
    subst he
    have : tranB ⟨#[]⟩ = false := by decide +kernel
    rw [this] at h
    cases h
  · exact h0
theorem tran_len {s : ByteArray} (h : tranB s = true) : s.size ≤ 60 := by
  simp only [tranB, Bool.and_eq_true, decide_eq_true_eq] at h
  exact h.1
theorem tran_no {s : ByteArray} {k : Nat} {x : ByteArray} (h : (partsV 32 s)[k]? = some x) (hx : atomB x = false) : tranB s = false := by
  cases ht : tranB s with
  | false => rfl
  | true =>
    simp only [tranB, Bool.and_eq_true, List.all_eq_true] at ht
    rw [ht.2.2 x (List.mem_of_getElem? h)] at hx
    cases hx
theorem tran_yes {s : ByteArray} (h60 : s.size ≤ 60) (h : ∀ (j : Nat) x, (partsV 32 s)[j]? = some x → atomB x = true) : tranB s = decide ((partsV 32 s).length ≤ 10) := by
  have ha : (partsV 32 s).all atomB = true := by
    rw [List.all_eq_true]
    intro x hx
    obtain ⟨j, hj⟩ := List.mem_iff_getElem?.1 hx
    exact h j x hj
  simp [tranB, ha, h60]

abbrev EntD := List Int × ByteArray
def entB (c : EntD) : Bool := outB c.1 && tranB c.2
def ordB (l : List EntD) (k : Nat) : Bool := match l[k]?, l[k + 1]? with | some a, some b => decide (cmpL a.1 b.1 < 0) | _, _ => true
def risingB (l : List EntD) : Bool := (List.range l.length).all (ordB l)
def dictB (l : List EntD) : Bool := decide (l.length ≤ 40) && (l.all entB && risingB l)
theorem rising_at {l : List EntD} {k : Nat} {a b : EntD} (h : risingB l = true) (ha : l[k]? = some a) (hb : l[k + 1]? = some b) : cmpL a.1 b.1 < 0 := by
  have := List.all_eq_true.1 h k (by simp; have := (List.getElem?_eq_some_iff.1 ha).1; omega)
  simpa [ordB, ha, hb] using this
theorem dict_no_ent {l : List EntD} {k : Nat} {c : EntD} (h : l[k]? = some c) (hc : entB c = false) : dictB l = false := by
  cases hd : dictB l with
  | false => rfl
  | true =>
    simp only [dictB, Bool.and_eq_true, List.all_eq_true] at hd
    rw [hd.2.1 c (List.mem_of_getElem? h)] at hc
    cases hc
theorem dict_no_ord {l : List EntD} {k : Nat} {a b : EntD} (ha : l[k]? = some a) (hb : l[k + 1]? = some b) (h : ¬ cmpL a.1 b.1 < 0) : dictB l = false := by
  cases hd : dictB l with
  | false => rfl
  | true =>
    simp only [dictB, Bool.and_eq_true] at hd
    exact absurd (rising_at hd.2.2 ha hb) h
theorem dict_no_len {l : List EntD} (h : ¬ l.length ≤ 40) : dictB l = false := by simp [dictB, h]
theorem dict_yes {l : List EntD} (h40 : l.length ≤ 40) (h : ∀ (j : Nat) c, l[j]? = some c → entB c = true) (ho : ∀ (j : Nat) a b, l[j]? = some a → l[j + 1]? = some b → cmpL a.1 b.1 < 0) : dictB l = true := by
  have h1 : l.all entB = true := by
    rw [List.all_eq_true]
    intro c hc
    obtain ⟨j, hj⟩ := List.mem_iff_getElem?.1 hc
    exact h j c hj
  have h2 : risingB l = true := by
    unfold risingB
    rw [List.all_eq_true]
    intro k hk
    unfold ordB
    split
    · rename_i a b ha hb
      exact decide_eq_true (ho k a b ha hb)
    · rfl
  simp [dictB, h1, h2, h40]
theorem dict_len {l : List EntD} (h : dictB l = true) : l.length ≤ 40 := by
  simp only [dictB, Bool.and_eq_true, decide_eq_true_eq] at h
  exact h.1
theorem dict_ent {l : List EntD} (h : dictB l = true) {k : Nat} {c : EntD} (hc : l[k]? = some c) : entB c = true := by
  simp only [dictB, Bool.and_eq_true, List.all_eq_true] at h
  exact h.2.1 c (List.mem_of_getElem? hc)
theorem ent_parts {c : EntD} (h : entB c = true) : outB c.1 = true ∧ tranB c.2 = true := by
  simpa [entB] using h
theorem dict_out {l : List EntD} (h : dictB l = true) {k : Nat} {c : EntD} (hc : l[k]? = some c) : 1 ≤ c.1.length ∧ c.1.length ≤ 6 := out_len (ent_parts (dict_ent h hc)).1
theorem dict_text {l : List EntD} (h : dictB l = true) {k : Nat} {c : EntD} (hc : l[k]? = some c) : 0 < c.2.size ∧ c.2.size ≤ 60 := ⟨tran_some (ent_parts (dict_ent h hc)).2, tran_len (ent_parts (dict_ent h hc)).2⟩
theorem dict_lt {l : List EntD} (h : dictB l = true) {i j : Nat} {a b : EntD} (hij : i < j) (ha : l[i]? = some a) (hb : l[j]? = some b) : cmpL a.1 b.1 < 0 := by
  have hr : risingB l = true := by simp only [dictB, Bool.and_eq_true] at h; exact h.2.2
  induction j generalizing b with
  | zero => omega
  | succ j ih =>
    rcases Nat.lt_or_ge i j with h1 | h1
    · obtain ⟨c, hc⟩ := some_at l (show j < l.length by have := (List.getElem?_eq_some_iff.1 hb).1; omega)
      exact cmpL_trans (ih h1 hc) (rising_at hr hc hb)
    · obtain rfl : i = j := by omega
      exact rising_at hr ha hb
/-- No outline twice. -/
theorem dict_inj {l : List EntD} (h : dictB l = true) {i j : Nat} {a b : EntD} (ha : l[i]? = some a) (hb : l[j]? = some b) (he : a.1 = b.1) : i = j := by
  rcases Nat.lt_trichotomy i j with h1 | h1 | h1
  · have := dict_lt h h1 ha hb
    rw [cmpL_eq.2 he] at this
    omega
  · exact h1
  · have := dict_lt h h1 hb ha
    rw [cmpL_eq.2 he.symm] at this
    omega

/-! ### In memory -/
/-- The slice at A holds the entries l, all of it below block B. -/
def DictR (w : World) (B : Nat) (A : Option Addr) (l : List EntD) : Prop :=
  0 < l.length → ∃ b off, A = some ⟨b, off, none⟩ ∧ b < B ∧ ∀ (j : Nat) c, l[j]? = some c → ∃ (a : Option Addr) (cap : Nat),
    w.cell? ⟨b, off + j * 2, none⟩ = some (.slice a c.1.length cap) ∧ w.cell? ⟨b, off + j * 2 + 1, none⟩ = some (.string c.2) ∧ Reads w B 1 a c.1.length (ints c.1) ∧ c.1.length ≤ cap ∧ cap ≤ maxLen
section
variable {w w' : World} {B B' : Nat} {A : Option Addr} {l : List EntD}
theorem DictR.keep (h : DictR w B A l) (hk : ∀ p : Addr, p.block < B → w'.cell? p = w.cell? p) : DictR w' B A l := fun hn => by
  obtain ⟨b, off, e, hb, hc⟩ := h hn
  refine ⟨b, off, e, hb, fun j c hj => ?_⟩
  obtain ⟨a, cap, h1, h2, h3, h4, h5⟩ := hc j c hj
  exact ⟨a, cap, (hk _ hb).trans h1, (hk _ hb).trans h2, h3.keep hk, h4, h5⟩
theorem DictR.more (h : DictR w B A l) (hB : B ≤ B') : DictR w B' A l := fun hn => by
  obtain ⟨b, off, e, hb, hc⟩ := h hn
  refine ⟨b, off, e, by omega, fun j c hj => ?_⟩
  obtain ⟨a, cap, h1, h2, h3, h4, h5⟩ := hc j c hj
  exact ⟨a, cap, h1, h2, h3.more hB, h4, h5⟩
theorem DictR.below (h : DictR w B A l) (hb : Below B w w') : DictR w' B A l := h.keep fun _ hp => hb.cell hp
theorem DictR.far (h : DictR w w.heap.size A l) (hb : Below w.heap.size w w') : DictR w' w'.heap.size A l := (h.below hb).more hb.size
theorem DictR.drewN (h : DictR w B A l) (k : Nat) : DictR (w.drewN k) B A l := h
theorem DictR.alloc (h : DictR w B A l) (hB : B ≤ w.heap.size) (o : Obj) : DictR (w.alloc o) B A l := h.keep fun p hp => World.cell?_alloc_lt w o p (by omega)
end
end Go.Proofs.YtkclolejoijelaaDoor
