/-
  A slice of structs of one-cell fields that came in, opened to its cells. No program is named here.
-/
import Derived.Test.YtkclolejoijelaaDoorOwn
import Derived.Deep.Slices
import Derived.Deep.Fields
namespace Go.Proofs.YtkclolejoijelaaDoor
open Go.ChangeShapes Go.WideShapes Go.Deep
set_option linter.unusedVariables false

section
variable {H : Type} {enc : TypeId × Value → H} {P : Program} {w : World}
/-- The fields of one struct value. -/
theorem fields_of {e : TypeId} {fs : Array Field} {fuel : Nat} {cs : List Value} {x : DataW H × List MemPlace} (he : P.underlying e = some (.struct fs)) (hone : oneCellFields P fs = true) (hC : P.cellsOf e = fs.size)
    (h : DataW.trod enc P w 0 (fun _ => true) true fuel e cs = some x) :
    cs.length = fs.size ∧ ∀ (j : Nat) (f : Field), fs[j]? = some f → ∃ v k y, cs[j]? = some v ∧ DataW.trod enc P w 0 (fun _ => true) true k f.type [v] = some y := by
  obtain ⟨ys, n, _, _, hlen, hyl, hf⟩ := DataW.trod_struct he h
  refine ⟨hlen.trans hC, fun j f hj => ?_⟩
  obtain ⟨ho, hk⟩ := hone_of hone j f hj
  have hjl : j < fs.size := (Array.getElem?_eq_some_iff.1 hj).1
  have hjc : j < cs.length := by omega
  have h1 := hf j f hj
  rw [ho, hk, List.drop_eq_getElem_cons hjc] at h1
  exact ⟨cs[j], n, _, List.getElem?_eq_getElem hjc, h1.trans (List.getElem?_eq_getElem (by omega))⟩

/-- Every field of every element. -/
theorem slice_fields {t e : TypeId} {fs : Array Field} {A : Option Addr} {n cap : Nat} {d : DataW H} {ps : List MemPlace} (ht : P.underlying t = some (.slice e)) (he : P.underlying e = some (.struct fs))
    (hone : oneCellFields P fs = true) (hC : P.cellsOf e = fs.size) (h : DataW.Trod enc P w 0 (fun _ => true) true t (.slice A n cap) d ps) :
    (A = none ∧ n = 0 ∧ cap = 0) ∨ ∃ a, A = some a ∧ n ≤ cap ∧ cap ≤ maxLen ∧
      ∀ i, i < n → ∀ (j : Nat) (f : Field), fs[j]? = some f → ∃ v k y, w.cell? (a.add (i * fs.size + j)) = some v ∧ DataW.trod enc P w 0 (fun _ => true) true k f.type [v] = some y := by
  obtain ⟨fuel, hf⟩ := h
  rcases open_slice ht hf with ⟨hcs, _⟩ | ⟨a, len, cap', m, k, D, Pl, hcs, _, hl, hm, hmm, _, hi⟩
  · simp [Value.cells] at hcs
    exact .inl hcs
  · simp [Value.cells] at hcs
    obtain ⟨rfl, rfl, rfl⟩ := hcs
    refine .inr ⟨a, rfl, hl, hm, fun i hin j f hj => ?_⟩
    obtain ⟨cs', hc, ht'⟩ := hi i (by rw [hmm]; split <;> omega)
    obtain ⟨_, hfl⟩ := fields_of he hone hC ht'
    obtain ⟨v, k', y, hv, hy⟩ := hfl j f hj
    obtain ⟨_, _, hat⟩ := World.cells?_some hc
    have hjl : j < fs.size := (Array.getElem?_eq_some_iff.1 hj).1
    rw [hC] at hat
    exact ⟨v, k', y, by rw [← add_of_add, hat j hjl, hv], hy⟩

/-- Every field of every element, from the slice's cell. -/
theorem slice_fieldsC {t e : TypeId} {fs : Array Field} {fuel : Nat} {v : Value} {y : DataW H × List MemPlace} (ht : P.underlying t = some (.slice e)) (he : P.underlying e = some (.struct fs))
    (hone : oneCellFields P fs = true) (hC : P.cellsOf e = fs.size) (hf : DataW.trod enc P w 0 (fun _ => true) true fuel t [v] = some y) :
    v = .slice none 0 0 ∨ ∃ a n cap, v = .slice (some a) n cap ∧ n ≤ cap ∧ cap ≤ maxLen ∧
      ∀ i, i < n → ∀ (j : Nat) (f : Field), fs[j]? = some f → ∃ v k y, w.cell? (a.add (i * fs.size + j)) = some v ∧ DataW.trod enc P w 0 (fun _ => true) true k f.type [v] = some y := by
  rcases open_slice ht hf with ⟨hcs, _⟩ | ⟨a, len, cap', m, k, D, Pl, hcs, _, hl, hm, hmm, _, hi⟩
  · simp only [List.cons.injEq, and_true] at hcs
    exact .inl hcs
  · simp only [List.cons.injEq, and_true] at hcs
    refine .inr ⟨a, len, cap', hcs, hl, hm, fun i hin j f hj => ?_⟩
    obtain ⟨cs', hc, ht'⟩ := hi i (by rw [hmm]; split <;> omega)
    obtain ⟨_, hfl⟩ := fields_of he hone hC ht'
    obtain ⟨v, k', y, hv, hy⟩ := hfl j f hj
    obtain ⟨_, _, hat⟩ := World.cells?_some hc
    have hjl : j < fs.size := (Array.getElem?_eq_some_iff.1 hj).1
    rw [hC] at hat
    exact ⟨v, k', y, by rw [← add_of_add, hat j hjl, hv], hy⟩
/-- A struct of one field of one cell, by value. -/
theorem open_agg1 {b0 : Nat} {r : Reach} {t : TypeId} {f0 : Field} {v : Value} {d : DataW H} {p : List MemPlace} (hs : P.underlying t = some (.struct #[f0])) (hone : oneCellFields P #[f0] = true) (hC : P.cellsOf t = 1)
    (hv : Value.okWide P w r b0 t v) (h : DataW.Trod enc P w 0 (fun _ => true) true t v d p) : ∃ v0 n y0, v = .agg #[v0] ∧ DataW.trod enc P w 0 (fun _ => true) true n f0.type [v0] = some y0 := by
  obtain ⟨cs, rfl, hsz⟩ := okWide_struct hs hv
  obtain ⟨fuel, hf⟩ := h
  obtain ⟨_, hfl⟩ := fields_of hs hone (by simpa using hC) hf
  obtain ⟨v0, k, y, hv0, hy⟩ := hfl 0 f0 rfl
  obtain ⟨l⟩ := cs
  have hl : l.length = 1 := by simpa [hC] using hsz
  obtain ⟨x, rfl⟩ := List.length_eq_one_iff.1 hl
  simp [Value.cells] at hv0
  subst hv0
  exact ⟨_, k, y, rfl, hy⟩

/-- An address at which a cell lies is a plain one. -/
theorem plain_at {a : Addr} {i : Nat} {v : Value} (h : w.cell? (a.add i) = some v) : ∃ b off, a.add i = ⟨b, off + i, none⟩ ∧ (i = 0 → a = ⟨b, off, none⟩) ∧ b = a.block ∧ off = a.off := by
  obtain ⟨b, off, spot⟩ := a
  by_cases hi : i = 0
  · subst hi
    have hs : spot = none := by simpa [Addr.add] using World.cell?_spot h
    subst hs
    exact ⟨b, off, by simp [Addr.add], fun _ => rfl, rfl, rfl⟩
  · exact ⟨b, off, by simp [Addr.add, hi], fun h => absurd h hi, rfl, rfl⟩
theorem list_of_fun {α : Type} (n : Nat) (p : Nat → α → Prop) (h : ∀ i, i < n → ∃ x, p i x) : ∃ l : List α, l.length = n ∧ ∀ i x, l[i]? = some x → p i x := by
  induction n with
  | zero => exact ⟨[], rfl, fun i x hx => by simp at hx⟩
  | succ n ih =>
    obtain ⟨l, hl, hp⟩ := ih fun i hi => h i (by omega)
    obtain ⟨x, hx⟩ := h n (by omega)
    refine ⟨l ++ [x], by simp [hl], fun i y hy => ?_⟩
    rcases Nat.lt_or_ge i l.length with h' | h'
    · rw [List.getElem?_append_left h'] at hy
      exact hp i y hy
    · rw [List.getElem?_append_right h'] at hy
      have h0 : i - l.length = 0 := by
        rcases Nat.eq_zero_or_pos (i - l.length) with h1 | h1
        · exact h1
        · rw [List.getElem?_eq_none (by simp; omega)] at hy; cases hy
      rw [h0] at hy
      have hi : i = n := by omega
      subst hi
      simp at hy
      exact hy ▸ hx
end
end Go.Proofs.YtkclolejoijelaaDoor
