/-
  Slices of slices of int that a call owns: each row in a block of its own, no two in one.
-/
import Derived.Test.YthokekgdiebhjaaDoorInts
import Derived.Test.YthokekgdiebhjaaDoorBase
import Derived.StillTailTactics
import Derived.Deep.RegionHeld3
namespace Go.Proofs.YthokekgdiebhjaaDoor
open Go.RowKit
set_option linter.unusedVariables false
set_option maxRecDepth 100000

/-- Two rows of different types lie in different blocks. -/
theorem rows_apart {w : World} {b b' s s' n n' : Nat} {e e' : TypeId} {v v' : Value} {xs xs' : List Value} (h : w.ownsRow b e s v n xs) (h' : w.ownsRow b' e' s' v' n' xs') (he : e ≠ e') : ∀ g, v.ownBlock = some g → v'.ownBlock ≠ some g := by
  intro g hg hg'
  rcases h.2 with ⟨rfl, _⟩ | ⟨g1, cap, cur, rfl, _, hh, _⟩
  · simp [Value.ownBlock] at hg
  rcases h'.2 with ⟨rfl, _⟩ | ⟨g2, cap', cur', rfl, _, hh', _⟩
  · simp [Value.ownBlock] at hg'
  simp only [Value.ownBlock, Option.some.injEq] at hg hg'
  subst hg hg'
  rw [hh] at hh'
  injection hh' with hh'
  injection hh' with h1 h2
  exact he h2
theorem infos_int : (Tryd.prog.info? 31).map (fun i => (i.zero, i.size, i.bytes)) = some (some (.slice none 0 0), 1, 24) := by kernel_rfl

structure RowsAt (w : World) (lo : Nat) (vs : List Value) (rows : List (List Int)) : Prop where
  len : vs.length = rows.length
  row : ∀ (j : Nat) u r, vs[j]? = some u → rows[j]? = some r → w.ownsRow lo 3 1 u r.length (ints r)
  apart : ∀ (i j : Nat) u u', i ≠ j → vs[i]? = some u → vs[j]? = some u' → ∀ g, u.ownBlock = some g → u'.ownBlock ≠ some g
theorem RowsAt.nil (w : World) (lo : Nat) : RowsAt w lo [] [] := ⟨rfl, fun j u r h => by simp at h, fun i j u u' _ h => by simp at h⟩
theorem RowsAt.at_ {w : World} {lo : Nat} {vs : List Value} {rows : List (List Int)} (h : RowsAt w lo vs rows) {j : Nat} {r : List Int} (hr : rows[j]? = some r) : ∃ u, vs[j]? = some u ∧ w.ownsRow lo 3 1 u r.length (ints r) := by
  have hj := (List.getElem?_eq_some_iff.1 hr).1
  obtain ⟨u, hu⟩ := some_at vs (show j < vs.length by rw [h.len]; exact hj)
  exact ⟨u, hu, h.row j u r hu hr⟩
theorem RowsAt.below {w w' : World} {lo : Nat} {vs : List Value} {rows : List (List Int)} (h : RowsAt w lo vs rows) (hb : Below w.heap.size w w') : RowsAt w' lo vs rows :=
  ⟨h.len, fun j u r hu hr => row_below (h.row j u r hu hr) hb, h.apart⟩
theorem RowsAt.kept {w w' : World} {lo : Nat} {vs : List Value} {rows : List (List Int)} {row : Option Nat} (h : RowsAt w lo vs rows) (hg : w.grownBy w' row) (hne : ∀ u ∈ vs, u.ownBlock = none ∨ u.ownBlock ≠ row) : RowsAt w' lo vs rows :=
  ⟨h.len, fun j u r hu hr => (h.row j u r hu hr).kept hg (hne u (List.mem_of_getElem? hu)), h.apart⟩
/-- The rows lie in other blocks than the list of their heads. -/
theorem RowsAt.ne_outer {w : World} {lo b n : Nat} {vs : List Value} {rows : List (List Int)} (h : RowsAt w lo vs rows) {v : Value} {xs : List Value} (ho : w.ownsRow b 31 1 v n xs) : ∀ u ∈ vs, u.ownBlock = none ∨ u.ownBlock ≠ v.ownBlock := by
  intro u hu
  obtain ⟨j, hj⟩ := List.mem_iff_getElem?.1 hu
  obtain ⟨r, hr⟩ := some_at rows (show j < rows.length by rw [← h.len]; exact (List.getElem?_eq_some_iff.1 hj).1)
  have h1 := h.row j u r hj hr
  cases hb : u.ownBlock with
  | none => exact .inl rfl
  | some g => exact .inr fun h2 => rows_apart h1 ho (by decide) g hb h2.symm
theorem RowsAt.snoc {w : World} {lo : Nat} {vs : List Value} {rows : List (List Int)} (h : RowsAt w lo vs rows) {u : Value} {r : List Int} (hu : w.ownsRow lo 3 1 u r.length (ints r)) (hne : ∀ x ∈ vs, ∀ g, x.ownBlock = some g → u.ownBlock ≠ some g) : RowsAt w lo (vs ++ [u]) (rows ++ [r]) := by
  refine ⟨by simp [h.len], fun j x y hx hy => ?_, fun i j x y hij hx hy g hg => ?_⟩
  · rcases Nat.lt_trichotomy j vs.length with hj | hj | hj
    · rw [List.getElem?_append_left hj] at hx
      rw [List.getElem?_append_left (by rw [← h.len]; exact hj)] at hy
      exact h.row j x y hx hy
    · subst hj
      rw [List.getElem?_append_right (Nat.le_refl _)] at hx
      rw [List.getElem?_append_right (by rw [h.len]; exact Nat.le_refl _)] at hy
      simp [h.len] at hx hy
      subst hx hy
      exact hu
    · rw [List.getElem?_eq_none (by simp; omega)] at hx
      cases hx
  · have hn : ∀ (k : Nat) z, (vs ++ [u])[k]? = some z → k < vs.length ∧ vs[k]? = some z ∨ k = vs.length ∧ z = u := by
      intro k z hz
      rcases Nat.lt_trichotomy k vs.length with hk | hk | hk
      · rw [List.getElem?_append_left hk] at hz
        exact .inl ⟨hk, hz⟩
      · subst hk
        rw [List.getElem?_append_right (Nat.le_refl _)] at hz
        simp at hz
        exact .inr ⟨rfl, hz.symm⟩
      · rw [List.getElem?_eq_none (by simp; omega)] at hz
        cases hz
    rcases hn i x hx with ⟨hi, hx'⟩ | ⟨hi, rfl⟩
    · rcases hn j y hy with ⟨hj, hy'⟩ | ⟨hj, rfl⟩
      · exact h.apart i j x y hij hx' hy' g hg
      · exact hne x (List.mem_of_getElem? hx') g hg
    · rcases hn j y hy with ⟨hj, hy'⟩ | ⟨hj, rfl⟩
      · intro hg'
        exact hne y (List.mem_of_getElem? hy') g hg' hg
      · omega

/-- A slice of slices of the call's own, in blocks of [lo, hi). -/
def OwnSS (w : World) (lo hi : Nat) (v : Value) (rows : List (List Int)) : Prop :=
  ∃ vs, Own w lo hi 31 1 v rows.length vs ∧ RowsAt w lo vs rows ∧ (∀ u ∈ vs, ∀ g, u.ownBlock = some g → g < hi)
theorem OwnSS.none_ (w : World) (lo hi : Nat) : OwnSS w lo hi (.slice none 0 0) [] := ⟨[], Own.none_, RowsAt.nil _ _, fun _ h => by cases h⟩
theorem OwnSS.below {w w' : World} {lo hi : Nat} {v : Value} {rows : List (List Int)} (h : OwnSS w lo hi v rows) (hb : Below w.heap.size w w') : OwnSS w' lo hi v rows := by
  obtain ⟨vs, h1, h2, h3⟩ := h
  exact ⟨vs, h1.below hb, h2.below hb, h3⟩
theorem RowsAt.lt {w : World} {lo : Nat} {vs : List Value} {rows : List (List Int)} (h : RowsAt w lo vs rows) : ∀ u ∈ vs, ∀ g, u.ownBlock = some g → lo ≤ g ∧ g < w.heap.size := by
  intro u hu g hg
  obtain ⟨j, hj⟩ := List.mem_iff_getElem?.1 hu
  obtain ⟨r, hr⟩ := some_at rows (show j < rows.length by rw [← h.len]; exact (List.getElem?_eq_some_iff.1 hj).1)
  exact (h.row j u r hj hr).lt g hg
theorem OwnSS.of_rows {w : World} {lo : Nat} {v : Value} {vs : List Value} {rows : List (List Int)} (h : w.ownsRow lo 31 1 v rows.length vs) (hr : RowsAt w lo vs rows) : OwnSS w lo w.heap.size v rows :=
  ⟨vs, Own.of_row h, hr, fun u hu g hg => (hr.lt u hu g hg).2⟩
theorem OwnSS.only {w w' : World} {lo hi lo' hi' : Nat} {v : Value} {rows : List (List Int)} (h : OwnSS w lo hi v rows) (ho : Only lo' hi' w w') (hd : hi ≤ lo' ∨ hi' ≤ lo) : OwnSS w' lo hi v rows := by
  obtain ⟨vs, h1, h2, h3⟩ := h
  refine ⟨vs, h1.only ho hd, ⟨h2.len, fun j u r hu hr => ?_, h2.apart⟩, h3⟩
  exact ownsRow_only (h2.row j u r hu hr) ho (fun g hg => by
    have k1 := h3 u (List.mem_of_getElem? hu) g hg
    have k2 := ((h2.row j u r hu hr).lt g hg).1
    omega)
theorem OwnSS.slice {w : World} {lo hi : Nat} {v : Value} {rows : List (List Int)} (h : OwnSS w lo hi v rows) : ∃ A cap, v = .slice A rows.length cap ∧ cap ≤ maxLen ∧ rows.length ≤ cap := by
  obtain ⟨vs, h1, -, -⟩ := h
  obtain ⟨A, cap, hv, -, h2, h3⟩ := h1.slice
  exact ⟨A, cap, hv, h3, h2⟩

theorem pair_step {w wx w1 : World} {p q : Addr} {u v : Value} (hp : p.block < w.heap.size) (hq : q.block < w.heap.size) (h : wx.cell? p = some u ∧ wx.cell? q = some v ∧ Below w.heap.size w wx) (hb : Below wx.heap.size wx w1) :
    w1.cell? p = some u ∧ w1.cell? q = some v ∧ Below w.heap.size w w1 :=
  ⟨(hb.cell (Nat.lt_of_lt_of_le hp h.2.2.size)).trans h.1, (hb.cell (Nat.lt_of_lt_of_le hq h.2.2.size)).trans h.2.1, h.2.2.trans (hb.mono h.2.2.size)⟩
theorem pair_drew {w wx : World} {p q : Addr} {u v : Value} (h : wx.cell? p = some u ∧ wx.cell? q = some v ∧ Below w.heap.size w wx) : wx.drew.cell? p = some u ∧ wx.drew.cell? q = some v ∧ Below w.heap.size w wx.drew := ⟨h.1, h.2.1, h.2.2.drew⟩

end Go.Proofs.YthokekgdiebhjaaDoor
