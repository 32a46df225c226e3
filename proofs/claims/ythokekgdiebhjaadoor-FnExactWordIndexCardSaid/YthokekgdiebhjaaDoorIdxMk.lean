/-
  The law's marks in an index: put in and read again.
-/
import Derived.Test.YthokekgdiebhjaaDoorIdxEq
import Derived.Test.YthokekgdiebhjaaDoorIdxS
import Derived.Test.YthokekgdiebhjaaDoorRowsMark
import Derived.Test.YthokekgdiebhjaaDoorMarkText
namespace Go.Proofs.YthokekgdiebhjaaDoor
open Go.RowKit
set_option linter.unusedVariables false
set_option linter.unusedSimpArgs false
set_option maxRecDepth 100000

def totI (L : List IdxD) : Nat := (L.map fun c => c.2.length + 1).sum
theorem totI_take {L : List IdxD} {k : Nat} {c : IdxD} (h : L[k]? = some c) : totI (L.take (k + 1)) = totI (L.take k) + (c.2.length + 1) := by
  rw [List.take_add_one, h]
  simp [totI]
theorem totI_take_le (L : List IdxD) (j : Nat) : totI (L.take j) ≤ totI L := by
  have h : totI L = totI (L.take j) + totI (L.drop j) := by
    unfold totI
    rw [← List.sum_append, ← List.map_append, List.take_append_drop]
  omega
def markI : Nat → List IdxD → List IdxD
  | _, [] => []
  | k, c :: L => (mtext k, marks ((k + 1 : Nat) : Int) c.2.length) :: markI (k + (c.2.length + 1)) L
theorem markI_length : ∀ (k : Nat) (L : List IdxD), (markI k L).length = L.length
  | _, [] => rfl
  | k, c :: L => by simp [markI, markI_length]
theorem markI_at : ∀ (k : Nat) (L : List IdxD) (j : Nat) (c : IdxD), L[j]? = some c → (markI k L)[j]? = some (mtext (k + totI (L.take j)), marks ((k + totI (L.take j) + 1 : Nat) : Int) c.2.length)
  | k, [], j, c, h => by simp at h
  | k, d :: L, 0, c, h => by
    simp only [List.getElem?_cons_zero, Option.some.injEq] at h
    subst h
    simp [markI, totI]
  | k, d :: L, j + 1, c, h => by
    rw [List.getElem?_cons_succ] at h
    have := markI_at (k + (d.2.length + 1)) L j c h
    have e : k + (d.2.length + 1) + totI (L.take j) = k + totI ((d :: L).take (j + 1)) := by simp [totI]; omega
    rw [e] at this
    rw [markI, List.getElem?_cons_succ]
    exact this
def midI (k : Nat) (L : List IdxD) (j : Nat) : List IdxD := (markI k L).take j ++ L.drop j
theorem midI_zero (k : Nat) (L : List IdxD) : midI k L 0 = L := by simp [midI]
theorem midI_all (k : Nat) (L : List IdxD) : midI k L L.length = markI k L := by
  unfold midI
  rw [List.take_of_length_le (by rw [markI_length]; exact Nat.le_refl _)]
  simp
theorem midI_length (k : Nat) (L : List IdxD) {j : Nat} (h : j ≤ L.length) : (midI k L j).length = L.length := by simp [midI, markI_length]; omega
theorem midI_at {k : Nat} {L : List IdxD} {j : Nat} {c : IdxD} (h : L[j]? = some c) : (midI k L j)[j]? = some c := by
  have hj := (List.getElem?_eq_some_iff.1 h).1
  unfold midI
  rw [List.getElem?_append_right (by simp; omega)]
  simp only [List.length_take, markI_length, List.getElem?_drop]
  rw [show j + (j - min j L.length) = j by omega]
  exact h
theorem midI_set {k : Nat} {L : List IdxD} {j : Nat} {c : IdxD} (h : L[j]? = some c) : (midI k L j).set j (mtext (k + totI (L.take j)), marks ((k + totI (L.take j) + 1 : Nat) : Int) c.2.length) = midI k L (j + 1) := by
  have hj := (List.getElem?_eq_some_iff.1 h).1
  unfold midI
  rw [take_succ_of (markI_at k L j c h), List.set_append_right _ _ (by simp; omega)]
  simp only [List.length_take, markI_length]
  rw [show j - min j L.length = 0 by omega, ← List.getElem_cons_drop (h := hj), List.set_cons_zero, List.append_assoc]
  rfl
/-- An index of the call's own, in blocks of [lo, hi). -/
def OwnI (w : World) (lo hi : Nat) (v : Value) (L : List IdxD) : Prop :=
  ∃ ps : List (Value × Value), ps.length = L.length ∧ Own w lo hi 33 2 v L.length (flat2 ps) ∧ (∀ (j : Nat) p c, ps[j]? = some p → L[j]? = some c → p.1 = .string c.1) ∧ RowsAt w lo (ps.map (·.2)) (L.map (·.2)) ∧ ∀ u ∈ ps.map (·.2), ∀ g, u.ownBlock = some g → g < hi
theorem OwnI.of {w : World} {lo : Nat} {v : Value} {L : List IdxD} (h : IdxS lo w v L) : OwnI w lo w.heap.size v L := by
  obtain ⟨ps, h1, h2, h3, h4⟩ := h
  exact ⟨ps, h1, Own.of_row h2, h3, h4, fun u hu g hg => (h4.lt u hu g hg).2⟩
theorem OwnI.idx {w : World} {lo hi : Nat} {v : Value} {L : List IdxD} (h : OwnI w lo hi v L) : IdxS lo w v L := by
  obtain ⟨ps, h1, h2, h3, h4, -⟩ := h
  exact ⟨ps, h1, h2.1, h3, h4⟩
theorem OwnI.below {w w' : World} {lo hi : Nat} {v : Value} {L : List IdxD} (h : OwnI w lo hi v L) (hb : Below w.heap.size w w') : OwnI w' lo hi v L := by
  obtain ⟨ps, h1, h2, h3, h4, h5⟩ := h
  exact ⟨ps, h1, h2.below hb, h3, h4.below hb, h5⟩
theorem OwnI.only {w w' : World} {lo hi lo' hi' : Nat} {v : Value} {L : List IdxD} (h : OwnI w lo hi v L) (ho : Only lo' hi' w w') (hd : hi ≤ lo' ∨ hi' ≤ lo) : OwnI w' lo hi v L := by
  obtain ⟨ps, h1, h2, h3, h4, h5⟩ := h
  refine ⟨ps, h1, h2.only ho hd, h3, ⟨h4.len, fun j u r hu hr => ?_, h4.apart⟩, h5⟩
  exact ownsRow_only (h4.row j u r hu hr) ho (fun g hg => by
    have k1 := h5 u (List.mem_of_getElem? hu) g hg
    have k2 := ((h4.row j u r hu hr).lt g hg).1
    omega)
theorem flat2_set1 {ps : List (Value × Value)} {k : Nat} {u v : Value} (h : ps[k]? = some (u, v)) (x : Value) : (flat2 ps).set (k * 2) x = flat2 (ps.set k (x, v)) := by
  have hk := (List.getElem?_eq_some_iff.1 h).1
  rw [← flat2_set hk (x, v)]
  have hs : ((flat2 ps).set (k * 2) x).set (k * 2 + 1) v = (flat2 ps).set (k * 2) x := by
    apply List.ext_getElem?
    intro j
    rw [List.getElem?_set]
    split
    · next e =>
      subst e
      rw [List.getElem?_set_ne (by omega), (flat2_at h).2, if_pos (by rw [List.length_set, flat2_length]; omega)]
    · rfl
  exact hs.symm
/-- A word is stored. -/
theorem OwnI.word {w : World} {lo hi g n cap k : Nat} {L : List IdxD} {c : IdxD} (h : OwnI w lo hi (.slice (some ⟨g, 0, none⟩) n cap) L) (hc : L[k]? = some c) (y : ByteArray) :
    OwnI (w.setCell ⟨g, k * 2, none⟩ (.string y)) lo hi (.slice (some ⟨g, 0, none⟩) n cap) (L.set k (y, c.2)) := by
  obtain ⟨ps, h1, h2, h3, h4, h5⟩ := h
  have hkl := (List.getElem?_eq_some_iff.1 hc).1
  obtain ⟨⟨a, b⟩, hp⟩ := some_at ps (show k < ps.length by omega)
  have hn : n = L.length := by
    obtain ⟨A, c, e, -⟩ := h2.slice
    injection e
  subst hn
  have h6 := h2.set_ (k * 2) (.string y)
  rw [flat2_set1 hp] at h6
  have hm : (ps.set k (.string y, b)).map (·.2) = ps.map (·.2) := by rw [List.map_set]; exact set_same (by simp [hp])
  have hm2 : (L.set k (y, c.2)).map (·.2) = L.map (·.2) := by rw [List.map_set]; exact set_same (by simp [hc])
  refine ⟨ps.set k (.string y, b), by simp [h1], by rw [List.length_set]; exact h6, fun j q d hq hd => ?_, ?_, by rw [hm]; exact h5⟩
  · rw [List.getElem?_set] at hq hd
    by_cases e : k = j
    · subst e
      rw [if_pos rfl, if_pos (by omega)] at hq hd
      cases hq
      cases hd
      rfl
    · rw [if_neg e] at hq hd
      exact h3 j q d hq hd
  · rw [hm, hm2]
    refine ⟨h4.len, fun j x r hx hr => ?_, h4.apart⟩
    have h7 := h4.row j x r hx hr
    exact ownsRow_setCell_other (a := ⟨g, k * 2, none⟩) h7 (fun e => rows_apart h7 h2.1 (by decide) g e rfl) _
end Go.Proofs.YthokekgdiebhjaaDoor
