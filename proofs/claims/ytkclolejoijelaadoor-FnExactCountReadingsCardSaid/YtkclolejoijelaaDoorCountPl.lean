/-
  The table of the numbers of readings, as it stands at a place of the two loops: plain values.
-/
import Derived.Test.YtkclolejoijelaaDoorReadPl
import Derived.Test.YtkclolejoijelaaDoorStrokes
namespace Go.Proofs.YtkclolejoijelaaDoor
set_option linter.unusedVariables false

/-- The table with the places from n - r on done, and place n - r - 1 after k entries. -/
def cntAt (l : List EntD) (zs : List Int) (r k : Nat) : List Int :=
  List.replicate (zs.length - (r + 1)) 0 ++ ((foldC l (zs.drop (zs.length - (r + 1))) (cntT l zs r) k : Nat) : Int) :: (cntT l zs r).map Int.ofNat
/-- The table with the places from n - r on done. -/
def cntRow (l : List EntD) (zs : List Int) (r : Nat) : List Int := List.replicate (zs.length - r) 0 ++ (cntT l zs r).map Int.ofNat
theorem cntAt_zero {l : List EntD} {zs : List Int} {r : Nat} (h : r < zs.length) : cntAt l zs r 0 = cntRow l zs r := by
  unfold cntAt cntRow
  rw [show zs.length - r = (zs.length - (r + 1)) + 1 by omega, List.replicate_succ']
  simp [foldC]
theorem cntAt_last (l : List EntD) (zs : List Int) (r : Nat) : cntAt l zs r l.length = cntRow l zs (r + 1) := by
  unfold cntAt cntRow
  rw [cntT, List.map_cons]
  rfl
theorem cntRow_zero (l : List EntD) (zs : List Int) : cntRow l zs 0 = (List.replicate (zs.length + 1) 0).set zs.length 1 := by
  unfold cntRow
  rw [List.replicate_succ', List.set_append_right _ _ (by simp)]
  simp [cntT]
theorem cntRow_length {l : List EntD} {zs : List Int} {r : Nat} (h : r ≤ zs.length) : (cntRow l zs r).length = zs.length + 1 := by
  unfold cntRow
  simp [cntT_length]
  omega
theorem cntAt_length {l : List EntD} {zs : List Int} {r : Nat} (h : r < zs.length) (k : Nat) : (cntAt l zs r k).length = zs.length + 1 := by
  unfold cntAt
  simp [cntT_length]
  omega
theorem cntAt_here (l : List EntD) (zs : List Int) (r k : Nat) : (cntAt l zs r k)[zs.length - (r + 1)]? = some ((foldC l (zs.drop (zs.length - (r + 1))) (cntT l zs r) k : Nat) : Int) := by
  unfold cntAt
  rw [List.getElem?_append_right (by simp)]
  simp
theorem cntAt_there {l : List EntD} {zs : List Int} {r k m : Nat} (h0 : 0 < m) (h1 : m ≤ r + 1) : (cntAt l zs r k)[zs.length - (r + 1) + m]? = some (((cntT l zs r).getD (m - 1) 0 : Nat) : Int) := by
  unfold cntAt
  rw [List.getElem?_append_right (by simp)]
  obtain ⟨m, rfl⟩ : ∃ j, m = j + 1 := ⟨m - 1, by omega⟩
  have hl := cntT_length l zs r
  simp only [List.length_replicate, Nat.add_sub_cancel_left, List.getElem?_cons_succ, List.getElem?_map, Nat.add_sub_cancel]
  rw [List.getElem?_eq_getElem (by omega), List.getD_eq_getElem?_getD, List.getElem?_eq_getElem (by omega)]
  simp
theorem cntAt_yes {l : List EntD} {zs : List Int} {r k : Nat} {c : EntD} (hc : l[k]? = some c) (hb : beginsB (zs.drop (zs.length - (r + 1))) c.1 = true) :
    (cntAt l zs r k).set (zs.length - (r + 1)) ((min cap1 (foldC l (zs.drop (zs.length - (r + 1))) (cntT l zs r) k + (cntT l zs r).getD (c.1.length - 1) 0) : Nat) : Int) = cntAt l zs r (k + 1) := by
  unfold cntAt
  rw [foldC_yes hc hb, List.set_append_right _ _ (by simp)]
  simp
theorem cntAt_no {l : List EntD} {zs : List Int} {r k : Nat} {c : EntD} (hc : l[k]? = some c) (hb : beginsB (zs.drop (zs.length - (r + 1))) c.1 = false) : cntAt l zs r (k + 1) = cntAt l zs r k := by
  unfold cntAt
  rw [foldC_no hc hb]
theorem cntRow_first {l : List EntD} {zs : List Int} : (cntRow l zs zs.length)[0]? = some ((cntD l zs : Nat) : Int) := by
  unfold cntRow cntD
  have hl := cntT_length l zs zs.length
  cases h : cntT l zs zs.length with
  | nil => rw [h] at hl; simp at hl
  | cons a b => simp
theorem begins_le {xs ys : List Int} (h : beginsB xs ys = true) : ys.length ≤ xs.length := by
  obtain ⟨x, hx⟩ := begins_iff.1 h
  rw [hx]; simp
theorem getD_le_cap (l : List EntD) (zs : List Int) (r m : Nat) : (cntT l zs r).getD m 0 ≤ cap1 := by
  rw [List.getD_eq_getElem?_getD]
  cases h : (cntT l zs r)[m]? with
  | none => simp
  | some x => simpa using cntT_le l zs r x (List.mem_of_getElem? h)
/-- What CountReadings returns. -/
def countD (l : List EntD) (zs : List Int) : Option Nat := if dictB l && strokesB zs then (if cntD l zs ≤ 1000000 then some (cntD l zs) else none) else none
end Go.Proofs.YtkclolejoijelaaDoor
