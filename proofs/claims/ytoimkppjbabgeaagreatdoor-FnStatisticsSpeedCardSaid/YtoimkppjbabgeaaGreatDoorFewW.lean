/-
  The tables of a segmentation with the fewest pieces, as they stand at a place of the two loops: plain values. No program is named here.
-/
import Derived.Test.YtoimkppjbabgeaaGreatDoorDictPl
namespace Go.Proofs.YtoimkppjbabgeaaGreatDoor
set_option linter.unusedVariables false

def fewRow (f : CostD → Int) (l : List EntD) (zs : List Int) (r : Nat) : List Int := List.replicate (zs.length - r) 0 ++ (costT l zs r).map f
def bestD (l : List EntD) (zs : List Int) (r k : Nat) : CostD := bestK l (zs.drop (zs.length - (r + 1))) (costT l zs r) k
def fewTab (f : CostD → Int) (l : List EntD) (zs : List Int) (r k : Nat) : List Int := List.replicate (zs.length - (r + 1)) 0 ++ f (bestD l zs r k) :: (costT l zs r).map f
theorem fewRow_zero {f : CostD → Int} (h : f (0, 0, 0) = 0) (l : List EntD) (zs : List Int) : fewRow f l zs 0 = List.replicate (zs.length + 1) 0 := by
  unfold fewRow
  rw [costT, List.map_singleton, h, List.replicate_succ']
  rfl
section
variable {f : CostD → Int} {l : List EntD} {zs : List Int} {r k m : Nat}
theorem fewRow_length (h : r ≤ zs.length) : (fewRow f l zs r).length = zs.length + 1 := by
  unfold fewRow
  simp [costT_length]
  omega
theorem fewTab_length (h : r < zs.length) : (fewTab f l zs r k).length = zs.length + 1 := by
  unfold fewTab
  simp [costT_length]
  omega
theorem few_start (h : r < zs.length) : (fewRow f l zs r).set (zs.length - (r + 1)) (f (bestD l zs r 0)) = fewTab f l zs r 0 := by
  unfold fewRow fewTab
  rw [show zs.length - r = (zs.length - (r + 1)) + 1 by omega, List.replicate_succ', List.append_assoc, List.set_append_right _ _ (by simp)]
  simp
theorem few_set (j : Nat) : (fewTab f l zs r k).set (zs.length - (r + 1)) (f (bestD l zs r j)) = fewTab f l zs r j := by
  unfold fewTab
  rw [List.set_append_right _ _ (by simp)]
  simp
theorem few_keep {j : Nat} (h : bestD l zs r j = bestD l zs r k) : fewTab f l zs r j = fewTab f l zs r k := by
  unfold fewTab
  rw [h]
theorem few_last : fewTab f l zs r (min 6 (r + 1)) = fewRow f l zs (r + 1) := by
  unfold fewTab fewRow
  rw [costT, List.map_cons]
  rfl
theorem few_here : (fewTab f l zs r k)[zs.length - (r + 1)]? = some (f (bestD l zs r k)) := by
  unfold fewTab
  rw [List.getElem?_append_right (by simp)]
  simp
theorem few_map (h : m ≤ r) : ((costT l zs r).map f)[m]? = some (f (costAt (costT l zs r) m)) := by
  have hl := costT_length l zs r
  unfold costAt
  rw [List.getElem?_map, List.getD_eq_getElem?_getD, List.getElem?_eq_getElem (by omega)]
  rfl
theorem few_there (h0 : 0 < m) (h : m ≤ r + 1) : (fewTab f l zs r k)[zs.length - (r + 1) + m]? = some (f (costAt (costT l zs r) (m - 1))) := by
  obtain ⟨m, rfl⟩ : ∃ j, m = j + 1 := ⟨m - 1, by omega⟩
  unfold fewTab
  rw [List.getElem?_append_right (by simp)]
  simp only [List.length_replicate, Nat.add_sub_cancel_left, List.getElem?_cons_succ, Nat.add_sub_cancel]
  exact few_map (by omega)
theorem few_next (h : r < zs.length) : (fewRow f l zs r)[zs.length - (r + 1) + 1]? = some (f (costAt (costT l zs r) 0)) := by
  unfold fewRow
  rw [show zs.length - r = (zs.length - (r + 1)) + 1 by omega, List.getElem?_append_right (by simp)]
  simp only [List.length_replicate, Nat.sub_self]
  exact few_map (Nat.zero_le _)
theorem few_cell (h : r < zs.length) : (fewRow f l zs r)[zs.length - (r + 1)]? = some 0 := by
  unfold fewRow
  rw [List.getElem?_append_left (by simp; omega), List.getElem?_replicate]
  rw [if_pos (by omega)]
theorem few_end (h : m ≤ zs.length) : (fewRow f l zs zs.length)[m]? = some (f (costAt (costT l zs zs.length) m)) := by
  unfold fewRow
  rw [Nat.sub_self, List.replicate_zero, List.nil_append]
  exact few_map h
end
theorem best_ok (l : List EntD) (zs : List Int) (r k : Nat) (h : k ≤ r + 1) (h6 : k ≤ 6) : CostOk (r + 1) (bestD l zs r k) := bestK_ok (fun j hj => costT_ok l zs r j hj) k h h6
theorem best_zero (l : List EntD) (zs : List Int) (r : Nat) : bestD l zs r 0 = ((costAt (costT l zs r) 0).1 + 1, (costAt (costT l zs r) 0).2.1 + 1, 0) := rfl
theorem suf_take {zs : List Int} {i n : Nat} : (zs.drop i).take n = part zs i n := rfl
/-- The entry fits, and is no worse. -/
theorem best_yes {l : List EntD} {zs : List Int} {r k : Nat} {t : ByteArray} (ht : lookD l (part zs (zs.length - (r + 1)) (k + 1)) = some t) (hb : better ((costAt (costT l zs r) k).1, (costAt (costT l zs r) k).2.1 + 1, k + 1) (bestD l zs r k) = true) :
    bestD l zs r (k + 1) = ((costAt (costT l zs r) k).1, (costAt (costT l zs r) k).2.1 + 1, k + 1) := bestK_yes (by rw [suf_take, ht]; rfl) hb
theorem best_none {l : List EntD} {zs : List Int} {r k : Nat} (ht : lookD l (part zs (zs.length - (r + 1)) (k + 1)) = none) : bestD l zs r (k + 1) = bestD l zs r k := bestK_no (.inl (by rw [suf_take, ht]; rfl))
theorem best_worse {l : List EntD} {zs : List Int} {r k : Nat} (hb : better ((costAt (costT l zs r) k).1, (costAt (costT l zs r) k).2.1 + 1, k + 1) (bestD l zs r k) = false) : bestD l zs r (k + 1) = bestD l zs r k := bestK_no (.inr hb)
def takeF (c : CostD) : Int := (c.2.2 : Int)
def stepF (c : CostD) : Nat := max c.2.2 1
theorem few_step {T : List CostD} {n m i : Nat} (h : FewAt T n m i) (hi : i < n) : FewAt T n (m + 1) (i + stepF (costAt T i)) := fewAt_next h hi
theorem step_le {l : List EntD} {zs : List Int} {i : Nat} (h : i < zs.length) : 1 ≤ stepF (costAt (costT l zs zs.length) i) ∧ i + stepF (costAt (costT l zs zs.length) i) ≤ zs.length ∧ (costAt (costT l zs zs.length) i).2.2 ≤ 6 := by
  have h1 := costT_ok l zs zs.length i (Nat.le_of_lt h)
  unfold CostOk at h1
  unfold stepF
  omega
theorem fewF_le (T : List CostD) (n : Nat) : ∀ f i, fewF T n f i ≤ f
  | 0, i => by simp [fewF]
  | f + 1, i => by
    rw [fewF]
    split
    · have := fewF_le T n f (i + max (costAt T i).2.2 1); omega
    · omega
theorem fewAt_le {T : List CostD} {n m i : Nat} (h : FewAt T n m i) : m ≤ n := by
  unfold FewAt at h
  have := fewF_le T n n 0
  omega
end Go.Proofs.YtoimkppjbabgeaaGreatDoor
