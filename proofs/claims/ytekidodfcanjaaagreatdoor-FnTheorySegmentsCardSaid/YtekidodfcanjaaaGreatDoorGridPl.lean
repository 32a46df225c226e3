/-
  Rows that two loops over the entries collect, and what BoundaryConflicts and SegmentationErrors return: plain values. No program is named here.
-/
import Derived.Test.YtekidodfcanjaaaGreatDoorDictPl
namespace Go.Proofs.YtekidodfcanjaaaGreatDoor
set_option linter.unusedVariables false

def gK (f : Nat → Nat → Option (List Int)) (i : Nat) : Nat → List (List Int)
  | 0 => []
  | m + 1 => gK f i m ++ (f i m).toList
def gT (f : Nat → Nat → Option (List Int)) (n : Nat) : Nat → List (List Int)
  | 0 => []
  | k + 1 => gT f n k ++ gK f k n
section
variable {f : Nat → Nat → Option (List Int)} {i m n k : Nat} {r : List Int}
theorem gK_yes (h : f i m = some r) : gK f i (m + 1) = gK f i m ++ [r] := by simp [gK, h]
theorem gK_no (h : f i m = none) : gK f i (m + 1) = gK f i m := by simp [gK, h]
theorem gT_next : gT f n (k + 1) = gT f n k ++ gK f k n := rfl
end
theorem gK_len (f : Nat → Nat → Option (List Int)) (i : Nat) : ∀ m, (gK f i m).length ≤ m
  | 0 => by simp [gK]
  | m + 1 => by
    have := gK_len f i m
    rw [gK, List.length_append]
    cases f i m <;> simp <;> omega
theorem gT_len (f : Nat → Nat → Option (List Int)) (n : Nat) : ∀ k, (gT f n k).length ≤ k * n
  | 0 => by simp [gT]
  | k + 1 => by
    have h1 := gT_len f n k
    have h2 := gK_len f k n
    rw [gT, List.length_append, Nat.succ_mul]
    omega
theorem gK_mem {f : Nat → Nat → Option (List Int)} {i : Nat} {r : List Int} : ∀ {m : Nat}, r ∈ gK f i m → ∃ k, k < m ∧ f i k = some r
  | 0, h => by simp [gK] at h
  | m + 1, h => by
    rw [gK] at h
    rcases List.mem_append.1 h with h | h
    · obtain ⟨k, hk, he⟩ := gK_mem h
      exact ⟨k, by omega, he⟩
    · refine ⟨m, by omega, ?_⟩
      cases hf : f i m with
      | none => rw [hf] at h; simp at h
      | some x => rw [hf] at h; simp at h; rw [h]
theorem gT_mem {f : Nat → Nat → Option (List Int)} {n : Nat} {r : List Int} : ∀ {k : Nat}, r ∈ gT f n k → ∃ i m, i < k ∧ m < n ∧ f i m = some r
  | 0, h => by simp [gT] at h
  | k + 1, h => by
    rw [gT] at h
    rcases List.mem_append.1 h with h | h
    · obtain ⟨i, m, h1, h2, h3⟩ := gT_mem h
      exact ⟨i, m, by omega, h2, h3⟩
    · obtain ⟨m, h2, h3⟩ := gK_mem h
      exact ⟨k, m, by omega, h2, h3⟩

/-! ### Boundary conflicts -/
def bndF (l : List EntD) (i k : Nat) : Option (List Int) := match l[i]?, l[k]? with
  | some a, some b => if 0 ≤ findD l (a.1 ++ b.1) then some [(i : Int), (k : Int), findD l (a.1 ++ b.1)] else none
  | _, _ => none
theorem bndF_yes {l : List EntD} {i k : Nat} {a b : EntD} (ha : l[i]? = some a) (hb : l[k]? = some b) (h : 0 ≤ findD l (a.1 ++ b.1)) : bndF l i k = some [(i : Int), (k : Int), findD l (a.1 ++ b.1)] := by simp [bndF, ha, hb, h]
theorem bndF_no {l : List EntD} {i k : Nat} {a b : EntD} (ha : l[i]? = some a) (hb : l[k]? = some b) (h : ¬ 0 ≤ findD l (a.1 ++ b.1)) : bndF l i k = none := by simp only [bndF, ha, hb]; rw [if_neg h]
theorem bndF_row {l : List EntD} {i k : Nat} {r : List Int} (h : bndF l i k = some r) : r.length ≤ 3 := by
  unfold bndF at h
  split at h
  · split at h
    · simp at h; subst h; simp
    · cases h
  · cases h
def bndD (l : List EntD) : List (List Int) := if dictB l then gT (bndF l) l.length l.length else []
theorem bndD_no {l : List EntD} (h : dictB l = false) : bndD l = [] := by simp [bndD, h]
theorem bndD_yes {l : List EntD} (h : dictB l = true) : bndD l = gT (bndF l) l.length l.length := by simp [bndD, h]
theorem bndD_len (l : List EntD) : (bndD l).length ≤ 1600 := by
  unfold bndD
  split
  · rename_i h
    have h40 := dict_len h
    have h1 := gT_len (bndF l) l.length l.length
    have h2 : l.length * l.length ≤ 40 * 40 := Nat.mul_le_mul h40 h40
    omega
  · simp
theorem bndD_row (l : List EntD) : ∀ r ∈ bndD l, r.length ≤ 3 := by
  unfold bndD
  split
  · intro r hr
    obtain ⟨i, m, -, -, h⟩ := gT_mem hr
    exact bndF_row h
  · simp

/-! ### Segmentation errors -/
def segFst (ps : List PieceD) : Nat := match ps[0]? with | some p => p.2.1 | none => 0
def segBad (l : List EntD) (x y : List Int) : Bool := decide ((segD l (x ++ y)).length ≠ 2) || decide (segFst (segD l (x ++ y)) ≠ x.length)
def errF (l : List EntD) (i k : Nat) : Option (List Int) := match l[i]?, l[k]? with
  | some a, some b => if segBad l a.1 b.1 then some [(i : Int), (k : Int)] else none
  | _, _ => none
theorem errF_yes {l : List EntD} {i k : Nat} {a b : EntD} (ha : l[i]? = some a) (hb : l[k]? = some b) (h : segBad l a.1 b.1 = true) : errF l i k = some [(i : Int), (k : Int)] := by simp [errF, ha, hb, h]
theorem errF_no {l : List EntD} {i k : Nat} {a b : EntD} (ha : l[i]? = some a) (hb : l[k]? = some b) (h : segBad l a.1 b.1 = false) : errF l i k = none := by simp [errF, ha, hb, h]
theorem errF_row {l : List EntD} {i k : Nat} {r : List Int} (h : errF l i k = some r) : r.length ≤ 2 := by
  unfold errF at h
  split at h
  · split at h
    · simp at h; subst h; simp
    · cases h
  · cases h
def errD (l : List EntD) : List (List Int) := if dictB l then gT (errF l) l.length l.length else []
theorem errD_no {l : List EntD} (h : dictB l = false) : errD l = [] := by simp [errD, h]
theorem errD_yes {l : List EntD} (h : dictB l = true) : errD l = gT (errF l) l.length l.length := by simp [errD, h]
theorem errD_len (l : List EntD) : (errD l).length ≤ 1600 := by
  unfold errD
  split
  · rename_i h
    have h40 := dict_len h
    have h1 := gT_len (errF l) l.length l.length
    have h2 : l.length * l.length ≤ 40 * 40 := Nat.mul_le_mul h40 h40
    omega
  · simp
theorem errD_row (l : List EntD) : ∀ r ∈ errD l, r.length ≤ 2 := by
  unfold errD
  split
  · intro r hr
    obtain ⟨i, m, -, -, h⟩ := gT_mem hr
    exact errF_row h
  · simp
/-- Where the first piece is an entry's outline, the rest is the other entry. -/
theorem match_tail {l : List EntD} (hv : dictB l = true) {x : List Int} {k : Nat} {b : EntD} (hb : l[k]? = some b) : matchD l (x ++ b.1) x.length = (b.1.length, b.2) := by
  have hl := dict_out hv hb
  obtain ⟨m, hm⟩ : ∃ m, b.1.length = m + 1 := ⟨b.1.length - 1, by omega⟩
  unfold matchD
  rw [tryN_cap l (x ++ b.1) x.length 6 (m + 1) (by simp; omega) (by omega)]
  have hp : part (x ++ b.1) x.length (m + 1) = b.1 := by
    simp only [part, List.drop_left]
    rw [← hm, List.take_of_length_le (Nat.le_refl _)]
  rw [tryN_hit (by simp; omega) (by rw [hp]; exact (lookD_ent hv hb).2), hm]
theorem seg_first {l : List EntD} {zs : List Int} (h : 0 < zs.length) : segD l zs = (0, (matchD l zs 0).1, (matchD l zs 0).2) :: segF l zs (zs.length - 1) (matchD l zs 0).1 := by
  unfold segD
  rw [show zs.length = (zs.length - 1) + 1 by omega, segF, if_pos (by omega), Nat.zero_add]
  simp
/-- Two pieces, the first of an entry's length: the second is the other entry. -/
theorem seg_two {l : List EntD} (hv : dictB l = true) {i k : Nat} {a b : EntD} (ha : l[i]? = some a) (hb : l[k]? = some b) (hf : segFst (segD l (a.1 ++ b.1)) = a.1.length) : (segD l (a.1 ++ b.1))[1]? = some (a.1.length, b.1.length, b.2) := by
  have hla := dict_out hv ha
  have hlb := dict_out hv hb
  have hz : 0 < (a.1 ++ b.1).length := by rw [List.length_append]; omega
  rw [seg_first hz] at hf ⊢
  simp only [segFst, List.getElem?_cons_zero] at hf
  rw [hf, List.getElem?_cons_succ, show (a.1 ++ b.1).length - 1 = ((a.1 ++ b.1).length - 2) + 1 by rw [List.length_append]; omega, segF, if_pos (by rw [List.length_append]; omega)]
  rw [match_tail hv hb]
  rfl
theorem seg_one {l : List EntD} {zs : List Int} (h : 0 < zs.length) : 0 < (segD l zs).length := by rw [seg_first h]; simp
end Go.Proofs.YtekidodfcanjaaaGreatDoor
