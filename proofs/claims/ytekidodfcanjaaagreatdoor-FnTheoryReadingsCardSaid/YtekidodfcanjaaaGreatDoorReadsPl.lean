/-
  The readings as rows of numbers, as the two loops list them: plain values. No program is named here.
-/
import Derived.Test.YtekidodfcanjaaaGreatDoorDictPl
namespace Go.Proofs.YtekidodfcanjaaaGreatDoor
set_option linter.unusedVariables false

/-- The readings that begin with one of the first k entries. -/
def readK (l : List EntD) (zs : List Int) : Nat → List (List Nat)
  | 0 => []
  | k + 1 => readK l zs k ++ (match l[k]? with
    | some c => if beginsB zs c.1 then (readD l (zs.drop c.1.length)).map (k :: ·) else []
    | none => [])
theorem readK_yes {l : List EntD} {zs : List Int} {k : Nat} {c : EntD} (hc : l[k]? = some c) (hb : beginsB zs c.1 = true) : readK l zs (k + 1) = readK l zs k ++ (readD l (zs.drop c.1.length)).map (k :: ·) := by simp [readK, hc, hb]
theorem readK_no {l : List EntD} {zs : List Int} {k : Nat} {c : EntD} (hc : l[k]? = some c) (hb : beginsB zs c.1 = false) : readK l zs (k + 1) = readK l zs k := by simp [readK, hc, hb]
theorem flatMap_range_succ {α : Type} (g : Nat → List α) (k : Nat) : (List.range (k + 1)).flatMap g = (List.range k).flatMap g ++ g k := by rw [List.range_succ]; simp
theorem readK_flat {l : List EntD} {zs : List Int} : ∀ k, readK l zs k = (List.range k).flatMap fun j => match l[j]? with
    | some c => if beginsB zs c.1 then (readD l (zs.drop c.1.length)).map (j :: ·) else []
    | none => []
  | 0 => rfl
  | k + 1 => by rw [flatMap_range_succ, readK, readK_flat k]
theorem readD_nil (l : List EntD) : readD l [] = [[]] := by simp [readD, readF]
theorem readD_all {l : List EntD} (hE : ∀ c ∈ l, c.1 ≠ []) {zs : List Int} (hz : zs ≠ []) : readD l zs = readK l zs l.length := by
  obtain ⟨f, hf⟩ : ∃ f, zs.length = f + 1 := ⟨zs.length - 1, by have := List.length_pos_iff.2 hz; omega⟩
  rw [readK_flat]
  unfold readD
  rw [hf, readF, if_neg (by simpa using hz)]
  congr 1
  funext k
  cases hc : l[k]? with
  | none => rfl
  | some c =>
    simp only
    have h1 := hE c (List.mem_of_getElem? hc)
    have h2 := List.length_pos_iff.2 h1
    split
    · rw [readF_fuel hE f _ _ (by simp; omega) (Nat.le_refl _)]
    · rfl
def rowsOf (head : List Int) (rs : List (List Nat)) : List (List Int) := rs.map fun r => head ++ r.map Int.ofNat
theorem rowsOf_length (head : List Int) (rs : List (List Nat)) : (rowsOf head rs).length = rs.length := by simp [rowsOf]
theorem rowsOf_app (head : List Int) (rs qs : List (List Nat)) : rowsOf head (rs ++ qs) = rowsOf head rs ++ rowsOf head qs := by simp [rowsOf]
theorem rowsOf_cons (head : List Int) (k : Nat) (rs : List (List Nat)) : rowsOf head (rs.map (k :: ·)) = rowsOf (head ++ [(k : Int)]) rs := by simp [rowsOf]
theorem rowsOf_nil (head : List Int) : rowsOf head [] = [] := rfl
theorem rowsOf_one (head : List Int) : rowsOf head [[]] = [head] := by simp [rowsOf]
/-- At most 'most' rows in all. -/
def takeM (out rows : List (List Int)) (most : Nat) : List (List Int) := out ++ rows.take (most - out.length)
theorem takeM_nil (out : List (List Int)) (most : Nat) : takeM out [] most = out := by simp [takeM]
theorem takeM_one {out : List (List Int)} {most : Nat} (h : out.length < most) (r : List Int) : takeM out [r] most = out ++ [r] := by
  unfold takeM
  rw [List.take_of_length_le (by simp; omega)]
theorem takeM_app (out xs ys : List (List Int)) (most : Nat) : takeM (takeM out xs most) ys most = takeM out (xs ++ ys) most := by
  unfold takeM
  rw [List.append_assoc, List.take_append, List.length_append, List.length_take]
  congr 3
  omega
theorem takeM_full {out : List (List Int)} {most : Nat} (h : most ≤ out.length) (rows : List (List Int)) : takeM out rows most = out := by
  unfold takeM
  rw [show most - out.length = 0 by omega]
  simp
theorem takeM_len {out : List (List Int)} {most : Nat} (h : out.length ≤ most) (rows : List (List Int)) : (takeM out rows most).length ≤ most := by
  unfold takeM
  rw [List.length_append, List.length_take]
  omega
theorem readF_short {l : List EntD} (hE : ∀ c ∈ l, c.1 ≠ []) : ∀ (f : Nat) (zs : List Int) (r : List Nat), r ∈ readF l f zs → r.length ≤ zs.length
  | 0, zs, r, h => by
    unfold readF at h
    split at h
    · simp at h; subst h; simp
    · simp at h
  | f + 1, zs, r, h => by
    unfold readF at h
    split at h
    · simp at h; subst h; simp
    · obtain ⟨k, hk, hr⟩ := List.mem_flatMap.1 h
      have hkl : k < l.length := by simpa using hk
      obtain ⟨c, hc⟩ := some_at l hkl
      rw [hc] at hr
      simp only at hr
      split at hr
      · rename_i hb
        obtain ⟨q, hq, rfl⟩ := List.mem_map.1 hr
        have h1 := readF_short hE f _ q hq
        have h2 := List.length_pos_iff.2 (hE c (List.mem_of_getElem? hc))
        have h3 := begins_le hb
        simp at h1 ⊢
        omega
      · simp at hr
/-- What AllReadings lists. -/
def allR (l : List EntD) (zs : List Int) (most : Nat) : List (List Int) := takeM [] (rowsOf [] (readD l zs)) most
def allB (l : List EntD) (zs : List Int) (most : Int) : Bool := (dictB l && strokesB zs) && inB most 0 50
def allD (l : List EntD) (zs : List Int) (most : Int) : List (List Int) := if allB l zs most then allR l zs most.toNat else []
theorem allD_no {l : List EntD} {zs : List Int} {most : Int} (h : allB l zs most = false) : allD l zs most = [] := by simp [allD, h]
theorem allD_yes {l : List EntD} {zs : List Int} {most : Int} (h : allB l zs most = true) : allD l zs most = allR l zs most.toNat := by simp [allD, h]
theorem allD_len (l : List EntD) (zs : List Int) (most : Int) : (allD l zs most).length ≤ 50 := by
  unfold allD
  split
  · rename_i h
    simp only [allB, Bool.and_eq_true] at h
    have h1 := inB_iff.1 h.2
    have := takeM_len (out := []) (most := most.toNat) (by simp) (rowsOf [] (readD l zs))
    unfold allR
    omega
  · simp
theorem allD_row (l : List EntD) (zs : List Int) (most : Int) : ∀ r ∈ allD l zs most, r.length ≤ 60 := by
  unfold allD
  split
  · rename_i h
    intro r hr
    simp only [allB, Bool.and_eq_true] at h
    have hs := h.1.2
    simp only [strokesB, Bool.and_eq_true, decide_eq_true_eq] at hs
    unfold allR takeM rowsOf at hr
    simp only [List.nil_append] at hr
    obtain ⟨q, hq, rfl⟩ := List.mem_map.1 (List.mem_of_mem_take hr)
    have := readF_short (dict_ne h.1.1) _ _ _ hq
    simp
    omega
  · simp
/-- Where the number is 0 there is no reading. -/
theorem num_none {l : List EntD} {zs : List Int} (h : numR l zs = 0) : readD l zs = [] := by
  unfold numR cap1 at h
  exact List.eq_nil_of_length_eq_zero (by omega)
end Go.Proofs.YtekidodfcanjaaaGreatDoor
