/-
  The pairs of entries of which one begins the other one: plain values.
-/
import Derived.Test.YtkclolejoijelaaDoorAmbPl
namespace Go.Proofs.YtkclolejoijelaaDoor
set_option linter.unusedVariables false

def pairB (i m : Nat) (o p : List Int) : Bool := decide (i ≠ m) && beginsB p o
def pairK (l : List EntD) (o : List Int) (i : Nat) : Nat → List (List Int)
  | 0 => []
  | m + 1 => pairK l o i m ++ (match l[m]? with | some c => if pairB i m o c.1 then [[(i : Int), (m : Int)]] else [] | none => [])
theorem pairK_yes {l : List EntD} {o : List Int} {i m : Nat} {c : EntD} (hc : l[m]? = some c) (h : pairB i m o c.1 = true) : pairK l o i (m + 1) = pairK l o i m ++ [[(i : Int), (m : Int)]] := by simp [pairK, hc, h]
theorem pairK_no {l : List EntD} {o : List Int} {i m : Nat} {c : EntD} (hc : l[m]? = some c) (h : pairB i m o c.1 = false) : pairK l o i (m + 1) = pairK l o i m := by simp [pairK, hc, h]
theorem pairK_len (l : List EntD) (o : List Int) (i : Nat) : ∀ m, (pairK l o i m).length ≤ m
  | 0 => by simp [pairK]
  | m + 1 => by
    have := pairK_len l o i m
    unfold pairK
    rw [List.length_append]
    split
    · split <;> simp <;> omega
    · simp; omega
theorem pairK_two (l : List EntD) (o : List Int) (i : Nat) : ∀ m, ∀ r ∈ pairK l o i m, r.length = 2
  | 0 => by simp [pairK]
  | m + 1 => by
    intro r hr
    unfold pairK at hr
    rcases List.mem_append.1 hr with h | h
    · exact pairK_two l o i m r h
    · split at h
      · split at h
        · simp at h; subst h; rfl
        · simp at h
      · simp at h
def pairT (l : List EntD) : Nat → List (List Int)
  | 0 => []
  | k + 1 => pairT l k ++ (match l[k]? with | some c => pairK l c.1 k l.length | none => [])
theorem pairT_next {l : List EntD} {k : Nat} {c : EntD} (h : l[k]? = some c) : pairT l (k + 1) = pairT l k ++ pairK l c.1 k l.length := by simp [pairT, h]
theorem pairT_len (l : List EntD) : ∀ k, (pairT l k).length ≤ k * l.length
  | 0 => by simp [pairT]
  | k + 1 => by
    have := pairT_len l k
    rw [Nat.succ_mul]
    cases h : l[k]? with
    | none => simp [pairT, h]; omega
    | some c =>
      have h2 := pairK_len l c.1 k l.length
      rw [pairT_next h, List.length_append]
      omega
theorem pairT_two (l : List EntD) : ∀ k, ∀ r ∈ pairT l k, r.length = 2
  | 0 => by simp [pairT]
  | k + 1 => by
    intro r hr
    cases h : l[k]? with
    | none => simp [pairT, h] at hr; exact pairT_two l k r hr
    | some c =>
      rw [pairT_next h] at hr
      rcases List.mem_append.1 hr with h1 | h1
      · exact pairT_two l k r h1
      · exact pairK_two _ _ _ _ r h1
def pairD (l : List EntD) : List (List Int) := if dictB l then pairT l l.length else []
theorem pairD_len (l : List EntD) : (pairD l).length ≤ 1600 := by
  unfold pairD
  split
  · rename_i h
    have h1 := pairT_len l l.length
    have h2 := dict_len h
    have h3 : l.length * l.length ≤ 40 * 40 := Nat.mul_le_mul h2 h2
    omega
  · simp
theorem pairD_two (l : List EntD) : ∀ r ∈ pairD l, r.length = 2 := by
  unfold pairD
  split
  · exact pairT_two _ _
  · simp
theorem pairD_row (l : List EntD) : ∀ r ∈ pairD l, r.length ≤ 2 := fun r hr => Nat.le_of_eq (pairD_two l r hr)
end Go.Proofs.YtkclolejoijelaaDoor
