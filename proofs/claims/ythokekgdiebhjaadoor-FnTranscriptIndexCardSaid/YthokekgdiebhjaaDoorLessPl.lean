/-
  The byte order of two texts, as the reference walks it.
-/
import Derived.Test.YthokekgdiebhjaaDoorBase
namespace Go.Proofs.YthokekgdiebhjaaDoor
set_option linter.unusedVariables false

/-- The lesser of two lists of bytes, from the left. -/
def lessL : List UInt8 → List UInt8 → Bool
  | _, [] => false
  | [], _ :: _ => true
  | a :: as, b :: bs => if a = b then lessL as bs else decide (a.toNat < b.toNat)
def lessB (s t : ByteArray) : Bool := lessL s.data.toList t.data.toList
theorem lessL_drop : ∀ (k : Nat) (a b : List UInt8), (∀ j, j < k → a[j]? = b[j]?) → k ≤ a.length → k ≤ b.length → lessL a b = lessL (a.drop k) (b.drop k)
  | 0, a, b, _, _, _ => by simp
  | k + 1, [], b, _, h, _ => by simp at h
  | k + 1, a :: as, [], _, _, h => by simp at h
  | k + 1, x :: as, y :: bs, h, h1, h2 => by
    have h0 := h 0 (by omega)
    simp only [List.getElem?_cons_zero, Option.some.injEq] at h0
    subst h0
    simp only [lessL, if_true, List.drop_succ_cons]
    exact lessL_drop k as bs (fun j hj => by simpa using h (j + 1) (by omega)) (by simpa using h1) (by simpa using h2)
theorem lessL_ne {k : Nat} {a b : List UInt8} (h : ∀ j, j < k → a[j]? = b[j]?) (h1 : k < a.length) (h2 : k < b.length) (hne : a[k] ≠ b[k]) : lessL a b = decide (a[k].toNat < b[k].toNat) := by
  rw [lessL_drop k a b h (by omega) (by omega), List.drop_eq_getElem_cons h1, List.drop_eq_getElem_cons h2]
  simp [lessL, hne]
theorem lessL_end {k : Nat} {a b : List UInt8} (h : ∀ j, j < k → a[j]? = b[j]?) (h1 : k ≤ a.length) (h2 : k ≤ b.length) (he : k = a.length ∨ k = b.length) : lessL a b = decide (a.length < b.length) := by
  rw [lessL_drop k a b h h1 h2]
  rcases he with rfl | rfl
  · rw [List.drop_length]
    cases hd : b.drop a.length with
    | nil => have := congrArg List.length hd; simp at this; simp [lessL]; omega
    | cons y ys => have := congrArg List.length hd; simp at this; simp [lessL]; omega
  · rw [List.drop_length]
    have : ¬ a.length < b.length := by omega
    cases a.drop b.length <;> simp [lessL, this]
/-- It is the order of the library's sort. -/
theorem lessL_lt : ∀ a b : List UInt8, lessL a b = decide (a < b)
  | a, [] => by cases a <;> simp [lessL]
  | [], y :: bs => by simp [lessL]
  | x :: as, y :: bs => by
    have ih := lessL_lt as bs
    unfold lessL
    by_cases h : x = y
    · subst h
      rw [if_pos rfl, ih]
      simp
    · rw [if_neg h]
      simp [List.cons_lt_cons_iff, h, UInt8.lt_iff_toNat_lt]
end Go.Proofs.YthokekgdiebhjaaDoor
