/-
  What FindPhrase returns, as plain values.
-/
import Derived.Test.YthokekgdiebhjaaDoorConcPl
namespace Go.Proofs.YthokekgdiebhjaaDoor
set_option linter.unusedVariables false

def normL (l : List ByteArray) : List ByteArray := l.map normS
theorem normL_at {l : List ByteArray} {k : Nat} {x : ByteArray} (h : l[k]? = some x) : (normL l)[k]? = some (normS x) := by simp [normL, h]
theorem normL_length (l : List ByteArray) : (normL l).length = l.length := by simp [normL]
/-- Whether the phrase stands at place k. -/
def stands (due zs : List ByteArray) (k : Nat) : Bool := decide (((normL zs).drop k).take due.length = normL due)
/-- The places of one turn: those below m. -/
def placesK (due zs : List ByteArray) (i : Nat) : Nat → List (List Int)
  | 0 => []
  | m + 1 => placesK due zs i m ++ (if stands due zs m then [[(i : Int), (m : Int)]] else [])
theorem placesK_yes {due zs : List ByteArray} {i m : Nat} (h : stands due zs m = true) : placesK due zs i (m + 1) = placesK due zs i m ++ [[(i : Int), (m : Int)]] := by simp [placesK, h]
theorem placesK_no {due zs : List ByteArray} {i m : Nat} (h : stands due zs m = false) : placesK due zs i (m + 1) = placesK due zs i m := by simp [placesK, h]
theorem placesK_len (due zs : List ByteArray) (i : Nat) : ∀ m, (placesK due zs i m).length ≤ m
  | 0 => by simp [placesK]
  | m + 1 => by
    have := placesK_len due zs i m
    cases h : stands due zs m
    · rw [placesK_no h]; omega
    · rw [placesK_yes h]; simp; omega
theorem placesK_two (due zs : List ByteArray) (i : Nat) : ∀ m, ∀ r ∈ placesK due zs i m, r.length = 2
  | 0 => by simp [placesK]
  | m + 1 => by
    intro r hr
    cases h : stands due zs m
    · rw [placesK_no h] at hr; exact placesK_two due zs i m r hr
    · rw [placesK_yes h] at hr
      rcases List.mem_append.1 hr with h1 | h1
      · exact placesK_two due zs i m r h1
      · simp at h1; subst h1; rfl
/-- All places of the first k turns. -/
def placesT (due : List ByteArray) (ts : List TurnD) : Nat → List (List Int)
  | 0 => []
  | k + 1 => placesT due ts k ++ (match ts[k]? with | some c => placesK due (wordsV c.2) k ((wordsV c.2).length + 1 - due.length) | none => [])
theorem placesT_next {due : List ByteArray} {ts : List TurnD} {k : Nat} {c : TurnD} (h : ts[k]? = some c) : placesT due ts (k + 1) = placesT due ts k ++ placesK due (wordsV c.2) k ((wordsV c.2).length + 1 - due.length) := by simp [placesT, h]
theorem placesT_len {ts : List TurnD} (hv : transB ts = true) (due : List ByteArray) : ∀ k, (placesT due ts k).length ≤ k * 41
  | 0 => by simp [placesT]
  | k + 1 => by
    have := placesT_len hv due k
    cases h : ts[k]? with
    | none => simp [placesT, h]; omega
    | some c =>
      have h1 := (text_len (turn_text hv h)).1
      have h2 := placesK_len due (wordsV c.2) k ((wordsV c.2).length + 1 - due.length)
      rw [placesT_next h, List.length_append]
      omega
theorem placesT_two (due : List ByteArray) (ts : List TurnD) : ∀ k, ∀ r ∈ placesT due ts k, r.length = 2
  | 0 => by simp [placesT]
  | k + 1 => by
    intro r hr
    cases h : ts[k]? with
    | none => simp [placesT, h] at hr; exact placesT_two due ts k r hr
    | some c =>
      rw [placesT_next h] at hr
      rcases List.mem_append.1 hr with h1 | h1
      · exact placesT_two due ts k r h1
      · exact placesK_two _ _ _ _ r h1
def findB (ts : List TurnD) (phrase : ByteArray) : Bool := transB ts && textB phrase
def findL (ts : List TurnD) (phrase : ByteArray) : List (List Int) := if findB ts phrase then placesT (wordsV phrase) ts ts.length else []
theorem findL_len (ts : List TurnD) (phrase : ByteArray) : (findL ts phrase).length ≤ 1230 := by
  unfold findL
  split
  · rename_i h
    simp only [findB, Bool.and_eq_true] at h
    have h1 := placesT_len h.1 (wordsV phrase) ts.length
    have h2 := trans_len h.1
    omega
  · simp
theorem findL_two (ts : List TurnD) (phrase : ByteArray) : ∀ r ∈ findL ts phrase, r.length = 2 := by
  unfold findL
  split
  · exact placesT_two _ _ _
  · simp
/-- The phrase's first words stand: as far as the reference has looked. -/
def standsTo (due zs : List ByteArray) (k q : Nat) : Bool := decide (((normL zs).drop k).take q = (normL due).take q)
theorem standsTo_zero (due zs : List ByteArray) (k : Nat) : standsTo due zs k 0 = true := by simp [standsTo]
theorem standsTo_all (due zs : List ByteArray) (k : Nat) : standsTo due zs k due.length = stands due zs k := by
  unfold standsTo stands
  rw [List.take_of_length_le (l := normL due) (by rw [normL_length]; exact Nat.le_refl _)]
theorem standsTo_next {due zs : List ByteArray} {k q : Nat} {x y : ByteArray} (hx : zs[k + q]? = some x) (hy : due[q]? = some y) : standsTo due zs k (q + 1) = (standsTo due zs k q && decide (normS x = normS y)) := by
  have h1 : ((normL zs).drop k)[q]? = some (normS x) := by rw [List.getElem?_drop]; exact normL_at hx
  have h2 : (normL due)[q]? = some (normS y) := normL_at hy
  unfold standsTo
  rw [take_succ_of h1, take_succ_of h2]
  by_cases h : normS x = normS y
  · rw [h]; simp
  · have h3 : ¬ (((normL zs).drop k).take q ++ [normS x] = (normL due).take q ++ [normS y]) := by
      intro he
      have := congrArg List.getLast? he
      simp at this
      exact h this
    rw [decide_eq_false h3, decide_eq_false h]
    simp
end Go.Proofs.YthokekgdiebhjaaDoor
