/-
  What Concordance returns, as plain values.
-/
import Derived.Test.YthokekgdiebhjaaDoorSpecText
import Derived.Test.YthokekgdiebhjaaDoorNorm
import Derived.Test.YthokekgdiebhjaaDoorFormTrans
namespace Go.Proofs.YthokekgdiebhjaaDoor
set_option linter.unusedVariables false

/-! ### Joining lists of words -/
theorem joinS_nil : joinS [] = [] := by simp [joinS, joinB, List.intercalate]
theorem joinS_one (x : ByteArray) : joinS [x] = x.data.toList := by simp [joinS, joinB_one]
theorem joinS_cons (x y : ByteArray) (l : List ByteArray) : joinS (x :: y :: l) = x.data.toList ++ 32 :: joinS (y :: l) := by simp [joinS, joinB_cons]
theorem data_ne {x : ByteArray} (h : x.size ≠ 0) : x.data.toList ≠ [] := by
  intro h0
  have h1 : x.data.toList.length = 0 := by rw [h0]; rfl
  exact h h1
theorem joinS_ne {l : List ByteArray} (hl : l ≠ []) (h : ∀ x ∈ l, x.size ≠ 0) : joinS l ≠ [] := by
  cases l with
  | nil => exact absurd rfl hl
  | cons x l =>
    cases l with
    | nil => rw [joinS_one]; exact data_ne (h x (by simp))
    | cons y l => rw [joinS_cons]; simp
theorem joinS_pre (l : List ByteArray) (y : ByteArray) (m : List ByteArray) (hl : l ≠ []) : joinS (l ++ y :: m) = joinS l ++ 32 :: joinS (y :: m) := by
  induction l with
  | nil => exact absurd rfl hl
  | cons x l ih =>
    cases l with
    | nil => rw [List.cons_append, List.nil_append, joinS_cons, joinS_one]
    | cons z l => rw [List.cons_append, List.cons_append, joinS_cons, joinS_cons, ← List.cons_append, ih (by simp), List.append_assoc]; rfl

/-! ### The lines -/
def brk (x : ByteArray) : ByteArray := ⟨#[91]⟩ ++ x ++ ⟨#[93]⟩
theorem brk_size (x : ByteArray) : (brk x).size = x.size + 2 := by simp [brk, ByteArray.size_append]; show 1 + x.size + 1 = _; omega
def leftL (l : List ByteArray) (n W : Nat) : List ByteArray := (l.drop (n - W)).take (n - (n - W))
def rightL (l : List ByteArray) (n W : Nat) : List ByteArray := (l.drop (n + 1)).take (min l.length (n + 1 + W) - (n + 1))
def nearL (l : List ByteArray) (n W : Nat) (x : ByteArray) : List ByteArray := leftL l n W ++ brk x :: rightL l n W
def lineC (l : List ByteArray) (n W : Nat) (x : ByteArray) : ByteArray := ⟨(joinS (nearL l n W x)).toArray⟩
theorem leftL_len {l : List ByteArray} {n W : Nat} (h : n < l.length) : (leftL l n W).length = n - (n - W) := by simp [leftL]; omega
theorem rightL_len {l : List ByteArray} {n W : Nat} (h : n < l.length) : (rightL l n W).length = min l.length (n + 1 + W) - (n + 1) := by simp [rightL]; omega
theorem leftL_mem {l : List ByteArray} {n W : Nat} {x : ByteArray} (h : x ∈ leftL l n W) : x ∈ l := List.mem_of_mem_drop (List.mem_of_mem_take h)
theorem rightL_mem {l : List ByteArray} {n W : Nat} {x : ByteArray} (h : x ∈ rightL l n W) : x ∈ l := List.mem_of_mem_drop (List.mem_of_mem_take h)

def strB (l : List UInt8) : ByteArray := ⟨l.toArray⟩
theorem strB_data (x : ByteArray) : strB x.data.toList = x := by obtain ⟨⟨l⟩⟩ := x; rfl
theorem strB_append (a b : List UInt8) : strB (a ++ b) = strB a ++ strB b := (bytes_mk a b).symm
theorem strB_sp (l : List UInt8) : strB (32 :: l) = ⟨#[32]⟩ ++ strB l := strB_append [32] l
theorem strB_nil : strB [] = ⟨#[]⟩ := rfl
theorem strB_eq_nil {l : List UInt8} : strB l = ⟨#[]⟩ ↔ l = [] := by
  constructor
  · intro h
    have : (strB l).size = 0 := by rw [h]; rfl
    exact List.eq_nil_of_length_eq_zero this
  · rintro rfl; rfl
/-- The reference's line. -/
theorem mid_right {l : List ByteArray} {n W : Nat} (x : ByteArray) (hz : ∀ y ∈ l, y.size ≠ 0) :
    strB (joinS (brk x :: rightL l n W)) = if joinS (rightL l n W) = [] then brk x else brk x ++ ⟨#[32]⟩ ++ strB (joinS (rightL l n W)) := by
  cases hr : rightL l n W with
  | nil => rw [if_pos joinS_nil, joinS_one, strB_data]
  | cons y m =>
    have h1 : ∀ z ∈ y :: m, z.size ≠ 0 := fun z hz' => hz z (rightL_mem (by rw [hr]; exact hz'))
    rw [if_neg (joinS_ne (by simp) h1), joinS_cons, strB_append, strB_data, strB_sp, ByteArray.append_assoc]
theorem left_mid {l : List ByteArray} {n W : Nat} (x : ByteArray) (hz : ∀ y ∈ l, y.size ≠ 0) :
    lineC l n W x = if joinS (leftL l n W) = [] then strB (joinS (brk x :: rightL l n W)) else strB (joinS (leftL l n W)) ++ ⟨#[32]⟩ ++ strB (joinS (brk x :: rightL l n W)) := by
  show strB (joinS (leftL l n W ++ brk x :: rightL l n W)) = _
  cases hr : leftL l n W with
  | nil => rw [if_pos joinS_nil]; rfl
  | cons y m =>
    have h1 : ∀ z ∈ y :: m, z.size ≠ 0 := fun z hz' => hz z (leftL_mem (by rw [hr]; exact hz'))
    rw [if_neg (joinS_ne (by simp) h1), joinS_pre _ _ _ (by simp), strB_append, strB_sp, ByteArray.append_assoc]
theorem line_00 {l : List ByteArray} {n W : Nat} (x : ByteArray) (hz : ∀ y ∈ l, y.size ≠ 0) (h1 : strB (joinS (leftL l n W)) = ⟨#[]⟩) (h2 : strB (joinS (rightL l n W)) = ⟨#[]⟩) : lineC l n W x = brk x := by
  rw [left_mid x hz, if_pos (strB_eq_nil.1 h1), mid_right x hz, if_pos (strB_eq_nil.1 h2)]
theorem line_01 {l : List ByteArray} {n W : Nat} (x : ByteArray) (hz : ∀ y ∈ l, y.size ≠ 0) (h1 : strB (joinS (leftL l n W)) = ⟨#[]⟩) (h2 : ¬ strB (joinS (rightL l n W)) = ⟨#[]⟩) : lineC l n W x = brk x ++ ⟨#[32]⟩ ++ strB (joinS (rightL l n W)) := by
  rw [left_mid x hz, if_pos (strB_eq_nil.1 h1), mid_right x hz, if_neg (fun h => h2 (strB_eq_nil.2 h))]
theorem line_10 {l : List ByteArray} {n W : Nat} (x : ByteArray) (hz : ∀ y ∈ l, y.size ≠ 0) (h1 : ¬ strB (joinS (leftL l n W)) = ⟨#[]⟩) (h2 : strB (joinS (rightL l n W)) = ⟨#[]⟩) : lineC l n W x = strB (joinS (leftL l n W)) ++ ⟨#[32]⟩ ++ brk x := by
  rw [left_mid x hz, if_neg (fun h => h1 (strB_eq_nil.2 h)), mid_right x hz, if_pos (strB_eq_nil.1 h2)]
theorem line_11 {l : List ByteArray} {n W : Nat} (x : ByteArray) (hz : ∀ y ∈ l, y.size ≠ 0) (h1 : ¬ strB (joinS (leftL l n W)) = ⟨#[]⟩) (h2 : ¬ strB (joinS (rightL l n W)) = ⟨#[]⟩) : lineC l n W x = strB (joinS (leftL l n W)) ++ ⟨#[32]⟩ ++ (brk x ++ ⟨#[32]⟩ ++ strB (joinS (rightL l n W))) := by
  rw [left_mid x hz, if_neg (fun h => h1 (strB_eq_nil.2 h)), mid_right x hz, if_neg (fun h => h2 (strB_eq_nil.2 h))]
theorem joinS_len {B : Nat} : ∀ l : List ByteArray, (∀ x ∈ l, x.size ≤ B) → (joinS l).length ≤ l.length * (B + 1)
  | [], _ => by rw [joinS_nil]; simp
  | [x], h => by
    rw [joinS_one]
    have h1 := h x (by simp)
    have h2 : x.data.toList.length = x.size := rfl
    simp only [List.length_cons, List.length_nil]
    omega
  | x :: y :: l, h => by
    rw [joinS_cons, List.length_append, List.length_cons]
    have h1 := joinS_len (y :: l) (fun z hz => h z (by simp at hz ⊢; exact .inr hz))
    have h2 := h x (by simp)
    have h3 : x.data.toList.length = x.size := rfl
    have h4 : (x :: y :: l).length * (B + 1) = (y :: l).length * (B + 1) + B + 1 := by rw [List.length_cons, Nat.add_mul]; omega
    omega

def linesK (l : List ByteArray) (due : ByteArray) (W : Nat) : Nat → List ByteArray
  | 0 => []
  | j + 1 => linesK l due W j ++ (match l[j]? with | some x => if normS x = due then [lineC l j W x] else [] | none => [])
section
variable {l : List ByteArray} {due x : ByteArray} {W j : Nat}
theorem linesK_yes (h : l[j]? = some x) (hd : normS x = due) : linesK l due W (j + 1) = linesK l due W j ++ [lineC l j W x] := by simp [linesK, h, hd]
theorem linesK_no (h : l[j]? = some x) (hd : ¬ normS x = due) : linesK l due W (j + 1) = linesK l due W j := by simp [linesK, h, hd]
theorem linesK_len (l : List ByteArray) (due : ByteArray) (W : Nat) : ∀ j, (linesK l due W j).length ≤ j
  | 0 => by simp [linesK]
  | j + 1 => by
    have := linesK_len l due W j
    cases h : l[j]? with
    | none => simp [linesK, h]; omega
    | some x =>
      by_cases hd : normS x = due
      · rw [linesK_yes h hd]; simp; omega
      · rw [linesK_no h hd]; omega
end
def linesT (ts : List TurnD) (due : ByteArray) (W : Nat) : Nat → List ByteArray
  | 0 => []
  | k + 1 => linesT ts due W k ++ (match ts[k]? with | some c => linesK (wordsV c.2) due W (wordsV c.2).length | none => [])
theorem linesT_next {ts : List TurnD} {due : ByteArray} {W k : Nat} {c : TurnD} (h : ts[k]? = some c) : linesT ts due W (k + 1) = linesT ts due W k ++ linesK (wordsV c.2) due W (wordsV c.2).length := by simp [linesT, h]
theorem text_len {t : ByteArray} (h : textB t = true) : (wordsV t).length ≤ 40 ∧ ∀ x ∈ wordsV t, 1 ≤ x.size ∧ x.size ≤ 80 := by
  rw [text_words h]
  simp only [textB, wordsB, Bool.and_eq_true, decide_eq_true_eq, List.all_eq_true] at h
  refine ⟨h.2.1, fun x hx => ?_⟩
  have := h.2.2 x hx
  simp only [wordB, Bool.and_eq_true, inB_iff] at this
  omega
theorem text_some {t : ByteArray} (h : textB t = true) : 0 < (wordsV t).length := by
  rw [textB_eq] at h
  simp only [Bool.and_eq_true, decide_eq_true_eq] at h
  exact h.2.1
theorem turn_text {l : List TurnD} (hv : transB l = true) {k : Nat} {c : TurnD} (h : l[k]? = some c) : textB c.2 = true := by
  have := trans_at hv h
  simp only [turnB, Bool.and_eq_true] at this
  exact this.2
theorem text_split {t : ByteArray} (h : textB t = true) : splitB t = true := by
  rw [textB_eq] at h
  simp only [Bool.and_eq_true] at h
  exact h.1
theorem linesT_len {ts : List TurnD} (hv : transB ts = true) (due : ByteArray) (W : Nat) : ∀ k, (linesT ts due W k).length ≤ k * 40
  | 0 => by simp [linesT]
  | k + 1 => by
    have := linesT_len hv due W k
    cases h : ts[k]? with
    | none => simp [linesT, h]; omega
    | some c =>
      have h1 := (text_len (turn_text hv h)).1
      have h2 := linesK_len (wordsV c.2) due W (wordsV c.2).length
      rw [linesT_next h, List.length_append]
      omega

/-- Concordance's answer. -/
def concB (ts : List TurnD) (word : ByteArray) (wd : Int) : Bool := transB ts && (decide (word.size ≤ 80) && (!decide (normS word = ⟨#[]⟩) && inB wd 0 10))
def concL (ts : List TurnD) (word : ByteArray) (wd : Int) : List ByteArray := if concB ts word wd then linesT ts (normS word) wd.toNat ts.length else []
theorem concL_len (ts : List TurnD) (word : ByteArray) (wd : Int) : (concL ts word wd).length ≤ 1200 := by
  unfold concL
  split
  · rename_i h
    simp only [concB, Bool.and_eq_true] at h
    have h1 := linesT_len h.1 (normS word) wd.toNat ts.length
    have h2 := trans_len h.1
    omega
  · simp
end Go.Proofs.YthokekgdiebhjaaDoor
