/-
  The text of a track, as plain lists of bytes. No program is named here.
-/
import Derived.Test.YtjdnmknegpikcaaDoorNum
import Derived.Test.YtjdnmknegpikcaaDoorBase
namespace Go.Proofs.YtjdnmknegpikcaaDoor
set_option linter.unusedVariables false

def cueText (k : Nat) (c : CueD) : List UInt8 := Lib.decDigits (k + 1) ++ [10] ++ timeOf c.1.toNat ++ [32, 45, 45, 62, 32] ++ timeOf c.2.1.toNat ++ [10] ++ c.2.2.data.toList ++ [10, 10]
def textFrom : Nat → List CueD → List UInt8
  | _, [] => []
  | k, c :: l => cueText k c ++ textFrom (k + 1) l
def textL (l : List CueD) : List UInt8 := textFrom 0 l
theorem textFrom_snoc (l : List CueD) (c : CueD) : ∀ k, textFrom k (l ++ [c]) = textFrom k l ++ cueText (k + l.length) c := by
  induction l with
  | nil => intro k; simp [textFrom]
  | cons d l ih =>
    intro k
    simp only [List.cons_append, textFrom, ih (k + 1), List.length_cons, List.append_assoc]
    rw [show k + 1 + l.length = k + (l.length + 1) by omega]
theorem text_take_succ {l : List CueD} {k : Nat} {c : CueD} (h : l[k]? = some c) : textL (l.take (k + 1)) = textL (l.take k) ++ cueText k c := by
  have hk : k < l.length := (List.getElem?_eq_some_iff.1 h).1
  rw [take_succ_of h, textL, textFrom_snoc, Nat.zero_add, List.length_take, Nat.min_eq_left (by omega)]
  rfl
theorem time_len {n : Nat} (hn : n ≤ 99999999) : (timeOf n).length ≤ 4403 := by
  have l1 := pad_len (D := 2) (n := n / 3600000) (by omega) (by omega)
  have l2 := pad_len (D := 2) (n := n / 60000 % 60) (by omega) (by omega)
  have l3 := pad_len (D := 2) (n := n / 1000 % 60) (by omega) (by omega)
  have l4 := pad_len (D := 3) (n := n % 1000) (by omega) (by omega)
  simp only [timeOf, timeL, List.length_append, List.length_cons, List.length_nil]
  omega
/-- What a valid track tells of a cue. -/
theorem valid_at {l : List CueD} (hv : validB l = true) {k : Nat} {c : CueD} (h : l[k]? = some c) : 0 ≤ c.1 ∧ c.1 < c.2.1 ∧ c.2.1 ≤ 99999999 ∧ c.2.2.size ≤ 120 ∧ l.length ≤ 30 ∧ k < 30 := by
  have hk : k < l.length := (List.getElem?_eq_some_iff.1 h).1
  obtain ⟨a, b, rfl, rfl⟩ := split_at h
  simp only [validB, Bool.and_eq_true, decide_eq_true_eq] at hv
  obtain ⟨h30, hch⟩ := hv
  rw [chain_append] at hch
  simp only [chainB, Bool.and_eq_true] at hch
  obtain ⟨h1, h2, -⟩ := hch
  have h0 := lastOf_nonneg h1
  obtain ⟨o1, o2, o3, o4, o5⟩ := okAt_yes h2
  simp only [captionB, Bool.and_eq_true, inB_iff] at o5
  refine ⟨by omega, o2, o4, by omega, h30, by omega⟩
theorem text_len {l : List CueD} (hv : validB l = true) : ∀ k, k ≤ l.length → (textL (l.take k)).length ≤ k * 10000 := by
  intro k
  induction k with
  | zero => intro _; simp [textL, textFrom]
  | succ k ih =>
    intro hk
    obtain ⟨c, hc⟩ := some_at l (show k < l.length by omega)
    obtain ⟨v1, v2, v3, v4, v5, v6⟩ := valid_at hv hc
    rw [text_take_succ hc, List.length_append]
    have h1 := ih (by omega)
    have h2 := dec_len (k + 1)
    have h3 := time_len (n := c.1.toNat) (by omega)
    have h4 := time_len (n := c.2.1.toNat) (by omega)
    have h5 : c.2.2.data.toList.length = c.2.2.size := rfl
    simp only [cueText, List.length_append, List.length_cons, List.length_nil]
    omega
/-- The track's text as a string. -/
def textB (l : List CueD) : ByteArray := ⟨(textL l).toArray⟩
def formB (l : List CueD) : ByteArray := if validB l then textB l else ⟨#[]⟩
theorem mk_data (t : ByteArray) : (⟨t.data.toList.toArray⟩ : ByteArray) = t := by cases t; simp
end Go.Proofs.YtjdnmknegpikcaaDoor
