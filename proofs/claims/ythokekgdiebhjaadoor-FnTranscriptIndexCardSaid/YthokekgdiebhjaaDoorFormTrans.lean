/-
  The text of a transcript: both FormatTranscript.
-/
import Derived.Test.YthokekgdiebhjaaDoorSpecText
namespace Go.Proofs.YthokekgdiebhjaaDoor
open Go.RowKit
set_option linter.unusedVariables false
set_option maxRecDepth 100000

def lineT (c : TurnD) : List UInt8 := c.1.data.toList ++ ([58, 32] ++ (c.2.data.toList ++ [10]))
def formT (l : List TurnD) : List UInt8 := l.flatMap lineT
theorem formT_take_succ {l : List TurnD} {k : Nat} {c : TurnD} (h : l[k]? = some c) : formT (l.take (k + 1)) = formT (l.take k) ++ lineT c := by
  rw [take_succ_of h]
  simp [formT]
theorem turn_sizes {l : List TurnD} (hv : transB l = true) {k : Nat} {c : TurnD} (h : l[k]? = some c) : c.1.size ≤ 12 ∧ c.2.size ≤ 2000 := by
  have := trans_at hv h
  simp only [turnB, speakerB, textB, Bool.and_eq_true, inB_iff, decide_eq_true_eq] at this
  omega
theorem formT_len {l : List TurnD} (hv : transB l = true) : ∀ k, k ≤ l.length → (formT (l.take k)).length ≤ k * 2015 := by
  intro k
  induction k with
  | zero => intro _; simp [formT]
  | succ k ih =>
    intro hk
    obtain ⟨c, hc⟩ := some_at l (show k < l.length by omega)
    have h1 := turn_sizes hv hc
    have h2 := ih (by omega)
    have h3 : c.1.data.toList.length = c.1.size := rfl
    have h4 : c.2.data.toList.length = c.2.size := rfl
    rw [formT_take_succ hc]
    simp only [lineT, List.length_append, List.length_cons, List.length_nil]
    omega
def transText (l : List TurnD) : ByteArray := ⟨(formT l).toArray⟩
def formTB (l : List TurnD) : ByteArray := if transB l then transText l else ⟨#[]⟩
theorem text_line (T : List UInt8) (s t : ByteArray) : (⟨(T ++ lineT (s, t)).toArray⟩ : ByteArray) = ⟨T.toArray⟩ ++ (s ++ ⟨#[58, 32]⟩ ++ t ++ ⟨#[10]⟩) := by
  obtain ⟨⟨ls⟩⟩ := s
  obtain ⟨⟨lt⟩⟩ := t
  have e1 : (⟨#[58, 32]⟩ : ByteArray) = ⟨[58, 32].toArray⟩ := rfl
  have e2 : (⟨#[10]⟩ : ByteArray) = ⟨[10].toArray⟩ := rfl
  rw [e1, e2]
  simp only [bytes_mk, lineT, List.append_assoc]
theorem text_line2 (T : List UInt8) (s t : ByteArray) : (⟨(T ++ lineT (s, t)).toArray⟩ : ByteArray) = ⟨T.toArray⟩ ++ s ++ ⟨#[58, 32]⟩ ++ t ++ ⟨#[10]⟩ := by
  obtain ⟨⟨ls⟩⟩ := s
  obtain ⟨⟨lt⟩⟩ := t
  have e1 : (⟨#[58, 32]⟩ : ByteArray) = ⟨[58, 32].toArray⟩ := rfl
  have e2 : (⟨#[10]⟩ : ByteArray) = ⟨[10].toArray⟩ := rfl
  rw [e1, e2]
  simp only [bytes_mk, lineT, List.append_assoc]

end Go.Proofs.YthokekgdiebhjaaDoor
