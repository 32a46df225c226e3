/-
  What a turn put behind a transcript adds to the words that are said; how long a drawn transcript's text is. Plain values; no program is named here.
-/
import Derived.Test.YtnndkdkmhjpcpaaDoorSpeakPl
import Derived.Test.YtnndkdkmhjpcpaaDoorAppend
import Derived.Test.YtnndkdkmhjpcpaaDoorParsePl
namespace Go.Proofs.YtnndkdkmhjpcpaaDoor
open Go.RowKit
set_option linter.unusedVariables false

theorem words_count {s : ByteArray} (h : textB s = true) : (wordsV s).length = s.data.toList.count 32 + 1 := by
  rw [text_words h, partsV, List.length_map, parts_count]
theorem words_behind {a b : ByteArray} (ha : textB a = true) (hb : textB b = true) (hab : textB (behind a b) = true) : (wordsV (behind a b)).length = (wordsV a).length + (wordsV b).length := by
  rw [words_count ha, words_count hb, words_count hab]
  have : (behind a b).data.toList = a.data.toList ++ [32] ++ b.data.toList := by simp [behind, ByteArray.data_append]
  rw [this, List.count_append, List.count_append]
  have h1 : List.count (32 : UInt8) [32] = 1 := rfl
  omega
theorem said_app (l m : List TurnD) : allSaid (l ++ m) = allSaid l + allSaid m := by simp [allSaid, List.sum_append]
theorem said_one (c : TurnD) : allSaid [c] = (wordsV c.2).length := by simp [allSaid]
theorem said_out {l : List TurnD} {sp tx : ByteArray} (hl : transB l = true) (ht : turnB (sp, tx) = true) : allSaid (outT l sp tx) = allSaid l + (wordsV tx).length := by
  have htx : textB tx = true := by simp only [turnB, Bool.and_eq_true] at ht; exact ht.2
  unfold outT
  cases hg : l.getLast? with
  | none => simp only; rw [said_app, said_one]
  | some c =>
    simp only
    split
    · next h =>
      simp only [Bool.and_eq_true, decide_eq_true_eq] at h
      obtain ⟨ys, rfl⟩ := List.getLast?_eq_some_iff.1 hg
      have hc : textB c.2 = true := turn_text hl (k := ys.length) (by simp)
      have hs : (ys ++ [c]).set ((ys ++ [c]).length - 1) (c.1, behind c.2 tx) = ys ++ [(c.1, behind c.2 tx)] := by
        rw [List.length_append, List.length_singleton, Nat.add_sub_cancel, List.set_append_right _ _ (Nat.le_refl _), Nat.sub_self]
        rfl
      rw [hs, said_app, said_app, said_one, said_one, words_behind hc htx h.2]
      omega
    · rw [said_app, said_one]
theorem app_parts {l : List TurnD} {sp tx : ByteArray} (h : appB l sp tx = true) : transB l = true ∧ turnB (sp, tx) = true ∧ transB (outT l sp tx) = true := by
  have h' := h
  simp only [appB, Bool.and_eq_true, decide_eq_true_eq] at h'
  obtain ⟨h1, h2, h3⟩ := h'
  exact ⟨h1, h2, turn_yes h3 fun j c hc => outT_turns h1 h2 c (List.mem_of_getElem? hc)⟩
theorem formT_small {B : Nat} : ∀ l : List TurnD, (∀ c ∈ l, c.1.size + c.2.size ≤ B) → (formT l).length ≤ l.length * (B + 3)
  | [], _ => by simp [formT]
  | c :: l, h => by
    have h1 := formT_small l (fun x hx => h x (by simp [hx]))
    have h2 := h c (by simp)
    have e1 : c.1.data.toList.length = c.1.size := rfl
    have e2 : c.2.data.toList.length = c.2.size := rfl
    have : (formT (c :: l)).length = (lineT c).length + (formT l).length := by simp [formT]
    rw [this, List.length_cons, Nat.add_mul]
    simp only [lineT, List.length_append, List.length_cons, List.length_nil]
    omega
/-- A transcript, or the empty one where it is not valid, whose text this is. -/
theorem form_read (l : List TurnD) : ∃ m, transB m = true ∧ transText m = formTB l := by
  unfold formTB
  split
  · next h => exact ⟨l, h, rfl⟩
  · exact ⟨[], rfl, rfl⟩
theorem sum_bounds {ns : List ByteArray} {l : List TurnD} (hv : transB l = true) : ∀ z ∈ saysL ns l, 0 ≤ z ∧ z ≤ 1000000 := by
  intro z hz
  obtain ⟨s, _, rfl⟩ := List.mem_map.1 hz
  have h1 := said_le hv s l.length (Nat.le_refl _)
  rw [List.take_length] at h1
  have := trans_len hv
  omega
end Go.Proofs.YtnndkdkmhjpcpaaDoor
