/-
  A transcript is read back from its text: plain lists. No program is named here.
-/
import Derived.Test.YtnndkdkmhjpcpaaDoorFormTrans
namespace Go.Proofs.YtnndkdkmhjpcpaaDoor
open Go.RowKit
set_option linter.unusedVariables false

theorem mem_parts {b c : UInt8} {l : List UInt8} (h : c ∈ l) : c = b ∨ ∃ p ∈ parts b l, c ∈ p := by
  induction l with
  | nil => simp at h
  | cons d l ih =>
    unfold parts
    split
    · rename_i hd
      rcases List.mem_cons.1 h with rfl | h
      · exact .inl hd
      · rcases ih h with h1 | ⟨p, hp, hc⟩
        · exact .inl h1
        · exact .inr ⟨p, by simp [hp], hc⟩
    · cases hq : parts b l with
      | nil => exact absurd hq (parts_ne b l)
      | cons q qs =>
        rw [hq] at ih
        rcases List.mem_cons.1 h with rfl | h
        · exact .inr ⟨c :: q, by simp [consHead], by simp⟩
        · rcases ih h with h1 | ⟨p, hp, hc⟩
          · exact .inl h1
          · rcases List.mem_cons.1 hp with rfl | hp
            · exact .inr ⟨d :: p, by simp [consHead], by simp [hc]⟩
            · exact .inr ⟨p, by simp [consHead, hp], hc⟩
/-- The bytes of a text of a turn. -/
theorem text_byte {t : ByteArray} (h : textB t = true) : ∀ c ∈ t.data.toList, 32 ≤ c.toNat ∧ c.toNat ≤ 126 := by
  intro c hc
  unfold textB wordsB at h
  simp only [Bool.and_eq_true, List.all_eq_true] at h
  rcases mem_parts (b := 32) hc with rfl | ⟨p, hp, hcp⟩
  · decide
  · have h2 := h.2.2 ⟨p.toArray⟩ (by unfold partsV; exact List.mem_map_of_mem hp)
    unfold wordB allIn at h2
    simp only [Bool.and_eq_true, List.all_eq_true, decide_eq_true_eq] at h2
    have := h2.2 c hcp
    omega
theorem speaker_byte {t : ByteArray} (h : speakerB t = true) : ∀ c ∈ t.data.toList, 65 ≤ c.toNat ∧ c.toNat ≤ 90 := by
  intro c hc
  unfold speakerB allIn at h
  simp only [Bool.and_eq_true, List.all_eq_true, decide_eq_true_eq] at h
  exact h.2 c hc
/-- A line without its end. -/
def headT (c : TurnD) : List UInt8 := c.1.data.toList ++ ([58, 32] ++ c.2.data.toList)
theorem lineT_eq (c : TurnD) : lineT c = headT c ++ [10] := by simp [lineT, headT]
theorem head_no10 {c : TurnD} (h : turnB c = true) : (10 : UInt8) ∉ headT c := by
  unfold turnB at h
  simp only [Bool.and_eq_true] at h
  intro hm
  simp only [headT, List.mem_append, List.mem_cons, List.not_mem_nil, or_false] at hm
  rcases hm with hm | hm | hm
  · have := speaker_byte h.1 _ hm
    simp at this
  · rcases hm with hm | hm <;> exact absurd hm (by decide)
  · have := text_byte h.2 _ hm
    simp at this
theorem speaker_no58 {c : TurnD} (h : turnB c = true) : (58 : UInt8) ∉ c.1.data.toList := by
  unfold turnB at h
  simp only [Bool.and_eq_true] at h
  intro hm
  have := speaker_byte h.1 _ hm
  simp at this
theorem formT_cons (c : TurnD) (l : List TurnD) : formT (c :: l) = headT c ++ 10 :: formT l := by simp [formT, lineT, headT]
theorem cut_line {c : TurnD} (h : turnB c = true) (l : List TurnD) : Lib.cut (formT (c :: l)) [10] = (headT c, formT l, true) := by
  rw [formT_cons]
  exact cut_at _ (head_no10 h)
theorem index_two {a b : UInt8} (r : List UInt8) : ∀ p : List UInt8, a ∉ p → Lib.index (p ++ a :: b :: r) [a, b] = (p.length : Int)
  | [], _ => by
    have h : [a, b].isPrefixOf (a :: b :: r) = true := by simp
    show Lib.index (a :: b :: r) [a, b] = 0
    rw [Lib.index, h]
    rfl
  | c :: p, hp => by
    simp only [List.mem_cons, not_or] at hp
    have ih := index_two (a := a) (b := b) r p hp.2
    have h : [a, b].isPrefixOf (c :: (p ++ a :: b :: r)) = false := by show (a == c && _) = false; rw [beq_false_of_ne hp.1, Bool.false_and]
    show Lib.index (c :: (p ++ a :: b :: r)) [a, b] = ((p.length + 1 : Nat) : Int)
    rw [Lib.index, h, ih]
    have : ((p.length : Int) == -1) = false := by rw [beq_eq_false_iff_ne]; omega
    simp [this]
theorem cut_two {a b : UInt8} {p : List UInt8} (r : List UInt8) (h : a ∉ p) : Lib.cut (p ++ a :: b :: r) [a, b] = (p, r, true) := by
  unfold Lib.cut
  rw [index_two r p h, if_pos (by omega)]
  simp only [Int.toNat_natCast, List.take_left', List.length_cons, List.length_nil]
  rw [← List.drop_drop, List.drop_left]
  rfl
theorem cut_head {c : TurnD} (h : turnB c = true) : Lib.cut (headT c) [58, 32] = (c.1.data.toList, c.2.data.toList, true) := cut_two _ (speaker_no58 h)
theorem cut_len1 (s sep : List UInt8) : (Lib.cut s sep).1.length ≤ s.length := by
  unfold Lib.cut
  split
  · simp only [List.length_take]; omega
  · simp
theorem cut_len2 (s sep : List UInt8) : (Lib.cut s sep).2.1.length ≤ s.length := by
  unfold Lib.cut
  split
  · simp only [List.length_drop]; omega
  · simp
theorem cut_less {s sep : List UInt8} (h : s ≠ []) (hs : sep ≠ []) : (Lib.cut s sep).2.1.length < s.length := by
  have h1 : 0 < s.length := List.length_pos_iff.2 h
  have h2 : 0 < sep.length := List.length_pos_iff.2 hs
  unfold Lib.cut
  split
  · simp only [List.length_drop]; omega
  · simpa using h1

/-- What is read is a transcript's text, whatever transcript it is. -/
def Reading (s : ByteArray) (l' : List TurnD) (R : List UInt8) : Prop := ∀ l, transB l = true → transText l = s → ∃ k, l' = l.take k ∧ R = formT (l.drop k) ∧ k ≤ l.length
theorem reading_start (s : ByteArray) : Reading s [] s.data.toList := fun l _ h => ⟨0, rfl, by rw [← h]; rfl, Nat.zero_le _⟩
theorem reading_step {s : ByteArray} {l' : List TurnD} {R : List UInt8} (h : Reading s l' R) (hR : R ≠ []) :
    Reading s (l' ++ [(⟨(Lib.cut (Lib.cut R [10]).1 [58, 32]).1.toArray⟩, ⟨(Lib.cut (Lib.cut R [10]).1 [58, 32]).2.1.toArray⟩)]) (Lib.cut R [10]).2.1 := by
  intro l hv hs
  obtain ⟨k, rfl, rfl, hk⟩ := h l hv hs
  have hkl : k < l.length := by
    rcases Nat.lt_or_ge k l.length with h1 | h1
    · exact h1
    · rw [List.drop_eq_nil_of_le h1] at hR
      exact absurd rfl hR
  obtain ⟨c, hc⟩ := some_at l hkl
  have hd : l.drop k = c :: l.drop (k + 1) := by
    rw [List.drop_eq_getElem_cons hkl]
    congr 1
    have := List.getElem?_eq_getElem hkl
    rw [hc] at this
    exact (Option.some.inj this).symm
  have ht := trans_at hv hc
  rw [hd, cut_line ht]
  simp only [cut_head ht]
  refine ⟨k + 1, ?_, rfl, hkl⟩
  rw [take_succ_of hc]
theorem reading_end {s : ByteArray} {l' l : List TurnD} {R : List UInt8} (h : Reading s l' R) (he : R = [] ∨ 30 < l'.length) (hv : transB l = true) (hs : transText l = s) : l' = l := by
  obtain ⟨k, rfl, rfl, hk⟩ := h l hv hs
  rcases he with he | he
  · rcases Nat.lt_or_ge k l.length with h1 | h1
    · obtain ⟨c, hc⟩ := some_at l h1
      have hd : l.drop k = l[k] :: l.drop (k + 1) := List.drop_eq_getElem_cons h1
      rw [hd, formT_cons] at he
      simp at he
    · exact List.take_of_length_le h1
  · have := trans_len hv
    have h2 := List.length_take_le k l
    have h3 : (l.take k).length ≤ l.length := by rw [List.length_take]; omega
    omega
/-- Two transcripts of one text are one. -/
theorem transText_inj {l m : List TurnD} (hl : transB l = true) (hm : transB m = true) (h : transText l = transText m) : l = m := by
  have hf : formT l = formT m := by
    have := congrArg (fun b : ByteArray => b.data.toList) h
    simpa [transText] using this
  clear h
  induction l generalizing m with
  | nil =>
    cases m with
    | nil => rfl
    | cons c m => rw [formT_cons] at hf; simp [formT] at hf
  | cons c l ih =>
    cases m with
    | nil => rw [formT_cons] at hf; simp [formT] at hf
    | cons d m =>
      have hc : turnB c = true := trans_at hl (k := 0) rfl
      have hd : turnB d = true := trans_at hm (k := 0) rfl
      have h1 := cut_line hc l
      rw [hf, cut_line hd m] at h1
      simp only [Prod.mk.injEq, and_true] at h1
      have h2 := cut_head hc
      rw [← h1.1, cut_head hd] at h2
      simp only [Prod.mk.injEq, and_true] at h2
      have e : c = d := by
        obtain ⟨⟨a⟩, ⟨b⟩⟩ := c
        obtain ⟨⟨a'⟩, ⟨b'⟩⟩ := d
        simp at h2
        obtain ⟨h3, h4⟩ := h2
        cases a; cases b; cases a'; cases b'
        simp_all
      have tl : transB l = true := by
        unfold transB at hl ⊢
        simp only [Bool.and_eq_true, decide_eq_true_eq, List.all_cons, List.length_cons] at hl ⊢
        exact ⟨by omega, hl.2.2⟩
      have tm : transB m = true := by
        unfold transB at hm ⊢
        simp only [Bool.and_eq_true, decide_eq_true_eq, List.all_cons, List.length_cons] at hm ⊢
        exact ⟨by omega, hm.2.2⟩
      rw [e, ih tl tm h1.2.symm]
end Go.Proofs.YtnndkdkmhjpcpaaDoor
