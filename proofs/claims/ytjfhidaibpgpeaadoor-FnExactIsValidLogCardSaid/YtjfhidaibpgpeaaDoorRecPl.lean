/-
  Records and logs as plain data: what both sides decode. No program is named here.
-/
import Derived.Test.YtjfhidaibpgpeaaDoorBase
import Derived.Lib.ItoaNum
namespace Go.Proofs.YtjfhidaibpgpeaaDoor
open Go.RowKit
set_option linter.unusedVariables false

/-! ### Digits -/
theorem decP_small {n : Nat} (h : n < 10) : Lib.decDigits n = [UInt8.ofNat (48 + n)] := by rw [Lib.decDigits, dif_pos h]
theorem decP_big {n : Nat} (h : ¬ n < 10) : Lib.decDigits n = Lib.decDigits (n / 10) ++ [UInt8.ofNat (48 + n % 10)] := by rw [Lib.decDigits, dif_neg h]
theorem dec_digit (n : Nat) : ∀ c ∈ Lib.decDigits n, 48 ≤ c.toNat ∧ c.toNat ≤ 57 := by
  induction n using Nat.strongRecOn with
  | _ n ih =>
    intro c hc
    by_cases h : n < 10
    · rw [decP_small h, List.mem_singleton] at hc
      subst hc
      rw [UInt8.toNat_ofNat']
      omega
    · rw [decP_big h, List.mem_append, List.mem_singleton] at hc
      rcases hc with hc | hc
      · exact ih _ (by omega) c hc
      · subst hc
        rw [UInt8.toNat_ofNat']
        omega
theorem dec_pow (d : Nat) : ∀ n, n < 10 ^ (d + 1) → (Lib.decDigits n).length ≤ d + 1 := by
  induction d with
  | zero => intro n h; rw [decP_small (by omega)]; simp
  | succ d ih =>
    intro n h
    by_cases h1 : n < 10
    · rw [decP_small h1]; simp
    · rw [decP_big h1, List.length_append, List.length_singleton]
      have := ih (n / 10) (by rw [Nat.pow_succ] at h; omega)
      omega

/-! ### Records -/
abbrev RecD := ByteArray × ByteArray
def recC (c : UInt8) : Bool := decide (32 ≤ c.toNat) && decide (c.toNat ≤ 126) && !(c == 35)
def plainB (s : ByteArray) : Bool := s.data.toList.all recC
def recB (e : RecD) : Bool := decide (e.1.size ≠ 0) && (plainB e.1 && decide (e.1.size ≤ 90)) && !e.1.data.toList.contains 62 && (plainB e.2 && decide (e.2.size ≤ 200))
theorem rec_iff (e : RecD) : recB e = true ↔ e.1.size ≠ 0 ∧ plainB e.1 = true ∧ e.1.size ≤ 90 ∧ (62 : UInt8) ∉ e.1.data.toList ∧ plainB e.2 = true ∧ e.2.size ≤ 200 := by
  simp only [recB, Bool.and_eq_true, decide_eq_true_eq, Bool.not_eq_true', List.contains_eq_mem, decide_eq_false_iff_not]
  constructor
  · rintro ⟨⟨⟨a, b, c⟩, d⟩, f, g⟩; exact ⟨a, b, c, d, f, g⟩
  · rintro ⟨a, b, c, d, f, g⟩; exact ⟨⟨⟨a, b, c⟩, d⟩, f, g⟩
theorem plain_no35 {s : ByteArray} (h : plainB s = true) : (35 : UInt8) ∉ s.data.toList := by
  intro hm
  have := List.all_eq_true.1 h _ hm
  simp [recC] at this
theorem plain_no10 {s : ByteArray} (h : plainB s = true) : (10 : UInt8) ∉ s.data.toList := by
  intro hm
  have := List.all_eq_true.1 h _ hm
  revert this; decide

def sumL (l : List UInt8) : Nat := l.foldl (fun n c => (41 * n + c.toNat + 1) % 999979) 7
theorem sumL_snoc (l : List UInt8) (c : UInt8) : sumL (l ++ [c]) = (41 * sumL l + c.toNat + 1) % 999979 := by simp [sumL, List.foldl_append]
theorem sumL_nil : sumL [] = 7 := rfl
theorem sumL_lt (l : List UInt8) : sumL l < 999979 := by
  rcases List.eq_nil_or_concat l with rfl | ⟨a, c, rfl⟩
  · decide
  · rw [List.concat_eq_append, sumL_snoc]; exact Nat.mod_lt _ (by decide)
def sealL (l : List UInt8) : List UInt8 := l ++ 35 :: Lib.decDigits (sumL l)
def headR (k : Nat) (e : RecD) : List UInt8 := Lib.decDigits k ++ 32 :: (e.1.data.toList ++ 62 :: e.2.data.toList)
def lineR (k : Nat) (e : RecD) : List UInt8 := sealL (headR k e)
theorem seal_len (l : List UInt8) : (sealL l).length ≤ l.length + 7 := by
  have h := dec_pow 5 (sumL l) (by have := sumL_lt l; omega)
  simp only [sealL, List.length_append, List.length_cons]
  omega
theorem headR_len {k : Nat} {e : RecD} (hk : k ≤ 59) (h : recB e = true) : (headR k e).length ≤ 294 := by
  obtain ⟨-, -, h2, -, -, h3⟩ := (rec_iff e).1 h
  have hd := dec_pow 1 k (by omega)
  have h4 : e.1.data.toList.length = e.1.size := rfl
  have h5 : e.2.data.toList.length = e.2.size := rfl
  simp only [headR, List.length_append, List.length_cons]
  omega
theorem lineR_len {k : Nat} {e : RecD} (hk : k ≤ 59) (h : recB e = true) : (lineR k e).length ≤ 301 := by
  have h1 := headR_len hk h
  have h2 := seal_len (headR k e)
  unfold lineR
  omega
theorem headR_no35 {k : Nat} {e : RecD} (h : recB e = true) : (35 : UInt8) ∉ headR k e := by
  obtain ⟨-, h1, -, -, h2, -⟩ := (rec_iff e).1 h
  intro hm
  simp only [headR, List.mem_append, List.mem_cons] at hm
  rcases hm with hm | hm | hm | hm | hm
  · have := dec_digit k _ hm; revert this; decide
  · revert hm; decide
  · exact plain_no35 h1 hm
  · revert hm; decide
  · exact plain_no35 h2 hm
theorem dec_no {n : Nat} {c : UInt8} (h : ¬ (48 ≤ c.toNat ∧ c.toNat ≤ 57)) : c ∉ Lib.decDigits n := fun hm => h (dec_digit n c hm)
theorem lineR_no10 {k : Nat} {e : RecD} (h : recB e = true) : (10 : UInt8) ∉ lineR k e := by
  obtain ⟨-, h1, -, -, h2, -⟩ := (rec_iff e).1 h
  intro hm
  simp only [lineR, sealL, headR, List.mem_append, List.mem_cons] at hm
  rcases hm with (hm | hm | hm | hm | hm) | hm | hm
  · exact dec_no (by decide) hm
  · revert hm; decide
  · exact plain_no10 h1 hm
  · revert hm; decide
  · exact plain_no10 h2 hm
  · revert hm; decide
  · exact dec_no (by decide) hm

/-! ### Decoding a line -/
def cutHead (L : List UInt8) : List UInt8 := (Lib.cut L [35]).1
def cutBoth (L : List UInt8) : List UInt8 := (Lib.cut (cutHead L) [32]).2.1
def cutRec (L : List UInt8) : RecD := (⟨(Lib.cut (cutBoth L) [62]).1.toArray⟩, ⟨(Lib.cut (cutBoth L) [62]).2.1.toArray⟩)
/-- Whether a line without its newline is the record with number k. -/
def Dec (k : Nat) (L : List UInt8) : Prop := k ≤ 59 ∧ ∃ e, recB e = true ∧ lineR k e = L
theorem bytes_of (x : ByteArray) : (⟨x.data.toList.toArray⟩ : ByteArray) = x := by cases x; simp
theorem cutRec_line {k : Nat} {e : RecD} (h : recB e = true) : cutRec (lineR k e) = e := by
  obtain ⟨-, h1, -, h62, h2, -⟩ := (rec_iff e).1 h
  have a : cutHead (lineR k e) = headR k e := by unfold cutHead lineR sealL; rw [cut_at _ (headR_no35 h)]
  have b : cutBoth (lineR k e) = e.1.data.toList ++ 62 :: e.2.data.toList := by unfold cutBoth; rw [a, headR, cut_at _ (dec_no (by decide))]
  unfold cutRec
  rw [b, cut_at _ h62, bytes_of, bytes_of]
theorem dec_iff (k : Nat) (L : List UInt8) : Dec k L ↔ k ≤ 59 ∧ recB (cutRec L) = true ∧ lineR k (cutRec L) = L := by
  constructor
  · rintro ⟨hk, e, he, rfl⟩
    rw [cutRec_line he]
    exact ⟨hk, he, rfl⟩
  · rintro ⟨hk, he, hl⟩
    exact ⟨hk, _, he, hl⟩
/-- The reference's way: what stands ahead of the first '#' begins with the number and a blank. -/
def headP (L : List UInt8) : List UInt8 := (parts 35 L).headD []
def askP (k : Nat) (L : List UInt8) : List UInt8 := (parts 62 ((headP L).drop ((Lib.decDigits k).length + 1))).headD []
def aheadP (k : Nat) : List UInt8 := Lib.decDigits k ++ [32]
theorem headP_line {k : Nat} {e : RecD} (h : recB e = true) : headP (lineR k e) = headR k e := by
  unfold headP lineR sealL
  rw [parts_cut _ (headR_no35 h)]
  rfl
theorem rest_line {k : Nat} {e : RecD} (h : recB e = true) : (headP (lineR k e)).drop ((Lib.decDigits k).length + 1) = e.1.data.toList ++ 62 :: e.2.data.toList := by
  rw [headP_line h, headR, List.drop_append, List.drop_of_length_le (by omega)]
  simp
theorem ask_line {k : Nat} {e : RecD} (h : recB e = true) : askP k (lineR k e) = e.1.data.toList := by
  obtain ⟨-, -, -, h62, -, -⟩ := (rec_iff e).1 h
  unfold askP
  rw [rest_line h, parts_cut _ h62]
  rfl
theorem dec_ahead {k : Nat} {L : List UInt8} (h : Dec k L) : (aheadP k).length ≤ (headP L).length ∧ (headP L).take (aheadP k).length = aheadP k := by
  obtain ⟨hk, e, he, rfl⟩ := h
  rw [headP_line he, headR, show Lib.decDigits k ++ 32 :: (e.1.data.toList ++ 62 :: e.2.data.toList) = aheadP k ++ (e.1.data.toList ++ 62 :: e.2.data.toList) by simp [aheadP]]
  refine ⟨by simp, by simp⟩
theorem dec_ask {k : Nat} {L : List UInt8} (h : Dec k L) : (askP k L).length ≠ ((headP L).drop ((Lib.decDigits k).length + 1)).length := by
  obtain ⟨hk, e, he, rfl⟩ := h
  rw [ask_line he, rest_line he]
  simp
def specRec (k : Nat) (L : List UInt8) : RecD := (⟨(askP k L).toArray⟩, ⟨(((headP L).drop ((Lib.decDigits k).length + 1)).drop ((askP k L).length + 1)).toArray⟩)
theorem specRec_line {k : Nat} {e : RecD} (h : recB e = true) : specRec k (lineR k e) = e := by
  unfold specRec
  rw [ask_line h, rest_line h]
  have h1 : e.1.data.toList.length + 1 = (e.1.data.toList ++ [62]).length := by simp
  rw [h1, show e.1.data.toList ++ 62 :: e.2.data.toList = (e.1.data.toList ++ [62]) ++ e.2.data.toList by simp, List.drop_left, bytes_of, bytes_of]
theorem dec_spec (k : Nat) (L : List UInt8) : Dec k L ↔ k ≤ 59 ∧ recB (specRec k L) = true ∧ lineR k (specRec k L) = L := by
  constructor
  · rintro ⟨hk, e, he, rfl⟩
    rw [specRec_line he]
    exact ⟨hk, he, rfl⟩
  · rintro ⟨hk, he, hl⟩
    exact ⟨hk, _, he, hl⟩
theorem decR_len {k : Nat} {L : List UInt8} (h : Dec k L) : L.length ≤ 301 := by
  obtain ⟨hk, e, he, rfl⟩ := h
  exact lineR_len hk he

/-! ### A text of records -/
/-- The next record, number k, of a text: how many bytes it takes with its newline. -/
def Next (k : Nat) (u : List UInt8) (d : Nat) : Prop := ∃ L r, u = L ++ 10 :: r ∧ Dec k L ∧ d = L.length + 1
theorem dec_no10 {k : Nat} {L : List UInt8} (h : Dec k L) : (10 : UInt8) ∉ L := by
  obtain ⟨hk, e, he, rfl⟩ := h
  exact lineR_no10 he
theorem next_one {k : Nat} {u : List UInt8} {d d' : Nat} (h : Next k u d) (h' : Next k u d') : d = d' := by
  obtain ⟨L, r, rfl, hd, rfl⟩ := h
  obtain ⟨L', r', he, hd', rfl⟩ := h'
  have h1 := parts_cut r (dec_no10 hd)
  rw [he, parts_cut r' (dec_no10 hd')] at h1
  injection h1 with h1 _
  rw [h1]
theorem next_pos {k : Nat} {u : List UInt8} {d : Nat} (h : Next k u d) : 0 < d ∧ d ≤ u.length ∧ d ≤ 302 ∧ k ≤ 59 := by
  obtain ⟨L, r, rfl, hd, rfl⟩ := h
  have := decR_len hd
  have hk := hd.1
  simp only [List.length_append, List.length_cons]
  omega
theorem next_take {k : Nat} {u : List UInt8} {j d : Nat} : Next k (u.take j) d ↔ Next k u d ∧ d ≤ j := by
  constructor
  · rintro ⟨L, r, he, hd, rfl⟩
    have hl : L.length + 1 ≤ j := by
      have := congrArg List.length he
      simp only [List.length_take, List.length_append, List.length_cons] at this
      omega
    refine ⟨⟨L, r ++ u.drop j, ?_, hd, rfl⟩, hl⟩
    conv => lhs; rw [← List.take_append_drop j u]
    rw [he]
    simp
  · rintro ⟨⟨L, r, rfl, hd, rfl⟩, hj⟩
    refine ⟨L, r.take (j - (L.length + 1)), ?_, hd, rfl⟩
    rw [List.take_append, List.take_of_length_le (by omega), show j - L.length = (j - (L.length + 1)) + 1 by omega, List.take_succ_cons]
theorem next_yes_parts {k : Nat} {u : List UInt8} (h2 : 2 ≤ (parts 10 u).length) (hd : Dec k ((parts 10 u).headD [])) : Next k u (((parts 10 u).headD []).length + 1) := by
  have hm : (10 : UInt8) ∈ u := Decidable.byContradiction fun hm => by rw [parts_nosep hm] at h2; simp at h2
  obtain ⟨p, r, rfl, hp⟩ := split_first hm
  rw [parts_cut r hp] at hd ⊢
  exact ⟨p, r, rfl, hd, rfl⟩
theorem next_no_parts {k : Nat} {u : List UInt8} (h : ¬ (2 ≤ (parts 10 u).length ∧ Dec k ((parts 10 u).headD []))) : ∀ d, ¬ Next k u d := by
  rintro d ⟨L, r, rfl, hd, rfl⟩
  refine h ?_
  rw [parts_cut r (dec_no10 hd)]
  refine ⟨?_, hd⟩
  have := List.length_pos_iff.2 (parts_ne 10 r)
  simp only [List.length_cons]
  omega
theorem next_yes_cut {k : Nat} {u : List UInt8} (h2 : (Lib.cut u [10]).2.2 = true) (hd : Dec k (Lib.cut u [10]).1) : Next k u ((Lib.cut u [10]).1.length + 1) := by
  have hm : (10 : UInt8) ∈ u := Decidable.byContradiction fun hm => by rw [cut_no hm] at h2; cases h2
  obtain ⟨p, r, rfl, hp⟩ := split_first hm
  rw [cut_at r hp] at hd ⊢
  exact ⟨p, r, rfl, hd, rfl⟩
theorem next_no_cut {k : Nat} {u : List UInt8} (h : ¬ ((Lib.cut u [10]).2.2 = true ∧ Dec k (Lib.cut u [10]).1)) : ∀ d, ¬ Next k u d := by
  rintro d ⟨L, r, rfl, hd, rfl⟩
  refine h ?_
  rw [cut_at r (dec_no10 hd)]
  exact ⟨rfl, hd⟩
/-- After n records the text has been read up to a. -/
inductive Pos (s : List UInt8) : Nat → Nat → Prop
  | zero : Pos s 0 0
  | next {n a d : Nat} : Pos s n a → Next n (s.drop a) d → Pos s (n + 1) (a + d)
theorem pos_one {s : List UInt8} {n a b : Nat} (h : Pos s n a) (h' : Pos s n b) : a = b := by
  induction h generalizing b with
  | zero => cases h'; rfl
  | next h1 h2 ih =>
    cases h' with
    | next h3 h4 =>
      have := ih h3
      subst this
      rw [next_one h2 h4]
theorem pos_prev {s : List UInt8} {n a : Nat} (h : Pos s n a) : ∀ m, m ≤ n → ∃ b, Pos s m b := by
  induction h with
  | zero => intro m hm; exact ⟨0, by rw [show m = 0 by omega]; exact .zero⟩
  | @next n a d h1 h2 ih =>
    intro m hm
    rcases Nat.lt_or_ge m (n + 1) with h | h
    · exact ih m (by omega)
    · exact ⟨_, by rw [show m = n + 1 by omega]; exact .next h1 h2⟩
theorem pos_len {s : List UInt8} {n a : Nat} (h : Pos s n a) : a ≤ s.length ∧ a ≤ 302 * n ∧ n ≤ 60 ∧ n ≤ a := by
  induction h with
  | zero => simp
  | next h1 h2 ih =>
    have := next_pos h2
    simp only [List.length_drop] at this
    omega
def Opened (s : List UInt8) (n a : Nat) : Prop := Pos s n a ∧ ∀ d, ¬ Next n (s.drop a) d
theorem opened_lt {s : List UInt8} {n a m b : Nat} (h : Opened s n a) (h' : Pos s m b) : m ≤ n := by
  rcases Nat.lt_or_ge n m with h1 | h1
  · obtain ⟨c, hc⟩ := pos_prev h' (n + 1) h1
    cases hc with
    | next h2 h3 =>
      have := pos_one h.1 h2
      subst this
      exact absurd h3 (h.2 _)
  · exact h1
theorem opened_one {s : List UInt8} {n a m b : Nat} (h : Opened s n a) (h' : Opened s m b) : n = m ∧ a = b := by
  have h1 := opened_lt h h'.1
  have h2 := opened_lt h' h.1
  obtain rfl : n = m := by omega
  exact ⟨rfl, pos_one h.1 h'.1⟩
theorem pos_take {s : List UInt8} {m n a : Nat} : Pos (s.take m) n a ↔ Pos s n a ∧ a ≤ m := by
  constructor
  · intro h
    induction h with
    | zero => exact ⟨.zero, Nat.zero_le _⟩
    | next h1 h2 ih =>
      rw [List.drop_take, next_take] at h2
      exact ⟨.next ih.1 h2.1, by omega⟩
  · rintro ⟨h, ha⟩
    induction h with
    | zero => exact .zero
    | next h1 h2 ih =>
      have h3 := ih (by omega)
      refine .next h3 ?_
      rw [List.drop_take, next_take]
      exact ⟨h2, by omega⟩
/-- Opened up to its very end: a text that is whole. -/
theorem opened_whole {s : List UInt8} {m n a : Nat} (hm : m ≤ s.length) (h : Opened (s.take m) n a) : a = m ↔ ∃ j, Pos s j m := by
  constructor
  · rintro rfl
    exact ⟨n, (pos_take.1 h.1).1⟩
  · rintro ⟨j, hj⟩
    have h1 : Pos (s.take m) j m := pos_take.2 ⟨hj, Nat.le_refl _⟩
    have h2 : Opened (s.take m) j m := ⟨h1, fun d hd => by
      have := next_pos hd
      simp only [List.length_drop, List.length_take] at this
      omega⟩
    exact (opened_one h h2).2
/-- A log that is valid. -/
def LogOk (D P : List UInt8) (cnt : Int) : Prop := ∃ n, Opened (D ++ P) n (D ++ P).length ∧ (n : Int) = cnt ∧ ∃ j, Pos (D ++ P) j D.length
theorem logOk_short {D P : List UInt8} {cnt : Int} (h : LogOk D P cnt) : D.length + P.length ≤ 30000 := by
  obtain ⟨n, h1, -, -⟩ := h
  have := pos_len h1.1
  simp only [List.length_append] at this
  omega
end Go.Proofs.YtjfhidaibpgpeaaDoor
