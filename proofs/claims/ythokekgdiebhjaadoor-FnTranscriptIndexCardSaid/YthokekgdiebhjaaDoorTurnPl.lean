/-
  Turns of a transcript as plain data, and their cells; the tests of a transcript. No program is named here.
-/
import Derived.Test.YthokekgdiebhjaaDoorStrs
namespace Go.Proofs.YthokekgdiebhjaaDoor
open Go.RowKit
set_option linter.unusedVariables false

/-- A turn: its speaker, its text. -/
abbrev TurnD := ByteArray × ByteArray
def turnV (c : TurnD) : List Value := [.string c.1, .string c.2]
def turnsV (l : List TurnD) : List Value := l.flatMap turnV
theorem turnsV_length (l : List TurnD) : (turnsV l).length = l.length * 2 := by
  induction l with
  | nil => rfl
  | cons c l ih => simp only [turnsV, List.flatMap_cons, List.length_append, List.length_cons] at ih ⊢; rw [ih]; simp [turnV]; omega
theorem turnsV_snoc (l : List TurnD) (c : TurnD) : turnsV (l ++ [c]) = turnsV l ++ turnV c := by simp [turnsV]
theorem turnsV_at {l : List TurnD} {k : Nat} {c : TurnD} (h : l[k]? = some c) : (turnsV l)[k * 2]? = some (.string c.1) ∧ (turnsV l)[k * 2 + 1]? = some (.string c.2) := by
  obtain ⟨a, b, rfl, rfl⟩ := split_at h
  have e : turnsV (a ++ c :: b) = turnsV a ++ (turnV c ++ turnsV b) := by simp [turnsV]
  have hn := turnsV_length a
  refine ⟨?_, ?_⟩
  · rw [e, List.getElem?_append_right (by omega), hn, Nat.sub_self]; rfl
  · rw [e, List.getElem?_append_right (by omega), hn, show a.length * 2 + 1 - a.length * 2 = 1 by omega]; rfl
theorem turnsV_set {l : List TurnD} {k : Nat} (h : k < l.length) (c : TurnD) : ((turnsV l).set (k * 2) (.string c.1)).set (k * 2 + 1) (.string c.2) = turnsV (l.set k c) := by
  obtain ⟨x, hx⟩ : ∃ x, l[k]? = some x := ⟨_, List.getElem?_eq_getElem h⟩
  obtain ⟨a, b, rfl, rfl⟩ := split_at hx
  have e : turnsV (a ++ x :: b) = turnsV a ++ (turnV x ++ turnsV b) := by simp [turnsV]
  have e2 : turnsV ((a ++ x :: b).set a.length c) = turnsV a ++ (turnV c ++ turnsV b) := by rw [List.set_append_right _ _ (Nat.le_refl _)]; simp [turnsV]
  have hn := turnsV_length a
  rw [e, e2, List.set_append_right _ _ (by omega), List.set_append_right _ _ (by omega), hn, Nat.sub_self, show a.length * 2 + 1 - a.length * 2 = 1 by omega]
  rfl
/-- What a walk reads of the k-th turn. -/
theorem Reads.turn {w : World} {b off : Nat} {l : List TurnD} {k : Nat} {c : TurnD} (hc : ∀ j u, (turnsV l)[j]? = some u → w.cell? ⟨b, off + j, none⟩ = some u) (h : l[k]? = some c) :
    w.cell? ⟨b, off + k * 2, none⟩ = some (.string c.1) ∧ w.cell? ⟨b, off + k * 2 + 1, none⟩ = some (.string c.2) := by
  obtain ⟨h1, h2⟩ := turnsV_at h
  exact ⟨hc _ _ h1, by rw [Nat.add_assoc]; exact hc _ _ h2⟩
def zeroTurn : TurnD := (⟨#[]⟩, ⟨#[]⟩)
theorem made_turns (n : Nat) : (madeCells #[Value.string ⟨#[]⟩, .string ⟨#[]⟩] (n * 2)).toList = turnsV (List.replicate n zeroTurn) := by
  apply List.ext_getElem?
  intro j
  by_cases hj : j < n * 2
  · obtain ⟨q, r, hr, rfl⟩ : ∃ q r, (r = 0 ∨ r = 1) ∧ j = q * 2 + r := ⟨j / 2, j % 2, by omega, by omega⟩
    have hz : (List.replicate n zeroTurn)[q]? = some zeroTurn := by rw [List.getElem?_replicate, if_pos (by omega)]
    obtain ⟨h1, h2⟩ := turnsV_at hz
    rcases hr with rfl | rfl
    · rw [Nat.add_zero, h1]
      have hm : q * 2 % 2 = 0 := by omega
      have hj' : q * 2 < n * 2 := by omega
      simp [madeCells, hj', hm, zeroTurn]
    · rw [h2]
      have hm : (q * 2 + 1) % 2 = 1 := by omega
      simp [madeCells, hj, hm, zeroTurn]
  · rw [List.getElem?_eq_none (by simp [madeCells]; omega), List.getElem?_eq_none (by rw [turnsV_length]; simp; omega)]

/-- A row of turns that is filled from its head on. -/
def fillT (l : List TurnD) (k : Nat) : List TurnD := l.take k ++ List.replicate (l.length - k) zeroTurn
theorem fillT_zero (l : List TurnD) : fillT l 0 = List.replicate l.length zeroTurn := by simp [fillT]
theorem fillT_all (l : List TurnD) : fillT l l.length = l := by simp [fillT]
theorem fillT_length (l : List TurnD) {k : Nat} (h : k ≤ l.length) : (fillT l k).length = l.length := by simp [fillT]; omega
theorem fillT_at (l : List TurnD) {k : Nat} (h : k < l.length) : (fillT l k)[k]? = some zeroTurn := by
  unfold fillT
  rw [List.getElem?_append_right (by simp; omega)]
  simp only [List.length_take]
  rw [show k - min k l.length = 0 by omega]
  simp [show 0 < l.length - k by omega]
theorem fillT_set (l : List TurnD) {k : Nat} {c : TurnD} (h : l[k]? = some c) : (fillT l k).set k c = fillT l (k + 1) := by
  have hk : k < l.length := (List.getElem?_eq_some_iff.1 h).1
  unfold fillT
  rw [List.set_append_right _ _ (by simp; omega)]
  simp only [List.length_take]
  rw [show k - min k l.length = 0 by omega, show l.length - k = (l.length - (k + 1)) + 1 by omega, List.replicate_succ, List.set_cons_zero, List.take_add_one, h]
  simp
theorem Own.setTurn {w : World} {lo hi : Nat} {e : TypeId} {g cap n : Nat} {l : List TurnD} (h : Own w lo hi e 2 (.slice (some ⟨g, 0, none⟩) n cap) n (turnsV l)) {k : Nat} (hk : k < l.length) (c : TurnD) :
    Own ((w.setCell ⟨g, k * 2, none⟩ (.string c.1)).setCell ⟨g, k * 2 + 1, none⟩ (.string c.2)) lo hi e 2 (.slice (some ⟨g, 0, none⟩) n cap) n (turnsV (l.set k c)) := by
  rw [← turnsV_set hk]
  exact (h.set_ (k * 2) _).set_ (k * 2 + 1) _
theorem Own.turn {w : World} {lo hi : Nat} {e : TypeId} {g cap n : Nat} {l : List TurnD} (h : Own w lo hi e 2 (.slice (some ⟨g, 0, none⟩) n cap) n (turnsV l)) {k : Nat} {c : TurnD} (hk : l[k]? = some c) :
    w.cell? ⟨g, k * 2, none⟩ = some (.string c.1) ∧ w.cell? ⟨g, k * 2 + 1, none⟩ = some (.string c.2) := by
  have hl : (turnsV l).length = n * 2 := h.1.1
  have hkl : k < l.length := (List.getElem?_eq_some_iff.1 hk).1
  rw [turnsV_length] at hl
  obtain ⟨h1, h2⟩ := turnsV_at hk
  exact ⟨(h.1.cellAt _ (by omega)).trans h1, (h.1.cellAt _ (by omega)).trans h2⟩
theorem below_setTurn {B : Nat} {a w : World} (h : Below B a w) {g : Nat} (hg : B ≤ g) (i j : Nat) (u v : Value) : Below B a ((w.setCell ⟨g, i, none⟩ u).setCell ⟨g, j, none⟩ v) :=
  (h.setCell (p := ⟨g, i, none⟩) hg u).setCell (p := ⟨g, j, none⟩) hg v

section
variable {P : Program}
theorem wpList_append_two {wr : World} {v : Value} {n : Nat} {xs : List Value} {base : Nat} {e : TypeId} (hown : wr.ownsRow base e 2 v n xs) (hbase : base ≤ wr.heap.size)
    (s x : Operand) (t : TypeId) {z : Value} {bytes : Nat} (ht : P.underlying t = some (.slice e)) (hi : (P.info? e).map (fun i => (i.zero, i.size, i.bytes)) = some (some z, 2, bytes))
    (hbytes : (n + 1) * bytes ≤ 140737488355328) (hb : n + 1 ≤ maxLen)
    {ops : Array Oper} {rest : List Oper} {o : Oper} {a : Act} {Q : Exit → Act → World → Prop} {y0 y1 : Value} {g : Nat}
    (hh : o.guard = none ∧ o.op = .call { callee := .builtin .append, args := #[s, x], argTypes := #[t, t] } ∧ a.eval s = v ∧ a.eval x = .slice (some ⟨g, 0, none⟩) 1 1 ∧ y0.oneCell' = true ∧ y1.oneCell' = true ∧ z.cells.size = 2)
    (hg : g = wr.heap.size)
    (h : ∀ v' w', w'.ownsRow base e 2 v' (n + 1) (xs ++ [y0, y1]) → Below base wr w' → v'.ownBlock.isSome = true → wpList P ops Q rest (a.put o.dst v') w') :
    wpList P ops Q (o :: rest) a (wr.alloc (.cells #[y0, y1] e)) :=
  wpList_append_cells hown hbase s x t ht hi hbytes hb ⟨hh.1, hh.2.1, hh.2.2.1, hh.2.2.2.1, by simp [hh.2.2.2.2.1, hh.2.2.2.2.2.1], hh.2.2.2.2.2.2, rfl, by decide⟩ hg h
end

/-! ### Words, texts, speakers -/
def allIn (lo hi : Nat) (t : ByteArray) : Bool := t.data.toList.all fun c => decide (lo ≤ c.toNat) && decide (c.toNat ≤ hi)
theorem allIn_no {lo hi : Nat} {t : ByteArray} {k : Nat} (h : k < t.size) (hv : ¬ (lo ≤ t[k].toNat ∧ t[k].toNat ≤ hi)) : allIn lo hi t = false := by
  unfold allIn
  rw [List.all_eq_false]
  refine ⟨t[k], by simp [ByteArray.getElem_eq_getElem_data], ?_⟩
  simp only [Bool.and_eq_true, decide_eq_true_eq]
  exact hv
theorem allIn_yes {lo hi : Nat} {t : ByteArray} (h : ∀ k (hk : k < t.size), lo ≤ t[k].toNat ∧ t[k].toNat ≤ hi) : allIn lo hi t = true := by
  unfold allIn
  rw [List.all_eq_true]
  intro c hc
  obtain ⟨k, hk, rfl⟩ := List.getElem_of_mem hc
  simp only [Bool.and_eq_true, decide_eq_true_eq]
  exact h k (by simpa using hk)
def wordB (t : ByteArray) : Bool := inB t.size 1 80 && allIn 33 126 t
def wordsB (l : List ByteArray) : Bool := decide (l.length ≤ 40) && l.all wordB
def speakerB (t : ByteArray) : Bool := inB t.size 1 12 && allIn 65 90 t
def textB (t : ByteArray) : Bool := decide (t.size ≤ 2000) && wordsB (partsV 32 t)
def turnB (c : TurnD) : Bool := speakerB c.1 && textB c.2
def transB (l : List TurnD) : Bool := decide (l.length ≤ 30) && l.all turnB
/-- A word by the program's test: printable, without a blank. -/
theorem wordB_eq (t : ByteArray) : wordB t = (inB t.size 1 80 && (printB t && !(t.data.toList.contains 32))) := by
  unfold wordB
  congr 1
  rw [Bool.eq_iff_iff]
  unfold allIn printB
  simp only [List.all_eq_true, Bool.and_eq_true, decide_eq_true_eq, visible, Bool.not_eq_true', List.contains_eq_mem, decide_eq_false_iff_not]
  constructor
  · intro h
    refine ⟨fun c hc => by have := h c hc; omega, fun hm => ?_⟩
    have := h 32 hm
    simp at this
  · rintro ⟨h1, h2⟩ c hc
    have h3 := h1 c hc
    refine ⟨?_, h3.2⟩
    rcases Nat.lt_or_ge 32 c.toNat with h | h
    · omega
    · have : c = 32 := UInt8.toNat_inj.1 (by have : (32 : UInt8).toNat = 32 := rfl; omega)
      subst this
      exact absurd hc h2
/-- The words of a text: its parts that are not empty. -/
def wordsV (s : ByteArray) : List ByteArray := (partsV 32 s).filter fun p => decide (p.size ≠ 0)
def splitB (s : ByteArray) : Bool := decide (s.size ≤ 2000) && wordsB (wordsV s)
theorem partsV_data (c : UInt8) (s : ByteArray) : (partsV c s).map (·.data.toList) = parts c s.data.toList := by
  unfold partsV
  rw [List.map_map]
  conv => rhs; rw [← List.map_id (parts c s.data.toList)]
  exact List.map_congr_left fun x _ => by simp
theorem word_size {t : ByteArray} (h : wordB t = true) : t.size ≠ 0 := by
  unfold wordB at h
  simp only [Bool.and_eq_true, inB_iff] at h
  omega
theorem text_words {s : ByteArray} (h : textB s = true) : wordsV s = partsV 32 s := by
  unfold textB wordsB at h
  simp only [Bool.and_eq_true, List.all_eq_true] at h
  unfold wordsV
  rw [List.filter_eq_self]
  intro p hp
  have := word_size (h.2.2 p hp)
  simpa using this
def joinS (l : List ByteArray) : List UInt8 := joinB 32 (l.map (·.data.toList))
theorem joinS_parts (s : ByteArray) : joinS (partsV 32 s) = s.data.toList := by
  unfold joinS
  rw [partsV_data, join_parts]
/-- The reference's test of a text: its words, joined by blanks, are the text. -/
theorem textB_eq (s : ByteArray) : textB s = (splitB s && (decide (0 < (wordsV s).length) && decide ((⟨(joinS (wordsV s)).toArray⟩ : ByteArray) = s))) := by
  cases h : textB s with
  | true =>
    have hw := text_words h
    have h2 := h
    unfold textB at h2
    simp only [Bool.and_eq_true] at h2
    have hne : 0 < (partsV 32 s).length := by
      have := parts_count 32 s.data.toList
      unfold partsV
      rw [List.length_map]
      omega
    have e1 : splitB s = true := by
      unfold splitB
      rw [hw, h2.1, h2.2]
      rfl
    rw [e1, hw, joinS_parts, decide_eq_true hne, decide_eq_true (show (⟨s.data.toList.toArray⟩ : ByteArray) = s by cases s; simp)]
    rfl
  | false =>
    symm
    rw [Bool.eq_false_iff]
    intro hh
    simp only [Bool.and_eq_true, decide_eq_true_eq] at hh
    obtain ⟨h1, h2, h3⟩ := hh
    have h4 : joinS (wordsV s) = s.data.toList := by
      have := congrArg (fun b : ByteArray => b.data.toList) h3
      simpa using this
    have h5 : parts 32 s.data.toList = (wordsV s).map (·.data.toList) := by
      rw [← h4]
      refine parts_join (by intro hn; rw [List.map_eq_nil_iff] at hn; rw [hn] at h2; simp at h2) fun p hp => ?_
      obtain ⟨q, hq, rfl⟩ := List.mem_map.1 hp
      have hq2 := (List.mem_filter.1 hq).1
      have : q.data.toList ∈ parts 32 s.data.toList := by
        rw [← partsV_data]
        exact List.mem_map_of_mem hq2
      exact parts_no _ _ this
    have h6 : partsV 32 s = wordsV s := by
      have := partsV_data 32 s
      rw [h5] at this
      exact List.map_inj_right (fun a b hab => by cases a; cases b; simp_all) |>.1 this
    unfold splitB at h1
    rw [← h6] at h1
    have : textB s = true := h1
    rw [h] at this
    cases this
theorem turn_no {l : List TurnD} {k : Nat} {c : TurnD} (h : l[k]? = some c) (hc : turnB c = false) : transB l = false := by
  unfold transB
  rw [show l.all turnB = false from List.all_eq_false.2 ⟨c, List.mem_of_getElem? h, by simp [hc]⟩, Bool.and_false]
theorem turn_yes {l : List TurnD} (h30 : l.length ≤ 30) (h : ∀ (j : Nat) c, l[j]? = some c → turnB c = true) : transB l = true := by
  unfold transB
  rw [decide_eq_true h30, Bool.true_and, List.all_eq_true]
  intro c hc
  obtain ⟨j, hj⟩ := List.mem_iff_getElem?.1 hc
  exact h j c hj
theorem trans_at {l : List TurnD} (hv : transB l = true) {k : Nat} {c : TurnD} (h : l[k]? = some c) : turnB c = true := by
  unfold transB at hv
  simp only [Bool.and_eq_true, List.all_eq_true] at hv
  exact hv.2 c (List.mem_of_getElem? h)
theorem trans_len {l : List TurnD} (hv : transB l = true) : l.length ≤ 30 := by
  unfold transB at hv
  simp only [Bool.and_eq_true, decide_eq_true_eq] at hv
  exact hv.1
end Go.Proofs.YthokekgdiebhjaaDoor
