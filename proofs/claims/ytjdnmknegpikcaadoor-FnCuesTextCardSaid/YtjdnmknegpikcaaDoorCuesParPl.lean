/-
  Reading the text of a track: what stands on its lines. No program is named here.
-/
import Derived.Test.YtjdnmknegpikcaaDoorCueTextPl
import Derived.Test.YtjdnmknegpikcaaDoorTimePl
import Derived.Test.YtjdnmknegpikcaaDoorBase
namespace Go.Proofs.YtjdnmknegpikcaaDoor
open Go.RowKit
set_option linter.unusedVariables false

theorem dec_digitC (n : Nat) : ∀ c ∈ Lib.decDigits n, 48 ≤ c.toNat ∧ c.toNat ≤ 57 := by
  induction n using Nat.strongRecOn with
  | _ n ih =>
    intro c hc
    by_cases h : n < 10
    · rw [dec_small h, List.mem_singleton] at hc
      subst hc
      rw [UInt8.toNat_ofNat']
      omega
    · rw [dec_big h, List.mem_append, List.mem_singleton] at hc
      rcases hc with hc | hc
      · exact ih _ (by omega) c hc
      · subst hc
        rw [UInt8.toNat_ofNat']
        omega
theorem dig_big {n : Nat} (h : n < 10) {c : UInt8} (hc : c.toNat < 48) : c ≠ dig n := by
  intro e
  have := dig_nat h
  rw [← e] at this
  omega
theorem time_noL {t : Nat} (h : t ≤ 99999999) {c : UInt8} (hc : c.toNat < 44) : c ∉ timeOf t := by
  rw [timeOf_bytes h]
  intro hm
  have h58 : c ≠ 58 := fun e => by rw [e] at hc; exact absurd hc (by decide)
  have h44 : c ≠ 44 := fun e => by rw [e] at hc; exact absurd hc (by decide)
  simp only [timeB, List.mem_cons, List.not_mem_nil, or_false] at hm
  rcases hm with e | e | e | e | e | e | e | e | e | e | e | e
  · exact dig_big (by omega) (by omega) e
  · exact dig_big (by omega) (by omega) e
  · exact h58 e
  · exact dig_big (by omega) (by omega) e
  · exact dig_big (by omega) (by omega) e
  · exact h58 e
  · exact dig_big (by omega) (by omega) e
  · exact dig_big (by omega) (by omega) e
  · exact h44 e
  · exact dig_big (by omega) (by omega) e
  · exact dig_big (by omega) (by omega) e
  · exact dig_big (by omega) (by omega) e
theorem time_len12 {t : Nat} (h : t ≤ 99999999) : (timeOf t).length = 12 := by rw [timeOf_bytes h]; rfl
def arrowL : List UInt8 := [32, 45, 45, 62, 32]
def timesL (c : CueD) : List UInt8 := timeOf c.1.toNat ++ arrowL ++ timeOf c.2.1.toNat
/-- What a valid track tells of a cue, of its bytes too. -/
theorem valid_bytes {l : List CueD} (hv : validB l = true) {k : Nat} {c : CueD} (h : l[k]? = some c) : (10 : UInt8) ∉ c.2.2.data.toList := by
  obtain ⟨a, b, rfl, rfl⟩ := split_at h
  simp only [validB, Bool.and_eq_true, decide_eq_true_eq] at hv
  obtain ⟨h30, hch⟩ := hv
  rw [chain_append] at hch
  simp only [chainB, Bool.and_eq_true] at hch
  obtain ⟨o1, o2, o3, o4, o5⟩ := okAt_yes hch.2.1
  simp only [captionB, Bool.and_eq_true] at o5
  intro hm
  have := List.all_eq_true.1 o5.2 _ hm
  revert this
  decide
theorem times_no10 {c : CueD} (h1 : c.1.toNat ≤ 99999999) (h2 : c.2.1.toNat ≤ 99999999) : (10 : UInt8) ∉ timesL c := by
  intro hm
  simp only [timesL, arrowL, List.mem_append, List.mem_cons, List.not_mem_nil, or_false] at hm
  rcases hm with (hm | hm) | hm
  · exact time_noL h1 (by decide) hm
  · revert hm; decide
  · exact time_noL h2 (by decide) hm
theorem cue_parts (k : Nat) (c : CueD) (r : List UInt8) (h1 : c.1.toNat ≤ 99999999) (h2 : c.2.1.toNat ≤ 99999999) (h3 : (10 : UInt8) ∉ c.2.2.data.toList) :
    parts 10 (cueText k c ++ r) = Lib.decDigits (k + 1) :: timesL c :: c.2.2.data.toList :: [] :: parts 10 r := by
  have hd : (10 : UInt8) ∉ Lib.decDigits (k + 1) := fun hm => by have := dec_digitC _ _ hm; revert this; decide
  have he : cueText k c ++ r = Lib.decDigits (k + 1) ++ 10 :: (timesL c ++ 10 :: (c.2.2.data.toList ++ 10 :: ([] ++ 10 :: r))) := by
    simp [cueText, timesL, arrowL]
  rw [he, parts_cut _ hd, parts_cut _ (times_no10 h1 h2), parts_cut _ h3, parts_cut _ (by simp)]
/-- The lines of a track's text. -/
theorem lines_from : ∀ (m : List CueD) (k : Nat), (∀ c ∈ m, c.1.toNat ≤ 99999999 ∧ c.2.1.toNat ≤ 99999999 ∧ (10 : UInt8) ∉ c.2.2.data.toList) →
    (parts 10 (textFrom k m)).length = 4 * m.length + 1 ∧ ∀ j c, m[j]? = some c → (parts 10 (textFrom k m))[4 * j + 1]? = some (timesL c) ∧ (parts 10 (textFrom k m))[4 * j + 2]? = some c.2.2.data.toList
  | [], k, h => ⟨rfl, fun j c hj => by simp at hj⟩
  | d :: m, k, h => by
    obtain ⟨h1, h2, h3⟩ := h d (by simp)
    obtain ⟨i1, i2⟩ := lines_from m (k + 1) (fun c hc => h c (by simp [hc]))
    show (parts 10 (cueText k d ++ textFrom (k + 1) m)).length = _ ∧ ∀ j c, (d :: m)[j]? = some c → (parts 10 (cueText k d ++ textFrom (k + 1) m))[4 * j + 1]? = _ ∧ (parts 10 (cueText k d ++ textFrom (k + 1) m))[4 * j + 2]? = _
    rw [cue_parts k d _ h1 h2 h3]
    refine ⟨by simp only [List.length_cons]; omega, fun j c hj => ?_⟩
    cases j with
    | zero =>
      simp only [List.getElem?_cons_zero, Option.some.injEq] at hj
      subst hj
      exact ⟨rfl, rfl⟩
    | succ j =>
      rw [List.getElem?_cons_succ] at hj
      obtain ⟨a1, a2⟩ := i2 j c hj
      refine ⟨?_, ?_⟩
      · rw [show 4 * (j + 1) + 1 = (4 * j + 1) + 1 + 1 + 1 + 1 by omega]
        simpa using a1
      · rw [show 4 * (j + 1) + 2 = (4 * j + 2) + 1 + 1 + 1 + 1 by omega]
        simpa using a2
theorem valid_nats {m : List CueD} (hv : validB m = true) : ∀ c ∈ m, c.1.toNat ≤ 99999999 ∧ c.2.1.toNat ≤ 99999999 ∧ (10 : UInt8) ∉ c.2.2.data.toList := by
  intro c hc
  obtain ⟨k, hk⟩ := List.mem_iff_getElem?.1 hc
  obtain ⟨v1, v2, v3, -⟩ := valid_at hv hk
  exact ⟨by omega, by omega, valid_bytes hv hk⟩
/-- As far as both sides have read: whatever valid track has this text, so much of it is there. -/
def ReadC (s : ByteArray) (l' : List CueD) (j : Nat) : Prop := ∀ m, validB m = true → textL m = s.data.toList → l' = m.take j
theorem readC_zero (s : ByteArray) : ReadC s [] 0 := fun m _ _ => by simp
/-- What stands there, at the next cue. -/
theorem readC_at {s : ByteArray} {m : List CueD} (hv : validB m = true) (ht : textL m = s.data.toList) :
    (partsV 10 s).length = 4 * m.length + 1 ∧ ∀ j c, m[j]? = some c → (partsV 10 s)[4 * j + 1]? = some ⟨(timesL c).toArray⟩ ∧ (partsV 10 s)[4 * j + 2]? = some c.2.2 := by
  obtain ⟨h1, h2⟩ := lines_from m 0 (valid_nats hv)
  unfold partsV
  rw [← ht, List.length_map]
  refine ⟨h1, fun j c hj => ?_⟩
  obtain ⟨a1, a2⟩ := h2 j c hj
  rw [List.getElem?_map, List.getElem?_map]
  refine ⟨?_, ?_⟩
  · show Option.map _ ((parts 10 (textFrom 0 m))[4 * j + 1]?) = _
    rw [a1]; rfl
  · show Option.map _ ((parts 10 (textFrom 0 m))[4 * j + 2]?) = _
    rw [a2]
    cases c.2.2; simp
theorem readC_more {s : ByteArray} {m : List CueD} (hv : validB m = true) (ht : textL m = s.data.toList) {j : Nat} (hj : 4 * j + 4 < (partsV 10 s).length) : ∃ c, m[j]? = some c := by
  obtain ⟨h1, -⟩ := readC_at hv ht
  exact some_at m (by omega)
theorem readC_end {s : ByteArray} {l' m : List CueD} {j : Nat} (h : ReadC s l' j) (hv : validB m = true) (ht : textL m = s.data.toList) (hj : ¬ 4 * j + 4 < (partsV 10 s).length) : l' = m := by
  obtain ⟨h1, -⟩ := readC_at hv ht
  rw [h m hv ht, List.take_of_length_le (by omega)]
/-- What both ParseCues give. -/
def CuesOk (s : ByteArray) (l : List CueD) (b : Bool) : Prop := (b = true ∧ validB l = true ∧ textL l = s.data.toList) ∨ (b = false ∧ l = [] ∧ ∀ m, validB m = true → textL m ≠ s.data.toList)
theorem text_inj {l m : List CueD} (hl : validB l = true) (hm : validB m = true) (h : textL l = textL m) : l = m := by
  obtain ⟨h1, h2⟩ := readC_at (s := ⟨(textL m).toArray⟩) hl h
  obtain ⟨g1, g2⟩ := readC_at (s := ⟨(textL m).toArray⟩) hm rfl
  have hlen : l.length = m.length := by omega
  refine List.ext_getElem? fun j => ?_
  rcases Nat.lt_or_ge j l.length with hj | hj
  · obtain ⟨c, hc⟩ := some_at l hj
    obtain ⟨d, hd⟩ := some_at m (by omega : j < m.length)
    obtain ⟨a1, a2⟩ := h2 j c hc
    obtain ⟨b1, b2⟩ := g2 j d hd
    rw [a1] at b1
    rw [a2] at b2
    have e2 := Option.some.inj b2
    have e1 := congrArg (fun x : ByteArray => x.data.toList) (Option.some.inj b1)
    obtain ⟨u1, u2, u3, -⟩ := valid_at hl hc
    obtain ⟨v1, v2, v3, -⟩ := valid_at hm hd
    have e1' : timesL c = timesL d := by simpa using e1
    unfold timesL at e1'
    rw [List.append_assoc, List.append_assoc] at e1'
    obtain ⟨f1, f2⟩ := List.append_inj e1' (by rw [time_len12 (by omega), time_len12 (by omega)])
    obtain ⟨-, f3⟩ := List.append_inj f2 rfl
    have t1 := time_inj (by omega) (by omega) f1
    have t2 := time_inj (by omega) (by omega) f3
    rw [hc, hd]
    obtain ⟨c1, c2, c3⟩ := c
    obtain ⟨d1, d2, d3⟩ := d
    simp only at t1 t2 e2 u1 u2 v1 v2
    congr 1
    refine Prod.ext (by show c1 = d1; omega) (Prod.ext (by show c2 = d2; omega) e2)
  · rw [List.getElem?_eq_none hj, List.getElem?_eq_none (by omega)]
theorem cuesOk_one {s : ByteArray} {l m : List CueD} {b c : Bool} (h : CuesOk s l b) (h' : CuesOk s m c) : l = m ∧ b = c := by
  rcases h with ⟨rfl, hv, ht⟩ | ⟨rfl, rfl, hn⟩ <;> rcases h' with ⟨rfl, hv', ht'⟩ | ⟨rfl, rfl, hn'⟩
  · exact ⟨text_inj hv hv' (ht.trans ht'.symm), rfl⟩
  · exact absurd ht (hn' l hv)
  · exact absurd ht' (hn m hv')
  · exact ⟨rfl, rfl⟩
/-- The length of a valid track's text. -/
theorem text_most {l : List CueD} (hv : validB l = true) : ∀ k, k ≤ l.length → (textL (l.take k)).length ≤ k * 185 := by
  intro k
  induction k with
  | zero => intro _; simp [textL, textFrom]
  | succ k ih =>
    intro hk
    obtain ⟨c, hc⟩ := some_at l (show k < l.length by omega)
    obtain ⟨v1, v2, v3, v4, v5, v6⟩ := valid_at hv hc
    rw [text_take_succ hc, List.length_append]
    have h1 := ih (by omega)
    have h2 := dec_len (k + 1)
    have h3 := time_len12 (t := c.1.toNat) (by omega)
    have h4 := time_len12 (t := c.2.1.toNat) (by omega)
    have h5 : c.2.2.data.toList.length = c.2.2.size := rfl
    simp only [cueText, List.length_append, List.length_cons, List.length_nil]
    omega
theorem text_short {l : List CueD} (hv : validB l = true) : (textL l).length ≤ 6000 := by
  have h := text_most hv l.length (Nat.le_refl _)
  rw [take_all] at h
  simp only [validB, Bool.and_eq_true, decide_eq_true_eq] at hv
  omega
theorem chain_bounds {m : List CueD} (hv : validB m = true) {j : Nat} {c : CueD} (h : m[j]? = some c) : ∃ a b : Nat, c.1 = a ∧ c.2.1 = b ∧ a ≤ 99999999 ∧ b ≤ 99999999 := by
  obtain ⟨v1, v2, v3, -⟩ := valid_at hv h
  exact ⟨c.1.toNat, c.2.1.toNat, by omega, by omega, by omega, by omega⟩

/-! ### One cue more -/
theorem readC_next {s : ByteArray} {l' : List CueD} {j : Nat} {T X : ByteArray} {z1 z2 : Int} (h : ReadC s l' j) (hj : 4 * j + 4 < (partsV 10 s).length) (hT : (partsV 10 s)[4 * j + 1]? = some T) (hX : (partsV 10 s)[4 * j + 2]? = some X)
    (hz : ∀ (c : CueD) (a b : Nat), c.1 = a → c.2.1 = b → a ≤ 99999999 → b ≤ 99999999 → T.data.toList = timesL c → z1 = c.1 ∧ z2 = c.2.1) : ReadC s (l' ++ [(z1, z2, X)]) (j + 1) := by
  intro m hv ht
  obtain ⟨c, hc⟩ := readC_more hv ht hj
  obtain ⟨a1, a2⟩ := (readC_at hv ht).2 j c hc
  obtain ⟨a, b, ha, hb, ha9, hb9⟩ := chain_bounds hv hc
  rw [a1] at hT
  rw [a2] at hX
  have hT' := Option.some.inj hT
  have hX' := Option.some.inj hX
  obtain ⟨e1, e2⟩ := hz c a b ha hb ha9 hb9 (by rw [← hT'])
  rw [h m hv ht, take_succ_of hc]
  congr 2
  obtain ⟨c1, c2, c3⟩ := c
  simp only at e1 e2 hX'
  rw [e1, e2, hX']
/-- The line of a valid track: what would stand there. -/
theorem readC_line {s : ByteArray} {j : Nat} {T : ByteArray} (hj : 4 * j + 4 < (partsV 10 s).length) (hT : (partsV 10 s)[4 * j + 1]? = some T) {m : List CueD} (hv : validB m = true) (ht : textL m = s.data.toList) :
    ∃ (c : CueD) (a b : Nat), c.1 = a ∧ c.2.1 = b ∧ a ≤ 99999999 ∧ b ≤ 99999999 ∧ T.data.toList = timesL c := by
  obtain ⟨c, hc⟩ := readC_more hv ht hj
  obtain ⟨a1, a2⟩ := (readC_at hv ht).2 j c hc
  obtain ⟨a, b, ha, hb, ha9, hb9⟩ := chain_bounds hv hc
  rw [a1] at hT
  exact ⟨c, a, b, ha, hb, ha9, hb9, by rw [← Option.some.inj hT]⟩
theorem times_take {c : CueD} {a : Nat} (ha : c.1 = a) (h : a ≤ 99999999) : (timesL c).take 12 = timeOf a := by
  unfold timesL
  rw [ha, List.append_assoc, List.take_left' (time_len12 (by omega))]
  rfl
theorem times_drop {c : CueD} {a b : Nat} (ha : c.1 = a) (hb : c.2.1 = b) (h : a ≤ 99999999) : (timesL c).drop 17 = timeOf b := by
  unfold timesL
  rw [ha, hb, List.drop_left' (by rw [List.length_append, time_len12 (by omega)]; rfl)]
  rfl
theorem times_len {c : CueD} {a b : Nat} (ha : c.1 = a) (hb : c.2.1 = b) (h : a ≤ 99999999) (h' : b ≤ 99999999) : (timesL c).length = 29 := by
  unfold timesL
  rw [List.length_append, List.length_append, ha, hb, time_len12 (by omega), time_len12 (by omega)]
  rfl
theorem timeOk_of {l : List UInt8} {z : Int} {b : Bool} {t : Nat} (h : TimeOk l z b) (ht : t ≤ 99999999) (hl : timeOf t = l) : z = t ∧ b = true := by
  have := timeOk_one h (.inl ⟨rfl, t, rfl, ht, hl⟩)
  exact this
theorem timeOk_bd {l : List UInt8} {z : Int} {b : Bool} (h : TimeOk l z b) : 0 ≤ z ∧ z ≤ 99999999 := by
  rcases h with ⟨-, t, rfl, ht, -⟩ | ⟨-, rfl, -⟩ <;> omega
theorem index_sep {a : UInt8} (q r : List UInt8) : ∀ p : List UInt8, a ∉ p → Lib.index (p ++ ((a :: q) ++ r)) (a :: q) = (p.length : Int)
  | [], _ => by
    have h : (a :: q).isPrefixOf ((a :: q) ++ r) = true := by simp
    show Lib.index (a :: (q ++ r)) (a :: q) = 0
    rw [Lib.index]
    rw [show (a :: q).isPrefixOf (a :: (q ++ r)) = true from h]
    rfl
  | c :: p, hp => by
    simp only [List.mem_cons, not_or] at hp
    have ih := index_sep (a := a) q r p hp.2
    have h : (a :: q).isPrefixOf (c :: (p ++ ((a :: q) ++ r))) = false := by show (a == c && _) = false; rw [beq_false_of_ne hp.1, Bool.false_and]
    show Lib.index (c :: (p ++ ((a :: q) ++ r))) (a :: q) = ((p.length + 1 : Nat) : Int)
    rw [Lib.index, h, ih]
    have : ((p.length : Int) == -1) = false := by rw [beq_eq_false_iff_ne]; omega
    simp [this]
theorem cut_sep {a : UInt8} {q p : List UInt8} (r : List UInt8) (h : a ∉ p) : Lib.cut (p ++ ((a :: q) ++ r)) (a :: q) = (p, r, true) := by
  unfold Lib.cut
  rw [index_sep q r p h, if_pos (by omega)]
  simp only [Int.toNat_natCast, List.take_left']
  rw [← List.drop_drop, List.drop_left, List.drop_left]
theorem times_cut {c : CueD} {a b : Nat} (ha : c.1 = a) (hb : c.2.1 = b) (h : a ≤ 99999999) : Lib.cut (timesL c) arrowL = (timeOf a, timeOf b, true) := by
  unfold timesL
  rw [ha, hb, List.append_assoc]
  exact cut_sep _ (time_noL (by omega) (by decide))
end Go.Proofs.YtjdnmknegpikcaaDoor
