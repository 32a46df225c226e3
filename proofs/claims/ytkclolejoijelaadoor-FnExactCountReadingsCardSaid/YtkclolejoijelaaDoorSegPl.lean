/-
  Looking an outline up, the longest match, the segmentation: plain values. No statement is named here.
-/
import Derived.Test.YtkclolejoijelaaDoorDictPl
namespace Go.Proofs.YtkclolejoijelaaDoor
set_option linter.unusedVariables false

/-- The first entry with an outline, or -1. -/
def findD (l : List EntD) (o : List Int) : Int :=
  let k := l.findIdx fun c => decide (c.1 = o)
  if k < l.length then (k : Int) else -1
theorem findD_at {l : List EntD} {o : List Int} {k : Nat} {c : EntD} (hk : l[k]? = some c) (hc : c.1 = o) (h : ∀ (j : Nat) d, j < k → l[j]? = some d → d.1 ≠ o) : findD l o = k := by
  obtain ⟨hkl, hkc⟩ := List.getElem?_eq_some_iff.1 hk
  have hi : l.findIdx (fun c => decide (c.1 = o)) = k := by
    rw [List.findIdx_eq hkl]
    refine ⟨by rw [hkc]; exact decide_eq_true hc, fun j hj => ?_⟩
    exact decide_eq_false (h j _ hj (List.getElem?_eq_getElem (by omega)))
  unfold findD
  rw [hi, if_pos hkl]
theorem findD_no {l : List EntD} {o : List Int} (h : ∀ (j : Nat) d, l[j]? = some d → d.1 ≠ o) : findD l o = -1 := by
  unfold findD
  rw [if_neg]
  intro hlt
  have hp := List.findIdx_getElem (w := hlt)
  exact h _ _ (List.getElem?_eq_getElem hlt) (of_decide_eq_true hp)
theorem findD_cases (l : List EntD) (o : List Int) : (findD l o = -1 ∧ ∀ (j : Nat) d, l[j]? = some d → d.1 ≠ o) ∨ ∃ (k : Nat) (c : EntD), findD l o = k ∧ l[k]? = some c ∧ c.1 = o := by
  by_cases hlt : l.findIdx (fun c => decide (c.1 = o)) < l.length
  · have hp := List.findIdx_getElem (w := hlt)
    exact .inr ⟨_, _, by unfold findD; rw [if_pos hlt], List.getElem?_eq_getElem hlt, of_decide_eq_true hp⟩
  · refine .inl ⟨by unfold findD; rw [if_neg hlt], fun j d hj hd => ?_⟩
    obtain ⟨hjl, rfl⟩ := List.getElem?_eq_some_iff.1 hj
    have := List.findIdx_lt_length_of_exists (xs := l) (p := fun c => decide (c.1 = o)) ⟨l[j], List.getElem_mem hjl, decide_eq_true hd⟩
    exact hlt this
/-- The text of an outline. -/
def lookD (l : List EntD) (o : List Int) : Option ByteArray := (l[l.findIdx fun c => decide (c.1 = o)]?).map (·.2)
theorem lookD_some {l : List EntD} {o : List Int} {k : Nat} {c : EntD} (hf : findD l o = k) (hk : l[k]? = some c) : lookD l o = some c.2 := by
  unfold findD at hf
  simp only at hf
  split at hf
  · unfold lookD
    rw [show l.findIdx (fun c => decide (c.1 = o)) = k by omega, hk]
    rfl
  · omega
theorem lookD_none {l : List EntD} {o : List Int} (hf : findD l o = -1) : lookD l o = none := by
  unfold findD at hf
  simp only at hf
  split at hf
  · omega
  · unfold lookD
    rw [List.getElem?_eq_none (by omega)]
    rfl
theorem lookD_mem {l : List EntD} {o : List Int} {t : ByteArray} (h : lookD l o = some t) : ∃ (k : Nat) (c : EntD), findD l o = k ∧ l[k]? = some c ∧ c.1 = o ∧ c.2 = t := by
  rcases findD_cases l o with ⟨h1, -⟩ | ⟨k, c, h1, h2, h3⟩
  · rw [lookD_none h1] at h; cases h
  · rw [lookD_some h1 h2] at h
    exact ⟨k, c, h1, h2, h3, Option.some.inj h⟩
theorem lookD_ent {l : List EntD} (hv : dictB l = true) {k : Nat} {c : EntD} (hk : l[k]? = some c) : findD l c.1 = k ∧ lookD l c.1 = some c.2 := by
  have h := findD_at hk rfl (fun j d hj hd he => by
    have := dict_inj hv hd hk he
    omega)
  exact ⟨h, lookD_some h hk⟩

/-! ### The longest match -/
def part (zs : List Int) (i n : Nat) : List Int := (zs.drop i).take n
theorem part_length {zs : List Int} {i n : Nat} (h : i + n ≤ zs.length) : (part zs i n).length = n := by simp [part]; omega
def tryN (l : List EntD) (zs : List Int) (i : Nat) : Nat → Nat × ByteArray
  | 0 => (1, ⟨#[]⟩)
  | n + 1 => if i + (n + 1) ≤ zs.length then (match lookD l (part zs i (n + 1)) with | some t => (n + 1, t) | none => tryN l zs i n) else tryN l zs i n
theorem tryN_long {l : List EntD} {zs : List Int} {i n : Nat} (h : ¬ i + (n + 1) ≤ zs.length) : tryN l zs i (n + 1) = tryN l zs i n := by rw [tryN, if_neg h]
theorem tryN_hit {l : List EntD} {zs : List Int} {i n : Nat} {t : ByteArray} (h : i + (n + 1) ≤ zs.length) (ht : lookD l (part zs i (n + 1)) = some t) : tryN l zs i (n + 1) = (n + 1, t) := by rw [tryN, if_pos h, ht]
theorem tryN_miss {l : List EntD} {zs : List Int} {i n : Nat} (h : i + (n + 1) ≤ zs.length) (ht : lookD l (part zs i (n + 1)) = none) : tryN l zs i (n + 1) = tryN l zs i n := by rw [tryN, if_pos h, ht]
theorem tryN_cap (l : List EntD) (zs : List Int) (i : Nat) : ∀ m n, zs.length - i ≤ n → n ≤ m → tryN l zs i m = tryN l zs i n
  | 0, n, _, h => by
    obtain rfl : n = 0 := by omega
    rfl
  | m + 1, n, h1, h2 => by
    rcases Nat.lt_or_ge m n with h | h
    · obtain rfl : n = m + 1 := by omega
      rfl
    · rw [tryN_long (by omega)]
      exact tryN_cap l zs i m n h1 h
def matchD (l : List EntD) (zs : List Int) (i : Nat) : Nat × ByteArray := tryN l zs i 6
theorem tryN_range (l : List EntD) (zs : List Int) (i : Nat) (hi : i < zs.length) : ∀ n, 1 ≤ (tryN l zs i n).1 ∧ i + (tryN l zs i n).1 ≤ zs.length ∧ ((tryN l zs i n).1 ≤ n ∨ (tryN l zs i n).1 = 1)
  | 0 => by simp [tryN]; omega
  | n + 1 => by
    have ih := tryN_range l zs i hi n
    by_cases h : i + (n + 1) ≤ zs.length
    · cases ht : lookD l (part zs i (n + 1)) with
      | some t => rw [tryN_hit h ht]; exact ⟨by simp, h, .inl (Nat.le_refl _)⟩
      | none => rw [tryN_miss h ht]; exact ⟨ih.1, ih.2.1, by omega⟩
    · rw [tryN_long h]; exact ⟨ih.1, ih.2.1, by omega⟩
theorem tryN_text (l : List EntD) (zs : List Int) (i : Nat) : ∀ n, (tryN l zs i n).2.size ≠ 0 → lookD l (part zs i (tryN l zs i n).1) = some (tryN l zs i n).2
  | 0, h => by simp [tryN] at h; exact absurd rfl h
  | n + 1, h => by
    by_cases hl : i + (n + 1) ≤ zs.length
    · cases ht : lookD l (part zs i (n + 1)) with
      | some t => rw [tryN_hit hl ht]; exact ht
      | none => rw [tryN_miss hl ht] at h ⊢; exact tryN_text l zs i n h
    · rw [tryN_long hl] at h ⊢; exact tryN_text l zs i n h

/-! ### The segmentation -/
abbrev PieceD := Nat × Nat × ByteArray
def pieceV (p : PieceD) : List Value := [.int .i64 p.1, .int .i64 p.2.1, .string p.2.2]
def piecesV (ps : List PieceD) : List Value := ps.flatMap pieceV
theorem piecesV_length (ps : List PieceD) : (piecesV ps).length = ps.length * 3 := by
  induction ps with
  | nil => rfl
  | cons p ps ih => simp only [piecesV, List.flatMap_cons, List.length_append, pieceV, List.length_cons, List.length_nil] at *; omega
theorem piecesV_snoc (ps : List PieceD) (p : PieceD) : piecesV (ps ++ [p]) = piecesV ps ++ [.int .i64 p.1, .int .i64 p.2.1, .string p.2.2] := by simp [piecesV, pieceV]
theorem piecesV_at {ps : List PieceD} {k : Nat} {p : PieceD} (h : ps[k]? = some p) : (piecesV ps)[k * 3]? = some (.int .i64 p.1) ∧ (piecesV ps)[k * 3 + 1]? = some (.int .i64 p.2.1) ∧ (piecesV ps)[k * 3 + 2]? = some (.string p.2.2) := by
  obtain ⟨a, b, rfl, rfl⟩ := split_at h
  have e : piecesV (a ++ p :: b) = piecesV a ++ (pieceV p ++ piecesV b) := by simp [piecesV]
  have hn := piecesV_length a
  refine ⟨?_, ?_, ?_⟩
  · rw [e, List.getElem?_append_right (by omega), hn, Nat.sub_self]; rfl
  · rw [e, List.getElem?_append_right (by omega), hn, show a.length * 3 + 1 - a.length * 3 = 1 by omega]; rfl
  · rw [e, List.getElem?_append_right (by omega), hn, show a.length * 3 + 2 - a.length * 3 = 2 by omega]; rfl
def segF (l : List EntD) (zs : List Int) : Nat → Nat → List PieceD
  | 0, _ => []
  | f + 1, i => if i < zs.length then (i, (matchD l zs i).1, (matchD l zs i).2) :: segF l zs f (i + (matchD l zs i).1) else []
theorem segF_end {l : List EntD} {zs : List Int} {f i : Nat} (h : zs.length ≤ i) : segF l zs f i = [] := by
  cases f with
  | zero => rfl
  | succ f => rw [segF, if_neg (by omega)]
theorem segF_fuel (l : List EntD) (zs : List Int) : ∀ f g i, zs.length - i ≤ f → zs.length - i ≤ g → segF l zs f i = segF l zs g i
  | 0, g, i, h, _ => by rw [segF_end (by omega), segF_end (by omega)]
  | f + 1, 0, i, _, h => by rw [segF_end (by omega), segF_end (by omega)]
  | f + 1, g + 1, i, h1, h2 => by
    by_cases hi : i < zs.length
    · have := (tryN_range l zs i hi 6).1
      rw [segF, segF, if_pos hi, if_pos hi, segF_fuel l zs f g _ (by unfold matchD; omega) (by unfold matchD; omega)]
    · rw [segF_end (by omega), segF_end (by omega)]
def segD (l : List EntD) (zs : List Int) : List PieceD := segF l zs zs.length 0
/-- What stands after the pieces ps: the rest from place i on. -/
def SegAt (l : List EntD) (zs : List Int) (ps : List PieceD) (i : Nat) : Prop := ps ++ segF l zs (zs.length - i) i = segD l zs
theorem segAt_zero (l : List EntD) (zs : List Int) : SegAt l zs [] 0 := by simp [SegAt, segD]
theorem segAt_next {l : List EntD} {zs : List Int} {ps : List PieceD} {i : Nat} (h : SegAt l zs ps i) (hi : i < zs.length) : SegAt l zs (ps ++ [(i, (matchD l zs i).1, (matchD l zs i).2)]) (i + (matchD l zs i).1) := by
  unfold SegAt at h ⊢
  have := (tryN_range l zs i hi 6).1
  rw [← h, show zs.length - i = (zs.length - i - 1) + 1 by omega, segF, if_pos hi, List.append_assoc, List.singleton_append, segF_fuel l zs (zs.length - i - 1) (zs.length - (i + (matchD l zs i).1)) _ (by unfold matchD; omega) (Nat.le_refl _)]
theorem segAt_end {l : List EntD} {zs : List Int} {ps : List PieceD} {i : Nat} (h : SegAt l zs ps i) (hi : zs.length ≤ i) : ps = segD l zs := by
  unfold SegAt at h
  rw [segF_end hi, List.append_nil] at h
  exact h
/-- What holds of every piece. -/
def PieceOk (l : List EntD) (zs : List Int) (p : PieceD) : Prop := p.1 < zs.length ∧ 1 ≤ p.2.1 ∧ p.1 + p.2.1 ≤ zs.length ∧ p.2 = matchD l zs p.1
theorem segF_ok (l : List EntD) (zs : List Int) : ∀ f i, ∀ p ∈ segF l zs f i, PieceOk l zs p
  | 0, i, p, h => by simp [segF] at h
  | f + 1, i, p, h => by
    by_cases hi : i < zs.length
    · rw [segF, if_pos hi] at h
      rcases List.mem_cons.1 h with rfl | h
      · have := tryN_range l zs i hi 6
        exact ⟨hi, this.1, this.2.1, rfl⟩
      · exact segF_ok l zs f _ p h
    · rw [segF, if_neg hi] at h; simp at h
theorem segD_ok {l : List EntD} {zs : List Int} {p : PieceD} (h : p ∈ segD l zs) : PieceOk l zs p := segF_ok l zs _ _ p h
theorem segF_len (l : List EntD) (zs : List Int) : ∀ f i, (segF l zs f i).length ≤ f
  | 0, i => by simp [segF]
  | f + 1, i => by
    rw [segF]
    split
    · have := segF_len l zs f (i + (matchD l zs i).1)
      simp; omega
    · simp
theorem segD_len (l : List EntD) (zs : List Int) : (segD l zs).length ≤ zs.length := segF_len l zs _ _
theorem piece_text {l : List EntD} {zs : List Int} {p : PieceD} (h : PieceOk l zs p) (ht : p.2.2.size ≠ 0) : lookD l (part zs p.1 p.2.1) = some p.2.2 := by
  have h1 := h.2.2.2
  have h2 := tryN_text l zs p.1 6
  unfold matchD at h1
  rw [← h1] at h2
  exact h2 ht
end Go.Proofs.YtkclolejoijelaaDoor
