/-
  A text's parts between bytes, as plain lists. No program is named here.
-/
import Derived.Test.YtkclolejoijelaaDoorWords
import Derived.Lib.Split
import Derived.Lib.SplitLaws
import Derived.Lib.IndexLaws
import Derived.Lib.CutLaws
import Derived.Lib.Join
namespace Go.Proofs.YtkclolejoijelaaDoor
set_option linter.unusedVariables false

def consHead (c : UInt8) : List (List UInt8) → List (List UInt8)
  | p :: ps => (c :: p) :: ps
  | [] => [[c]]
/-- The parts of a text between bytes b. -/
def parts (b : UInt8) : List UInt8 → List (List UInt8)
  | [] => [[]]
  | c :: l => if c = b then [] :: parts b l else consHead c (parts b l)
theorem parts_ne (b : UInt8) (l : List UInt8) : parts b l ≠ [] := by
  induction l with
  | nil => simp [parts]
  | cons c l ih =>
    unfold parts
    split
    · simp
    · cases h : parts b l with
      | nil => simp [consHead]
      | cons p ps => simp [consHead]
theorem parts_nosep {b : UInt8} {l : List UInt8} (h : b ∉ l) : parts b l = [l] := by
  induction l with
  | nil => rfl
  | cons c l ih =>
    simp only [List.mem_cons, not_or] at h
    rw [parts, if_neg (Ne.symm h.1), ih h.2]
    rfl
theorem parts_cut {b : UInt8} {p : List UInt8} (r : List UInt8) (h : b ∉ p) : parts b (p ++ b :: r) = p :: parts b r := by
  induction p with
  | nil => simp [parts]
  | cons c p ih =>
    simp only [List.mem_cons, not_or] at h
    rw [List.cons_append, parts, if_neg (Ne.symm h.1), ih h.2]
    rfl
theorem split_first {b : UInt8} {l : List UInt8} (h : b ∈ l) : ∃ p r, l = p ++ b :: r ∧ b ∉ p := by
  induction l with
  | nil => simp at h
  | cons c l ih =>
    by_cases hc : c = b
    · exact ⟨[], l, by simp [hc], by simp⟩
    · have h2 : b ∈ l := by simpa [Ne.symm hc] using h
      obtain ⟨p, r, rfl, hp⟩ := ih h2
      exact ⟨c :: p, r, rfl, by simp [Ne.symm hc, hp]⟩
/-- The parts of a text that goes on: 'done ++ [rest]'. -/
theorem parts_append {b : UInt8} (l m : List UInt8) : ∃ d p, parts b l = d ++ [p] ∧ parts b (l ++ m) = d ++ (match parts b m with | q :: qs => (p ++ q) :: qs | [] => []) := by
  induction l with
  | nil =>
    refine ⟨[], [], rfl, ?_⟩
    cases h : parts b m with
    | nil => exact absurd h (parts_ne b m)
    | cons q qs => simp [h]
  | cons c l ih =>
    obtain ⟨d, p, h1, h2⟩ := ih
    simp only [List.cons_append, parts]
    split
    · exact ⟨[] :: d, p, by rw [h1]; rfl, by rw [h2]; rfl⟩
    · rw [h1, h2]
      cases d with
      | nil =>
        refine ⟨[], c :: p, rfl, ?_⟩
        cases h : parts b m with
        | nil => exact absurd h (parts_ne b m)
        | cons q qs => rfl
      | cons e d => exact ⟨(c :: e) :: d, p, rfl, rfl⟩
theorem parts_snoc_sep {b : UInt8} (l : List UInt8) : parts b (l ++ [b]) = parts b l ++ [[]] := by
  obtain ⟨d, p, h1, h2⟩ := parts_append (b := b) l [b]
  rw [h2, h1]
  simp [parts]
theorem parts_snoc_other {b c : UInt8} (h : c ≠ b) (l : List UInt8) : ∃ d p, parts b l = d ++ [p] ∧ parts b (l ++ [c]) = d ++ [p ++ [c]] := by
  obtain ⟨d, p, h1, h2⟩ := parts_append (b := b) l [c]
  refine ⟨d, p, h1, ?_⟩
  rw [h2]
  simp [parts, h, consHead]
/-- No part holds the byte. -/
theorem parts_no {b : UInt8} (l : List UInt8) : ∀ p ∈ parts b l, b ∉ p := by
  induction l with
  | nil => simp [parts]
  | cons c l ih =>
    unfold parts
    split
    · intro p hp
      rcases List.mem_cons.1 hp with rfl | hp
      · simp
      · exact ih p hp
    · rename_i hc
      cases h : parts b l with
      | nil => exact absurd h (parts_ne b l)
      | cons q qs =>
        rw [h] at ih
        intro p hp
        rcases List.mem_cons.1 hp with rfl | hp
        · have := ih q (by simp)
          simp [Ne.symm hc, this]
        · exact ih p (by simp [hp])
/-- Joined by the byte, the parts are the text. -/
def joinB (b : UInt8) (ps : List (List UInt8)) : List UInt8 := [b].intercalate ps
theorem joinB_one (b : UInt8) (p : List UInt8) : joinB b [p] = p := by simp [joinB, List.intercalate]
theorem joinB_cons (b : UInt8) (p q : List UInt8) (ps : List (List UInt8)) : joinB b (p :: q :: ps) = p ++ b :: joinB b (q :: ps) := by simp [joinB, List.intercalate, List.intersperse]
theorem joinB_snoc (b : UInt8) (ps : List (List UInt8)) (q : List UInt8) (h : ps ≠ []) : joinB b (ps ++ [q]) = joinB b ps ++ b :: q := by
  induction ps with
  | nil => exact absurd rfl h
  | cons p ps ih =>
    cases ps with
    | nil => simp [joinB_one, joinB_cons]
    | cons r ps =>
      have h2 := ih (by simp)
      simp only [List.cons_append] at h2 ⊢
      rw [joinB_cons, joinB_cons, h2]
      simp
theorem join_parts (b : UInt8) (l : List UInt8) : joinB b (parts b l) = l := by
  induction l with
  | nil => rfl
  | cons c l ih =>
    unfold parts
    cases h : parts b l with
    | nil => exact absurd h (parts_ne b l)
    | cons q qs =>
      rw [h] at ih
      split
      · rename_i hc
        rw [joinB_cons, ih, hc]
        rfl
      · cases qs with
        | nil => rw [joinB_one] at ih; simp [consHead, joinB_one, ih]
        | cons r qs => rw [joinB_cons] at ih; simp [consHead, joinB_cons, ih]
/-- Parts without the byte, joined and parted again. -/
theorem parts_join {b : UInt8} {ps : List (List UInt8)} (hne : ps ≠ []) (h : ∀ p ∈ ps, b ∉ p) : parts b (joinB b ps) = ps := by
  induction ps with
  | nil => exact absurd rfl hne
  | cons p ps ih =>
    cases ps with
    | nil => rw [joinB_one, parts_nosep (h p (by simp))]
    | cons q ps => rw [joinB_cons, parts_cut _ (h p (by simp)), ih (by simp) fun x hx => h x (by simp [hx])]

/-! ### The library's words -/
theorem index_no {l : List UInt8} {c : UInt8} (h : c ∉ l) : Lib.index l [c] = -1 := by
  rw [Lib.index_one]
  have h1 := Lib.indexByte_ge l c
  rcases Int.lt_or_le (Lib.indexByte l c) 0 with h2 | h2
  · omega
  · obtain ⟨o, ho⟩ := Int.eq_ofNat_of_zero_le h2
    exact absurd (List.mem_of_getElem? (Lib.indexByte_some ho).1) h
theorem indexByte_no {l : List UInt8} {c : UInt8} (h : c ∉ l) : Lib.indexByte l c = -1 := by rw [← Lib.index_one]; exact index_no h
theorem indexByte_at {p : List UInt8} {c : UInt8} (r : List UInt8) (h : c ∉ p) : Lib.indexByte (p ++ c :: r) c = (p.length : Int) := by
  have h1 := Lib.indexByte_ge (p ++ c :: r) c
  rcases Int.lt_or_le (Lib.indexByte (p ++ c :: r) c) 0 with h2 | h2
  · exact absurd (by simp) (Lib.indexByte_none (l := p ++ c :: r) (c := c) (by omega) p.length)
  · obtain ⟨o, ho⟩ := Int.eq_ofNat_of_zero_le h2
    obtain ⟨h3, h4⟩ := Lib.indexByte_some ho
    rw [ho]
    rcases Nat.lt_trichotomy o p.length with h5 | h5 | h5
    · rw [List.getElem?_append_left h5] at h3
      exact absurd (List.mem_of_getElem? h3) h
    · omega
    · exact absurd (by simp) (h4 p.length h5)
theorem index_at {p : List UInt8} {c : UInt8} (r : List UInt8) (h : c ∉ p) : Lib.index (p ++ c :: r) [c] = (p.length : Int) := by rw [Lib.index_one]; exact indexByte_at r h
theorem has_byte (l : List UInt8) (c : UInt8) : decide (0 ≤ Lib.indexByte l c) = l.contains c := by
  by_cases h : c ∈ l
  · obtain ⟨p, r, rfl, hp⟩ := split_first h
    rw [indexByte_at r hp]
    simp
  · rw [indexByte_no h]
    simp [h]
theorem cut_no {l : List UInt8} {c : UInt8} (h : c ∉ l) : Lib.cut l [c] = (l, [], false) := by
  unfold Lib.cut
  rw [index_no h, if_neg (by decide)]
theorem cut_at {p : List UInt8} {c : UInt8} (r : List UInt8) (h : c ∉ p) : Lib.cut (p ++ c :: r) [c] = (p, r, true) := by
  unfold Lib.cut
  rw [index_at r h, if_pos (by omega)]
  simp
theorem splitK_parts (b : UInt8) : ∀ (k : Nat) (l : List UInt8), l.count b ≤ k → Lib.splitK [b] 0 k l = parts b l
  | 0, l, h => by
    rw [parts_nosep (fun hm => by have := List.count_pos_iff.2 hm; omega)]
    rfl
  | k + 1, l, h => by
    unfold Lib.splitK
    by_cases hm : b ∈ l
    · obtain ⟨p, r, rfl, hp⟩ := split_first hm
      rw [index_at r hp, if_neg (by simp), parts_cut r hp]
      have hc : r.count b ≤ k := by
        simp only [List.count_append, List.count_cons_self] at h
        omega
      simp only [Int.toNat_natCast, Nat.add_zero, List.take_left', List.length_singleton]
      rw [show (p ++ b :: r).drop (p.length + 1) = r by simp, splitK_parts b k r hc]
    · rw [index_no hm, if_pos (by rfl), parts_nosep hm]
/-- What strings.Split lays, at a separator of one byte. -/
def partsV (b : UInt8) (s : ByteArray) : List ByteArray := (parts b s.data.toList).map fun l => ⟨l.toArray⟩
theorem splitB_parts (s : ByteArray) (b : UInt8) : Lib.splitB ⟨#[b]⟩ 0 (Lib.countB s ⟨#[b]⟩) s = partsV b s := by
  have h := Lib.splitB_data ⟨#[b]⟩ 0 (Lib.countB s ⟨#[b]⟩) s
  have hc : Lib.countB s ⟨#[b]⟩ = s.data.toList.count b := Lib.count_one b s.data.toList
  rw [show (⟨#[b]⟩ : ByteArray).data.toList = [b] from rfl, splitK_parts b _ _ (by omega)] at h
  unfold partsV
  rw [← h, List.map_map]
  conv => lhs; rw [← List.map_id (Lib.splitB ⟨#[b]⟩ 0 (Lib.countB s ⟨#[b]⟩) s)]
  exact List.map_congr_left fun x _ => by cases x; simp
theorem parts_count (b : UInt8) (l : List UInt8) : (parts b l).length = l.count b + 1 := by
  induction l with
  | nil => rfl
  | cons c l ih =>
    unfold parts
    split
    · rename_i hc
      subst hc
      simp [ih]
    · rename_i hc
      rw [List.count_cons_of_ne (Ne.symm (Ne.symm hc)), ← ih]
      cases h : parts b l with
      | nil => exact absurd h (parts_ne b l)
      | cons q qs => rfl
theorem countB_parts (s : ByteArray) (b : UInt8) : Lib.countB s ⟨#[b]⟩ + 1 = (partsV b s).length := by
  have hc : Lib.countB s ⟨#[b]⟩ = s.data.toList.count b := Lib.count_one b s.data.toList
  rw [hc, partsV, List.length_map, parts_count]
end Go.Proofs.YtkclolejoijelaaDoor
