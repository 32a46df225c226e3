/-
  The index of words in memory: a row of two cells each, a word and a row of turns of its own.
-/
import Derived.Test.YthokekgdiebhjaaDoorRowsSS
import Derived.Test.YthokekgdiebhjaaDoorBase
import Derived.Test.YthokekgdiebhjaaDoorIns
import Derived.Test.YthokekgdiebhjaaDoorIdxPl
import Derived.Test.YthokekgdiebhjaaDoorStrs
namespace Go.Proofs.YthokekgdiebhjaaDoor
open Go.RowKit
set_option linter.unusedVariables false
set_option linter.unusedSimpArgs false
set_option maxRecDepth 100000

theorem ins_get {α : Type} {l : List α} {p : Nat} (hp : p ≤ l.length) (z : α) (j : Nat) : (l.take p ++ [z] ++ l.drop p)[j]? = if j < p then l[j]? else if j = p then some z else l[j - 1]? := by
  have hl : (l.take p).length = p := by rw [List.length_take]; omega
  rw [List.append_assoc]
  by_cases h1 : j < p
  · rw [if_pos h1, List.getElem?_append_left (by omega), List.getElem?_take, if_pos h1]
  · rw [if_neg h1, List.getElem?_append_right (by omega), hl]
    by_cases h2 : j = p
    · rw [if_pos h2, show j - p = 0 by omega]; rfl
    · rw [if_neg h2, show j - p = (j - p - 1) + 1 by omega, List.singleton_append, List.getElem?_cons_succ, List.getElem?_drop, show p + (j - p - 1) = j - 1 by omega]
theorem rowsAt_ins {w : World} {lo p : Nat} {vs : List Value} {rows : List (List Int)} (h : RowsAt w lo vs rows) (hp : p ≤ rows.length) : RowsAt w lo (vs.take p ++ [.slice none 0 0] ++ vs.drop p) (rows.take p ++ [[]] ++ rows.drop p) := by
  have hl := h.len
  refine ⟨by simp [hl], fun j u r hu hr => ?_, fun i j u u' hij hu hu' g hg => ?_⟩
  · rw [ins_get (by omega)] at hu hr
    by_cases h1 : j < p
    · rw [if_pos h1] at hu hr
      exact h.row j u r hu hr
    · rw [if_neg h1] at hu hr
      by_cases h2 : j = p
      · rw [if_pos h2] at hu hr
        cases hu
        cases hr
        exact World.ownsRow_nil _ _ _ _
      · rw [if_neg h2] at hu hr
        exact h.row _ u r hu hr
  · rw [ins_get (by omega)] at hu hu'
    by_cases hi2 : i = p
    · rw [if_neg (by omega), if_pos hi2] at hu
      cases hu
      cases hg
    · by_cases hj2 : j = p
      · rw [if_neg (by omega), if_pos hj2] at hu'
        cases hu'
        intro hg'
        cases hg'
      · have e1 : ∃ a, a = (if i < p then i else i - 1) ∧ vs[a]? = some u := by
          refine ⟨_, rfl, ?_⟩
          split at hu
          · next h1 => rw [if_pos h1]; exact hu
          · next h1 => rw [if_neg h1]; first | exact hu | (rw [if_neg hi2] at hu; exact hu)
        have e2 : ∃ a, a = (if j < p then j else j - 1) ∧ vs[a]? = some u' := by
          refine ⟨_, rfl, ?_⟩
          split at hu'
          · next h1 => rw [if_pos h1]; exact hu'
          · next h1 => rw [if_neg h1]; first | exact hu' | (rw [if_neg hj2] at hu'; exact hu')
        obtain ⟨a, ha, hua⟩ := e1
        obtain ⟨b, hb, hub⟩ := e2
        exact h.apart a b u u' (by rw [ha, hb]; split <;> split <;> omega) hua hub g hg
theorem rowsAt_set {w w' : World} {lo k : Nat} {vs : List Value} {rows : List (List Int)} {u u2 : Value} {r r2 : List Int} (h : RowsAt w lo vs rows) (hu : vs[k]? = some u) (hr : rows[k]? = some r)
    (own2 : w'.ownsRow lo 3 1 u2 r2.length (ints r2)) (gr : w.grownBy w' u.ownBlock) (hat : u2.ownBlock = u.ownBlock ∨ ∃ g', u2.ownBlock = some g' ∧ w.heap.size ≤ g') : RowsAt w' lo (vs.set k u2) (rows.set k r2) := by
  have hg : ∀ {α : Type} {L : List α} {x : α} {j : Nat} {y : α}, (L.set k x)[j]? = some y → (j = k ∧ y = x) ∨ (j ≠ k ∧ L[j]? = some y) := by
    intro α L x j y h
    rw [List.getElem?_set] at h
    split at h
    · split at h
      · exact .inl ⟨by omega, (Option.some.inj h).symm⟩
      · cases h
    · exact .inr ⟨by omega, h⟩
  have hnew : ∀ (j : Nat) x, j ≠ k → vs[j]? = some x → ∀ g, u2.ownBlock = some g → x.ownBlock ≠ some g := by
    intro j x hj hx g hg2 hxg
    rcases hat with h1 | ⟨g', h1, h2⟩
    · rw [h1] at hg2
      exact h.apart k j u x (fun e => hj e.symm) hu hx g hg2 hxg
    · rw [h1] at hg2
      cases hg2
      have := (h.lt x (List.mem_of_getElem? hx) g hxg).2
      omega
  refine ⟨by simp [h.len], fun j x y hx hy => ?_, fun i j x y hij hx hy g hg1 => ?_⟩
  · rcases hg hx with ⟨rfl, rfl⟩ | ⟨hj, hx⟩
    · rcases hg hy with ⟨-, rfl⟩ | ⟨hj, -⟩
      · exact own2
      · exact absurd rfl hj
    · rcases hg hy with ⟨hj2, -⟩ | ⟨-, hy⟩
      · exact absurd hj2 hj
      · refine (h.row j x y hx hy).kept gr ?_
        cases hb : x.ownBlock with
        | none => exact .inl rfl
        | some b => exact .inr fun h2 => h.apart j k x u hj hx hu b hb h2.symm
  · rcases hg hx with ⟨e1, e2⟩ | ⟨hi, hx1⟩
    · rcases hg hy with ⟨hj, -⟩ | ⟨hj, hy1⟩
      · exact absurd (e1.trans hj.symm) hij
      · exact hnew j y hj hy1 g (by rw [← e2]; exact hg1)
    · rcases hg hy with ⟨e1, e2⟩ | ⟨hj, hy1⟩
      · intro h3
        exact hnew i x hi hx1 g (by rw [← e2]; exact h3) hg1
      · exact h.apart i j x y hij hx1 hy1 g hg1
theorem flat2_take (cs : List (Value × Value)) : ∀ k, (flat2 cs).take (k * 2) = flat2 (cs.take k) := by
  induction cs with
  | nil => intro k; simp [flat2]
  | cons p cs ih =>
    intro k
    cases k with
    | zero => simp [flat2]
    | succ k =>
      have := ih k
      simp only [flat2] at this ⊢
      rw [List.take_succ_cons, List.flatMap_cons, List.flatMap_cons, ← this, show (k + 1) * 2 = k * 2 + 2 by omega]
      simp [List.take]
theorem flat2_drop (cs : List (Value × Value)) : ∀ k, (flat2 cs).drop (k * 2) = flat2 (cs.drop k) := by
  induction cs with
  | nil => intro k; simp [flat2]
  | cons p cs ih =>
    intro k
    cases k with
    | zero => simp [flat2]
    | succ k =>
      have := ih k
      simp only [flat2] at this ⊢
      rw [List.drop_succ_cons, List.flatMap_cons, ← this, show (k + 1) * 2 = k * 2 + 2 by omega]
      simp [List.drop]
theorem flat2_ins (ps : List (Value × Value)) (p : Nat) (a b : Value) : (flat2 ps).take (p * 2) ++ [a, b] ++ (flat2 ps).drop (p * 2) = flat2 (ps.take p ++ [(a, b)] ++ ps.drop p) := by
  rw [flat2_take, flat2_drop]
  simp [flat2]
/-- The index in memory. -/
def IdxP (lo : Nat) (w : World) (v : Value) (L : List IdxD) (ps : List (Value × Value)) : Prop :=
  ps.length = L.length ∧ w.ownsRow lo 33 2 v L.length (flat2 ps) ∧ (∀ (j : Nat) p c, ps[j]? = some p → L[j]? = some c → p.1 = .string c.1) ∧ RowsAt w lo (ps.map (·.2)) (L.map (·.2))
def IdxS (lo : Nat) (w : World) (v : Value) (L : List IdxD) : Prop := ∃ ps : List (Value × Value), IdxP lo w v L ps
theorem info_idx : (Tryd.prog.info? 33).map (fun i => (i.zero, i.size, i.bytes)) = some (some (.agg #[.string ⟨#[]⟩, .slice none 0 0]), 2, 40) := by kernel_rfl
theorem row_oneCell {w : World} {b s n : Nat} {e : TypeId} {v : Value} {xs : List Value} (h : w.ownsRow b e s v n xs) : v.oneCell' = true := by
  rcases h.2 with ⟨rfl, _⟩ | ⟨g, cap, cur, rfl, _⟩ <;> rfl
theorem row_head2 {w : World} {base g n cap : Nat} {e : TypeId} {xs : List Value} (h : w.ownsRow base e 2 (.slice (some ⟨g, 0, none⟩) n cap) n xs) {k : Nat} (hk : k ≤ n) : Reads w w.heap.size 2 (some ⟨g, 0, none⟩) k (xs.take (k * 2)) := by
  have := row_part h 0 k (by omega)
  simpa using this
theorem row_tail2 {w : World} {base g n cap : Nat} {e : TypeId} {xs : List Value} (h : w.ownsRow base e 2 (.slice (some ⟨g, 0, none⟩) n cap) n xs) {k : Nat} (hk : k ≤ n) : Reads w w.heap.size 2 (some ⟨g, k * 2, none⟩) (n - k) (xs.drop (k * 2)) := by
  have := row_part h k (n - k) (by omega)
  rw [List.take_of_length_le (by have := h.1; simp; omega)] at this
  exact this
section
variable {lo : Nat} {w w' : World} {v : Value} {L : List IdxD}
theorem IdxS.made (hB : lo ≤ w.heap.size) : IdxS lo (w.alloc (.cells #[] 33)) (.slice (some ⟨w.heap.size, 0, none⟩) 0 0) [] :=
  ⟨[], rfl, World.ownsRow_made w #[] 0 hB (by simp) rfl, fun j p c h => by simp at h, RowsAt.nil _ _⟩
theorem IdxS.far (h : IdxS lo w v L) (hb : Below w.heap.size w w') : IdxS lo w' v L := by
  obtain ⟨ps, h1, h2, h3, h4⟩ := h
  exact ⟨ps, h1, row_below h2 hb, h3, h4.below hb⟩
theorem IdxS.slice (h : IdxS lo w v L) : ∃ A c, v = .slice A L.length c ∧ L.length ≤ c ∧ c ≤ maxLen := by
  obtain ⟨ps, h1, h2, h3, h4⟩ := h
  obtain ⟨A, c, rfl, -, h5, h6⟩ := (Own.of_row h2).slice
  exact ⟨A, c, rfl, h5, h6⟩
/-- Where there is an entry: its cells, its row of turns. -/
theorem IdxS.open_ (h : IdxS lo w v L) (hn : 0 < L.length) : ∃ g cap, v = .slice (some ⟨g, 0, none⟩) L.length cap ∧ lo ≤ g ∧ g < w.heap.size ∧ L.length ≤ cap ∧ cap ≤ maxLen ∧ (∀ j, w.frozen? ⟨g, j, none⟩ = false) ∧
    ∀ (j : Nat) c, L[j]? = some c → ∃ u, w.cell? ⟨g, j * 2, none⟩ = some (.string c.1) ∧ w.cell? ⟨g, j * 2 + 1, none⟩ = some u ∧ w.ownsRow lo 3 1 u c.2.length (ints c.2) := by
  obtain ⟨ps, h1, h2, h3, h4⟩ := h
  obtain ⟨g, cap, rfl, k1, -, k2, k3, k4, k5, k6⟩ := (Own.of_row h2).open_ hn
  refine ⟨g, cap, rfl, k1, k2, k3, k4, k6, fun j c hc => ?_⟩
  have hj := (List.getElem?_eq_some_iff.1 hc).1
  obtain ⟨p, hp⟩ := some_at ps (show j < ps.length by omega)
  obtain ⟨e0, e1⟩ := flat2_at hp
  exact ⟨p.2, by rw [← h3 j p c hp hc]; exact (k5 _ (by omega)).trans e0, (k5 _ (by omega)).trans e1, h4.row j p.2 c.2 (by simp [hp]) (by simp [hc])⟩
theorem IdxP.far {ps : List (Value × Value)} (h : IdxP lo w v L ps) (hb : Below w.heap.size w w') : IdxP lo w' v L ps := by
  obtain ⟨h1, h2, h3, h4⟩ := h
  exact ⟨h1, row_below h2 hb, h3, h4.below hb⟩
theorem IdxP.one {ps : List (Value × Value)} (h : IdxP lo w v L ps) : ∀ u ∈ flat2 ps, u.oneCell' = true := by
  obtain ⟨h1, h2, h3, h4⟩ := h
  intro u hu
  obtain ⟨p, hp, hu⟩ := List.mem_flatMap.1 hu
  obtain ⟨j, hj⟩ := List.mem_iff_getElem?.1 hp
  obtain ⟨c, hc⟩ := some_at L (show j < L.length by rw [← h1]; exact (List.getElem?_eq_some_iff.1 hj).1)
  have e1 := h3 j p c hj hc
  have e2 := row_oneCell (h4.row j p.2 c.2 (by simp [hj]) (by simp [hc]))
  simp only [List.mem_cons, List.not_mem_nil, or_false] at hu
  rcases hu with rfl | rfl
  · rw [e1]; rfl
  · exact e2
/-- An entry with no turn is put at place p: the cells of the new row. -/
theorem IdxP.ins {p : Nat} {v2 : Value} {x : ByteArray} {ps : List (Value × Value)} (h : IdxP lo w v L ps) (hp : p ≤ L.length) (hb : Below w.heap.size w w')
    (h5 : w'.ownsRow lo 33 2 v2 (L.length + 1) ((flat2 ps).take (p * 2) ++ [.string x, .slice none 0 0] ++ (flat2 ps).drop (p * 2))) :
    IdxS lo w' v2 (L.take p ++ [(x, [])] ++ L.drop p) := by
  obtain ⟨h1, h2, h3, h4⟩ := h
  rw [flat2_ins] at h5
  refine ⟨ps.take p ++ [(.string x, .slice none 0 0)] ++ ps.drop p, by simp; omega, ?_, fun j q c hq hc => ?_, ?_⟩
  · rw [show (L.take p ++ [(x, ([] : List Int))] ++ L.drop p).length = L.length + 1 by simp; omega]
    exact h5
  · rw [ins_get (by omega)] at hq hc
    by_cases e1 : j < p
    · rw [if_pos e1] at hq hc
      exact h3 j q c hq hc
    · rw [if_neg e1] at hq hc
      by_cases e2 : j = p
      · rw [if_pos e2] at hq hc
        cases hq
        cases hc
        rfl
      · rw [if_neg e2] at hq hc
        exact h3 _ q c hq hc
  · have := rowsAt_ins (p := p) (h4.below hb) (by simpa using hp)
    simpa [List.map_take, List.map_drop] using this
/-- A list of turns has grown and is stored. -/
theorem IdxS.set {k : Nat} {c : IdxD} {g cap : Nat} {u u2 : Value} {r2 : List Int} (h : IdxS lo w (.slice (some ⟨g, 0, none⟩) L.length cap) L) (hc : L[k]? = some c) (hu : w.cell? ⟨g, k * 2 + 1, none⟩ = some u)
    (own2 : w'.ownsRow lo 3 1 u2 r2.length (ints r2)) (gr : w.grownBy w' u.ownBlock) (hat : u2.ownBlock = u.ownBlock ∨ ∃ g', u2.ownBlock = some g' ∧ w.heap.size ≤ g') :
    IdxS lo (w'.setCell ⟨g, k * 2 + 1, none⟩ u2) (.slice (some ⟨g, 0, none⟩) L.length cap) (L.set k (c.1, r2)) ∧ w'.cell? ⟨g, k * 2 + 1, none⟩ = some u ∧ w'.frozen? ⟨g, k * 2 + 1, none⟩ = false := by
  obtain ⟨ps, h1, h2, h3, h4⟩ := h
  have hkl := (List.getElem?_eq_some_iff.1 hc).1
  obtain ⟨⟨a, b⟩, hp⟩ := some_at ps (show k < ps.length by omega)
  obtain ⟨g0, cap0, hv, -, -, -, -, -, k5, k6⟩ := (Own.of_row h2).open_ (by omega)
  injection hv with hv1 _ _
  injection hv1 with hv1
  injection hv1 with hv1
  subst hv1
  have hb : u = b := by
    have h9 := (k5 (k * 2 + 1) (by omega)).trans (flat2_at hp).2
    rw [hu] at h9
    exact Option.some.inj h9
  subst hb
  have hvk : (ps.map (·.2))[k]? = some u := by simp [hp]
  have hrow := h4.row k u c.2 hvk (by simp [hc])
  have hne : u.ownBlock ≠ some g := by
    intro e
    exact rows_apart hrow h2 (by decide) g e rfl
  have h2' : w'.ownsRow lo 33 2 (.slice (some ⟨g, 0, none⟩) L.length cap) L.length (flat2 ps) := h2.kept gr (.inr fun e => hne e.symm)
  have hrk : (L.map (·.2))[k]? = some c.2 := by simp [hc]
  have h5 := rowsAt_set h4 hvk hrk own2 gr hat
  have h6 := ((Own.of_row h2').set_ (k * 2 + 1) u2).1
  rw [flat2_set2 hp] at h6
  obtain ⟨g1, cap1, hv', -, -, -, -, -, m5, m6⟩ := (Own.of_row h2').open_ (by omega)
  injection hv' with hv1 _ _
  injection hv1 with hv1
  injection hv1 with hv1
  subst hv1
  refine ⟨⟨ps.set k (a, u2), by simp [h1], by rw [List.length_set]; exact h6, fun j q d hq hd => ?_, ?_⟩, (m5 (k * 2 + 1) (by omega)).trans (flat2_at hp).2, m6 _⟩
  · rw [List.getElem?_set] at hq hd
    by_cases e : k = j
    · subst e
      rw [if_pos rfl, if_pos (by omega)] at hq hd
      cases hq
      cases hd
      have h9 := h3 k (a, u) c hp hc
      exact h9
    · rw [if_neg e] at hq hd
      exact h3 j q d hq hd
  · rw [List.map_set, List.map_set]
    refine ⟨h5.len, fun j x y hx hy => ?_, h5.apart⟩
    have h7 := h5.row j x y hx hy
    exact ownsRow_setCell_other (a := ⟨g, k * 2 + 1, none⟩) h7 (fun e => rows_apart h7 h2' (by decide) g e rfl) u2
end
end Go.Proofs.YthokekgdiebhjaaDoor
