/-
  The reference's list of states of the search in memory: a row of three cells each, two of them rows of ints that are never written.
-/
import Derived.Test.YtekidodfcanjaaaDoorSrchPl
import Derived.Test.YtekidodfcanjaaaDoorDictT
import Derived.Test.YtekidodfcanjaaaDoorBase
import Derived.Test.YtekidodfcanjaaaDoorRows
namespace Go.Proofs.YtekidodfcanjaaaDoor
open Go.RowKit
set_option linter.unusedVariables false
set_option linter.unusedSimpArgs false
set_option maxRecDepth 100000

abbrev Cell3 := Value × Value × Value
def cellsS (cs : List Cell3) : List Value := cs.flatMap fun c => [c.1, c.2.1, c.2.2]
theorem cellsS_length (cs : List Cell3) : (cellsS cs).length = cs.length * 3 := by
  induction cs with
  | nil => rfl
  | cons p ps ih => simp only [cellsS, List.flatMap_cons, List.length_append, List.length_cons, List.length_nil] at *; omega
theorem cellsS_snoc (cs : List Cell3) (a b c : Value) : cellsS (cs ++ [(a, b, c)]) = cellsS cs ++ [a, b, c] := by simp [cellsS]
theorem cellsS_split (a : List Cell3) (c : Cell3) (b : List Cell3) : cellsS (a ++ c :: b) = cellsS a ++ c.1 :: c.2.1 :: c.2.2 :: cellsS b := by simp [cellsS]
theorem cellsS_at {cs : List Cell3} {k : Nat} {c : Cell3} (h : cs[k]? = some c) : (cellsS cs)[k * 3]? = some c.1 ∧ (cellsS cs)[k * 3 + 1]? = some c.2.1 ∧ (cellsS cs)[k * 3 + 2]? = some c.2.2 := by
  obtain ⟨a, b, rfl, rfl⟩ := split_at h
  rw [cellsS_split]
  have hn := cellsS_length a
  refine ⟨?_, ?_, ?_⟩
  · rw [List.getElem?_append_right (by omega), hn, Nat.sub_self]; rfl
  · rw [List.getElem?_append_right (by omega), hn, show a.length * 3 + 1 - a.length * 3 = 1 by omega]; rfl
  · rw [List.getElem?_append_right (by omega), hn, show a.length * 3 + 2 - a.length * 3 = 2 by omega]; rfl
theorem cellsS_set1 {cs : List Cell3} {k : Nat} {c : Cell3} (h : cs[k]? = some c) (u : Value) : (cellsS cs).set (k * 3 + 1) u = cellsS (cs.set k (c.1, u, c.2.2)) := by
  obtain ⟨a, b, rfl, rfl⟩ := split_at h
  rw [List.set_append_right _ _ (Nat.le_refl _), Nat.sub_self, List.set_cons_zero, cellsS_split, cellsS_split]
  have hn := cellsS_length a
  rw [List.set_append_right _ _ (by omega), hn, show a.length * 3 + 1 - a.length * 3 = 1 by omega]
  rfl
theorem cellsS_set2 {cs : List Cell3} {k : Nat} {c : Cell3} (h : cs[k]? = some c) (u : Value) : (cellsS cs).set (k * 3 + 2) u = cellsS (cs.set k (c.1, c.2.1, u)) := by
  obtain ⟨a, b, rfl, rfl⟩ := split_at h
  rw [List.set_append_right _ _ (Nat.le_refl _), Nat.sub_self, List.set_cons_zero, cellsS_split, cellsS_split]
  have hn := cellsS_length a
  rw [List.set_append_right _ _ (by omega), hn, show a.length * 3 + 2 - a.length * 3 = 2 by omega]
  rfl

/-- A list of ints as a value: a row of the call's own that is never written. -/
def RowV (B : Nat) (w : World) (v : Value) (xs : List Int) : Prop := w.ownsRow B 3 1 v xs.length (ints xs)
section
variable {B : Nat} {w w' : World} {v u : Value} {xs : List Int} {S : List StD} {s : StD}
theorem RowV.keep (h : RowV B w v xs) (k : Keep 3 B w w') : RowV B w' v xs := by
  obtain ⟨h1, h2⟩ := h
  refine ⟨h1, ?_⟩
  rcases h2 with h2 | ⟨g, cap, cur, hv, hb, hg, rest⟩
  · exact .inl h2
  · exact .inr ⟨g, cap, cur, hv, hb, k.typed g cur hg, rest⟩
theorem RowV.slice (h : RowV B w v xs) : ∃ (A : Option Addr) (c : Nat), v = .slice A xs.length c ∧ Reads w w.heap.size 1 A xs.length (ints xs) ∧ xs.length ≤ c ∧ c ≤ maxLen := (Own.of_row h).slice
def StOk (B : Nat) (w : World) (c : Cell3) (s : StD) : Prop := RowV B w c.1 s.1 ∧ RowV B w c.2.1 s.2.1 ∧ c.2.2 = .bool s.2.2
theorem StOk.keep {c : Cell3} (h : StOk B w c s) (k : Keep 3 B w w') : StOk B w' c s := ⟨h.1.keep k, h.2.1.keep k, h.2.2⟩
def States (B : Nat) (w : World) (v : Value) (S : List StD) : Prop :=
  ∃ cs : List Cell3, cs.length = S.length ∧ w.ownsRow B 53 3 v S.length (cellsS cs) ∧ ∀ (j : Nat) c s, cs[j]? = some c → S[j]? = some s → StOk B w c s
theorem States.keep (h : States B w v S) (k : Keep 3 B w w') (ho : ∀ xs, w.ownsRow B 53 3 v S.length xs → w'.ownsRow B 53 3 v S.length xs) : States B w' v S := by
  obtain ⟨cs, h1, h2, h3⟩ := h
  exact ⟨cs, h1, ho _ h2, fun j c s hc hs => (h3 j c s hc hs).keep k⟩
theorem States.far (h : States B w v S) (hb : Below w.heap.size w w') (hB : B ≤ w.heap.size) : States B w' v S :=
  h.keep (Keep.of_below hb hB) fun xs ho => ((Own.of_row ho).below hb).1
theorem States.slice (h : States B w v S) : ∃ A c, v = .slice A S.length c := by
  obtain ⟨cs, h1, h2, h3⟩ := h
  obtain ⟨A, c, rfl, -, -, -⟩ := (Own.of_row h2).slice
  exact ⟨A, c, rfl⟩
theorem States.made (hB : B ≤ w.heap.size) : States B (w.alloc (.cells #[] 53)) (.slice (some ⟨w.heap.size, 0, none⟩) 0 0) [] :=
  ⟨[], rfl, World.ownsRow_made w #[] 0 hB (by simp) rfl, fun j c s h => by simp at h⟩
/-- Where there is a state: its block and cells. -/
theorem States.open_ (h : States B w v S) (hn : 0 < S.length) : ∃ g cap, v = .slice (some ⟨g, 0, none⟩) S.length cap ∧ B ≤ g ∧ g < w.heap.size ∧ S.length ≤ cap ∧ cap ≤ maxLen ∧ (∀ j, w.frozen? ⟨g, j, none⟩ = false) ∧
    ∀ (j : Nat) s, S[j]? = some s → ∃ c : Cell3, StOk B w c s ∧ w.cell? ⟨g, j * 3, none⟩ = some c.1 ∧ w.cell? ⟨g, j * 3 + 1, none⟩ = some c.2.1 ∧ w.cell? ⟨g, j * 3 + 2, none⟩ = some c.2.2 := by
  obtain ⟨cs, h1, h2, h3⟩ := h
  obtain ⟨g, cap, rfl, k1, -, k2, k3, k4, k5, k6⟩ := (Own.of_row h2).open_ hn
  refine ⟨g, cap, rfl, k1, k2, k3, k4, k6, fun j s hs => ?_⟩
  have hj := (List.getElem?_eq_some_iff.1 hs).1
  obtain ⟨c, hc⟩ := some_at cs (show j < cs.length by omega)
  obtain ⟨e0, e1, e2⟩ := cellsS_at hc
  exact ⟨c, h3 j c s hc hs, (k5 _ (by omega)).trans e0, (k5 _ (by omega)).trans e1, (k5 _ (by omega)).trans e2⟩
theorem get_set {α : Type} {l : List α} {j k : Nat} {x y : α} (h : (l.set k x)[j]? = some y) : (j = k ∧ y = x) ∨ (j ≠ k ∧ l[j]? = some y) := by
  rw [List.getElem?_set] at h
  split at h
  · split at h
    · exact .inl ⟨by omega, (Option.some.inj h).symm⟩
    · cases h
  · exact .inr ⟨by omega, h⟩
/-- A state's strokes are others. -/
theorem States.set1 {g cap k : Nat} {a : List Int} (h : States B w (.slice (some ⟨g, 0, none⟩) S.length cap) S) (hk : S[k]? = some s) (ha : RowV B w u a) :
    States B (w.setCell ⟨g, k * 3 + 1, none⟩ u) (.slice (some ⟨g, 0, none⟩) S.length cap) (S.set k (s.1, a, s.2.2)) ∧ Keep 3 B w (w.setCell ⟨g, k * 3 + 1, none⟩ u) := by
  obtain ⟨cs, h1, h2, h3⟩ := h
  have kp : Keep 3 B w (w.setCell ⟨g, k * 3 + 1, none⟩ u) := Keep.of_set h2 (by decide) (Nat.le_refl _) _ _
  have hkl := (List.getElem?_eq_some_iff.1 hk).1
  obtain ⟨c, hc⟩ := some_at cs (show k < cs.length by omega)
  have h4 := ((Own.of_row h2).set_ (k * 3 + 1) u).1
  rw [cellsS_set1 hc] at h4
  refine ⟨⟨cs.set k (c.1, u, c.2.2), by simp [h1], by rw [List.length_set]; exact h4, fun j d t hd ht => ?_⟩, kp⟩
  rcases get_set hd with ⟨rfl, rfl⟩ | ⟨hj, hd⟩
  · rcases get_set ht with ⟨-, rfl⟩ | ⟨hj, -⟩
    · have h5 := h3 _ _ _ hc hk
      exact ⟨h5.1.keep kp, ha.keep kp, h5.2.2⟩
    · exact absurd rfl hj
  · rcases get_set ht with ⟨hj2, -⟩ | ⟨-, ht⟩
    · exact absurd hj2 hj
    · exact (h3 _ _ _ hd ht).keep kp
/-- A state is done. -/
theorem States.set2 {g cap k : Nat} {b : Bool} (h : States B w (.slice (some ⟨g, 0, none⟩) S.length cap) S) (hk : S[k]? = some s) :
    States B (w.setCell ⟨g, k * 3 + 2, none⟩ (.bool b)) (.slice (some ⟨g, 0, none⟩) S.length cap) (S.set k (s.1, s.2.1, b)) ∧ Keep 3 B w (w.setCell ⟨g, k * 3 + 2, none⟩ (.bool b)) := by
  obtain ⟨cs, h1, h2, h3⟩ := h
  have kp : Keep 3 B w (w.setCell ⟨g, k * 3 + 2, none⟩ (.bool b)) := Keep.of_set h2 (by decide) (Nat.le_refl _) _ _
  have hkl := (List.getElem?_eq_some_iff.1 hk).1
  obtain ⟨c, hc⟩ := some_at cs (show k < cs.length by omega)
  have h4 := ((Own.of_row h2).set_ (k * 3 + 2) (.bool b)).1
  rw [cellsS_set2 hc] at h4
  refine ⟨⟨cs.set k (c.1, c.2.1, .bool b), by simp [h1], by rw [List.length_set]; exact h4, fun j d t hd ht => ?_⟩, kp⟩
  rcases get_set hd with ⟨rfl, rfl⟩ | ⟨hj, hd⟩
  · rcases get_set ht with ⟨-, rfl⟩ | ⟨hj, -⟩
    · have h5 := h3 _ _ _ hc hk
      exact ⟨h5.1.keep kp, h5.2.1.keep kp, rfl⟩
    · exact absurd rfl hj
  · rcases get_set ht with ⟨hj2, -⟩ | ⟨-, ht⟩
    · exact absurd hj2 hj
    · exact (h3 _ _ _ hd ht).keep kp
/-- A state is put behind the others. -/
theorem States.put {cs : List Cell3} {v2 rv av : Value} {r a : List Int} (h1 : cs.length = S.length) (h2 : w.ownsRow B 53 3 v S.length (cellsS cs)) (h3 : ∀ (j : Nat) c s, cs[j]? = some c → S[j]? = some s → StOk B w c s) (hB : B ≤ w.heap.size)
    (hr : RowV B w rv r) (ha : RowV B w av a) (own2 : w'.ownsRow B 53 3 v2 (S.length + 1) (cellsS cs ++ [rv, av, .bool false])) (gr : w.grownBy w' v.ownBlock) :
    States B w' v2 (S ++ [(r, a, false)]) ∧ Keep 3 B w w' := by
  have kp : Keep 3 B w w' := Keep.of_grown h2 gr (by decide) (Nat.le_refl _) hB
  refine ⟨⟨cs ++ [(rv, av, .bool false)], by simp [h1], by rw [cellsS_snoc, List.length_append]; exact own2, fun j c s hc hs => ?_⟩, kp⟩
  rcases Nat.lt_trichotomy j S.length with h | h | h
  · rw [List.getElem?_append_left (by omega)] at hc hs
    exact (h3 j c s hc hs).keep kp
  · subst h
    rw [List.getElem?_append_right (by omega), h1] at hc
    rw [List.getElem?_append_right (by omega)] at hs
    simp only [Nat.sub_self, List.getElem?_cons_zero, Option.some.injEq] at hc hs
    subst hc hs
    exact ⟨hr.keep kp, ha.keep kp, rfl⟩
  · have := (List.getElem?_eq_some_iff.1 hs).1
    simp at this
    omega
end
end Go.Proofs.YtekidodfcanjaaaDoor
