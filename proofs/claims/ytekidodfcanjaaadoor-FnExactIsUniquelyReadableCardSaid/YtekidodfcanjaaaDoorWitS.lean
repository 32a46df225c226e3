/-
  The program's lists of the search in memory: open states (rows of two cells) and the rests that are done (rows of slices).
-/
import Derived.Test.YtekidodfcanjaaaDoorSrchQ
import Derived.Test.YtekidodfcanjaaaDoorWitF
import Derived.Test.YtekidodfcanjaaaDoorBase
namespace Go.Proofs.YtekidodfcanjaaaDoor
open Go.RowKit
set_option linter.unusedVariables false
set_option linter.unusedSimpArgs false
set_option maxRecDepth 100000

theorem own_keep {e : TypeId} {B B' size n : Nat} {w w' : World} {v : Value} {xs : List Value} (h : w.ownsRow B e size v n xs) (k : Keep e B' w w') : w'.ownsRow B e size v n xs := by
  obtain ⟨h1, h2⟩ := h
  refine ⟨h1, ?_⟩
  rcases h2 with h2 | ⟨g, cap, cur, hv, hb, hg, rest⟩
  · exact .inl h2
  · exact .inr ⟨g, cap, cur, hv, hb, k.typed g cur hg, rest⟩
/-- One block of another type has been written. -/
theorem keep_only {e e2 : TypeId} {B size n g cap : Nat} {w w' : World} {xs : List Value} (h : w.ownsRow B e2 size (.slice (some ⟨g, 0, none⟩) n cap) n xs) (ho : Only g (g + 1) w w') (hne : e2 ≠ e) : Keep e B w w' := by
  have hlo := (h.lt g rfl).1
  refine ⟨ho.os, ho.tape, ho.output, ho.size, fun k hk => ?_, fun k c hc => ?_⟩
  · have hl := (h.lt g rfl).2
    exact ho.block k (by omega) (.inl (by omega))
  · refine (ho.block k (Array.getElem?_eq_some_iff.1 hc).1 ?_).trans hc
    rcases Nat.lt_trichotomy k g with h1 | h1 | h1
    · exact .inl h1
    · subst h1
      rcases h.2 with ⟨hv, _⟩ | ⟨g', cap', cur, hv, _, hgg, _⟩
      · cases hv
      · injection hv with hv
        injection hv with hv
        injection hv with hv
        subst hv
        rw [hgg] at hc
        injection hc with hc
        injection hc with _ h2
        exact absurd h2 hne
    · exact .inr (by omega)
/-- A list of ints as a value: its row is never written. -/
def RowP (B : Nat) (w : World) (v : Value) (xs : List Int) : Prop := ∃ (A : Option Addr) (c : Nat), v = .slice A xs.length c ∧ RowT 3 B w A xs.length (ints xs) ∧ xs.length ≤ c ∧ c ≤ maxLen
section
variable {B : Nat} {w w' : World} {v u : Value} {xs : List Int} {O : List WtD} {s : WtD} {rs : List (List Int)}
theorem RowP.keep (h : RowP B w v xs) (k : Keep 3 B w w') : RowP B w' v xs := by
  obtain ⟨A, c, hv, h1, h2, h3⟩ := h
  exact ⟨A, c, hv, h1.keep k, h2, h3⟩
def WitOk (B : Nat) (w : World) (c : Value × Value) (s : WtD) : Prop := RowP B w c.1 s.2 ∧ RowP B w c.2 s.1
theorem WitOk.keep {c : Value × Value} (h : WitOk B w c s) (k : Keep 3 B w w') : WitOk B w' c s := ⟨h.1.keep k, h.2.keep k⟩
def Wits (B : Nat) (w : World) (v : Value) (O : List WtD) : Prop :=
  ∃ cs : List (Value × Value), cs.length = O.length ∧ w.ownsRow B 58 2 v O.length (flat2 cs) ∧ ∀ (j : Nat) c s, cs[j]? = some c → O[j]? = some s → WitOk B w c s
theorem Wits.keep (h : Wits B w v O) (k : Keep 3 B w w') (k2 : Keep 58 B w w') : Wits B w' v O := by
  obtain ⟨cs, h1, h2, h3⟩ := h
  exact ⟨cs, h1, own_keep h2 k2, fun j c s hc hs => (h3 j c s hc hs).keep k⟩
theorem Wits.far (h : Wits B w v O) (hb : Below w.heap.size w w') (hB : B ≤ w.heap.size) : Wits B w' v O := h.keep (Keep.of_below hb hB) (Keep.of_below hb hB)
theorem Wits.slice (h : Wits B w v O) : ∃ A c, v = .slice A O.length c ∧ O.length ≤ c ∧ c ≤ maxLen := by
  obtain ⟨cs, h1, h2, h3⟩ := h
  obtain ⟨A, c, rfl, -, h4, h5⟩ := (Own.of_row h2).slice
  exact ⟨A, c, rfl, h4, h5⟩
theorem Wits.made (hB : B ≤ w.heap.size) : Wits B (w.alloc (.cells #[] 58)) (.slice (some ⟨w.heap.size, 0, none⟩) 0 0) [] :=
  ⟨[], rfl, World.ownsRow_made w #[] 0 hB (by simp) rfl, fun j c s h => by simp at h⟩
theorem Wits.open_ (h : Wits B w v O) (hn : 0 < O.length) : ∃ g cap, v = .slice (some ⟨g, 0, none⟩) O.length cap ∧ B ≤ g ∧ g < w.heap.size ∧ O.length ≤ cap ∧ cap ≤ maxLen ∧
    ∀ (j : Nat) s, O[j]? = some s → ∃ c : Value × Value, WitOk B w c s ∧ w.cell? ⟨g, j * 2, none⟩ = some c.1 ∧ w.cell? ⟨g, j * 2 + 1, none⟩ = some c.2 := by
  obtain ⟨cs, h1, h2, h3⟩ := h
  obtain ⟨g, cap, rfl, k1, -, k2, k3, k4, k5, k6⟩ := (Own.of_row h2).open_ hn
  refine ⟨g, cap, rfl, k1, k2, k3, k4, fun j s hs => ?_⟩
  have hj := (List.getElem?_eq_some_iff.1 hs).1
  obtain ⟨c, hc⟩ := some_at cs (show j < cs.length by omega)
  obtain ⟨e0, e1⟩ := flat2_at hc
  exact ⟨c, h3 j c s hc hs, (k5 _ (by omega)).trans e0, (k5 _ (by omega)).trans e1⟩
/-- A state is put behind the others. -/
theorem Wits.put {cs : List (Value × Value)} {v2 rv av : Value} {r a : List Int} (h1 : cs.length = O.length) (h2 : w.ownsRow B 58 2 v O.length (flat2 cs)) (h3 : ∀ (j : Nat) c s, cs[j]? = some c → O[j]? = some s → WitOk B w c s) (hB : B ≤ w.heap.size)
    (ha : RowP B w av a) (hr : RowP B w rv r) (own2 : w'.ownsRow B 58 2 v2 (O.length + 1) (flat2 cs ++ [av, rv])) (gr : w.grownBy w' v.ownBlock) :
    Wits B w' v2 (O ++ [(r, a)]) ∧ Keep 3 B w w' ∧ Keep 36 B w w' := by
  have kp : Keep 3 B w w' := Keep.of_grown h2 gr (by decide) (Nat.le_refl _) hB
  refine ⟨⟨cs ++ [(av, rv)], by simp [h1], by rw [flat2_snoc, List.length_append]; exact own2, fun j c s hc hs => ?_⟩, kp, Keep.of_grown h2 gr (by decide) (Nat.le_refl _) hB⟩
  rcases Nat.lt_trichotomy j O.length with h | h | h
  · rw [List.getElem?_append_left (by omega)] at hc hs
    exact (h3 j c s hc hs).keep kp
  · subst h
    rw [List.getElem?_append_right (by omega), h1] at hc
    rw [List.getElem?_append_right (by omega)] at hs
    simp only [Nat.sub_self, List.getElem?_cons_zero, Option.some.injEq] at hc hs
    subst hc hs
    exact ⟨ha.keep kp, hr.keep kp⟩
  · have := (List.getElem?_eq_some_iff.1 hs).1
    simp at this
    omega
/-- One is left out. -/
theorem flat2_without (cs : List (Value × Value)) (k : Nat) : (flat2 cs).take (k * 2) ++ (flat2 cs).drop ((k + 1) * 2) = flat2 (cs.take k ++ cs.drop (k + 1)) := by
  have e1 : ∀ (cs : List (Value × Value)) k, (flat2 cs).take (k * 2) = flat2 (cs.take k) := by
    intro cs
    induction cs with
    | nil => intro k; simp [flat2]
    | cons p cs ih =>
      intro k
      cases k with
      | zero => simp [flat2]
      | succ k =>
        have := ih k
        simp only [flat2] at this ⊢
        rw [List.take_succ_cons, List.flatMap_cons, List.flatMap_cons, ← this, show (k + 1) * 2 = k * 2 + 2 by omega]
        simp [List.take]
  have e2 : ∀ (cs : List (Value × Value)) k, (flat2 cs).drop (k * 2) = flat2 (cs.drop k) := by
    intro cs
    induction cs with
    | nil => intro k; simp [flat2]
    | cons p cs ih =>
      intro k
      cases k with
      | zero => simp [flat2]
      | succ k =>
        have := ih k
        simp only [flat2] at this ⊢
        rw [List.drop_succ_cons, List.flatMap_cons, ← this, show (k + 1) * 2 = k * 2 + 2 by omega]
        simp [List.drop]
  rw [e1, e2]
  simp [flat2]
theorem Wits.cut {v2 : Value} {k : Nat} (h : Wits B w v O) (hk : k < O.length) (own2 : ∀ cs : List (Value × Value), cs.length = O.length → w.ownsRow B 58 2 v O.length (flat2 cs) → w'.ownsRow B 58 2 v2 (O.length - 1) ((flat2 cs).take (k * 2) ++ (flat2 cs).drop ((k + 1) * 2))) (kp : Keep 3 B w w') :
    Wits B w' v2 (without O k) := by
  obtain ⟨cs, h1, h2, h3⟩ := h
  have h4 := own2 cs h1 h2
  rw [flat2_without] at h4
  refine ⟨cs.take k ++ cs.drop (k + 1), by simp [without, h1], by rw [without_len hk]; exact h4, fun j c s hc hs => ?_⟩
  unfold without at hs
  rw [List.getElem?_append] at hc hs
  simp only [List.length_take] at hc hs
  rw [show min k cs.length = k by omega] at hc
  rw [show min k O.length = k by omega] at hs
  by_cases hj : j < k
  · rw [if_pos hj, List.getElem?_take, if_pos hj] at hc hs
    exact (h3 j c s hc hs).keep kp
  · rw [if_neg hj, List.getElem?_drop] at hc hs
    exact (h3 _ c s hc hs).keep kp
/-- The rests that are done. -/
def Rests (B : Nat) (w : World) (v : Value) (rs : List (List Int)) : Prop :=
  ∃ vs : List Value, vs.length = rs.length ∧ w.ownsRow B 36 1 v rs.length vs ∧ ∀ (j : Nat) u r, vs[j]? = some u → rs[j]? = some r → RowP B w u r
theorem Rests.keep (h : Rests B w v rs) (k : Keep 3 B w w') (k2 : Keep 36 B w w') : Rests B w' v rs := by
  obtain ⟨cs, h1, h2, h3⟩ := h
  exact ⟨cs, h1, own_keep h2 k2, fun j c s hc hs => (h3 j c s hc hs).keep k⟩
theorem Rests.far (h : Rests B w v rs) (hb : Below w.heap.size w w') (hB : B ≤ w.heap.size) : Rests B w' v rs := h.keep (Keep.of_below hb hB) (Keep.of_below hb hB)
theorem Rests.made (hB : B ≤ w.heap.size) : Rests B (w.alloc (.cells #[] 36)) (.slice (some ⟨w.heap.size, 0, none⟩) 0 0) [] :=
  ⟨[], rfl, World.ownsRow_made w #[] 0 hB (by simp) rfl, fun j c s h => by simp at h⟩
theorem Rests.list (h : Rests B w v rs) : ∃ A c, v = .slice A rs.length c ∧ ListR w A rs := by
  obtain ⟨vs, h1, h2, h3⟩ := h
  obtain ⟨A, c, rfl, -, -, -⟩ := (Own.of_row h2).slice
  refine ⟨A, c, rfl, fun hn => ?_⟩
  obtain ⟨g, cap, hv, k1, -, k2, k3, k4, k5, k6⟩ := (Own.of_row h2).open_ hn
  injection hv with hv1 _ _
  refine ⟨g, 0, hv1, fun k r hr => ?_⟩
  have hk := (List.getElem?_eq_some_iff.1 hr).1
  obtain ⟨u, hu⟩ := some_at vs (show k < vs.length by omega)
  obtain ⟨a, c2, rfl, rd, -, -⟩ := h3 k u r hu hr
  exact ⟨a, c2, by rw [Nat.zero_add]; exact (k5 k (by omega)).trans hu, rd.reads⟩
theorem Rests.put {vs : List Value} {v2 rv : Value} {r : List Int} (h1 : vs.length = rs.length) (h2 : w.ownsRow B 36 1 v rs.length vs) (h3 : ∀ (j : Nat) u r, vs[j]? = some u → rs[j]? = some r → RowP B w u r) (hB : B ≤ w.heap.size)
    (hr : RowP B w rv r) (own2 : w'.ownsRow B 36 1 v2 (rs.length + 1) (vs ++ [rv])) (gr : w.grownBy w' v.ownBlock) :
    Rests B w' v2 (rs ++ [r]) ∧ Keep 3 B w w' ∧ Keep 58 B w w' := by
  have kp : Keep 3 B w w' := Keep.of_grown h2 gr (by decide) (Nat.le_refl _) hB
  refine ⟨⟨vs ++ [rv], by simp [h1], by rw [List.length_append]; exact own2, fun j c s hc hs => ?_⟩, kp, Keep.of_grown h2 gr (by decide) (Nat.le_refl _) hB⟩
  rcases Nat.lt_trichotomy j rs.length with h | h | h
  · rw [List.getElem?_append_left (by omega)] at hc hs
    exact (h3 j c s hc hs).keep kp
  · subst h
    rw [List.getElem?_append_right (by omega), h1] at hc
    rw [List.getElem?_append_right (by omega)] at hs
    simp only [Nat.sub_self, List.getElem?_cons_zero, Option.some.injEq] at hc hs
    subst hc hs
    exact hr.keep kp
  · have := (List.getElem?_eq_some_iff.1 hs).1
    simp at this
    omega
end
end Go.Proofs.YtekidodfcanjaaaDoor
