/-
  The reference's draw of a track: some track of few cues with small numbers.
-/
import Derived.Test.YtfgfbnmcihjfmaaCur
import Derived.Test.YtfgfbnmcihjfmaaValid
import Derived.Deep.RegionHeld3
namespace Go.Proofs.Ytfgfbnmcihjfmaa
open Go.RowKit
set_option linter.unusedVariables false

/-- Small numbers, short texts. -/
def Tame (B : Int) (l : List CueD) : Prop := ∀ c ∈ l, (-B ≤ c.1 ∧ c.1 ≤ B) ∧ (-B ≤ c.2.1 ∧ c.2.1 ≤ B) ∧ c.2.2.size ≤ 100
theorem Tame.snoc {B B' : Int} {l : List CueD} {c : CueD} (h : Tame B l) (hB : B ≤ B') (h1 : -B' ≤ c.1 ∧ c.1 ≤ B') (h2 : -B' ≤ c.2.1 ∧ c.2.1 ≤ B') (h3 : c.2.2.size ≤ 100) : Tame B' (l ++ [c]) := by
  intro d hd
  rw [List.mem_append] at hd
  rcases hd with hd | hd
  · obtain ⟨a, b, e⟩ := h d hd
    exact ⟨by omega, by omega, e⟩
  · simp at hd
    subst hd
    exact ⟨h1, h2, h3⟩
theorem Tame.more {B B' : Int} {l : List CueD} (h : Tame B l) (hB : B ≤ B') : Tame B' l := fun d hd => by
  obtain ⟨a, b, e⟩ := h d hd
  exact ⟨by omega, by omega, e⟩
theorem Tame.set {B : Int} {l : List CueD} {k : Nat} {c : CueD} (h : Tame B l) (h1 : -B ≤ c.1 ∧ c.1 ≤ B) (h2 : -B ≤ c.2.1 ∧ c.2.1 ≤ B) (h3 : c.2.2.size ≤ 100) : Tame B (l.set k c) := by
  intro d hd
  rcases List.mem_or_eq_of_mem_set hd with hd | rfl
  · exact h d hd
  · exact ⟨h1, h2, h3⟩

def sliceLen : Value → Nat
  | .slice _ n _ => n
  | _ => 0
def txt4 : List ByteArray := [⟨#[104, 101, 108, 108, 111]⟩, ⟨#[116, 104, 101, 32, 113, 117, 105, 99, 107, 32, 98, 114, 111, 119, 110, 32, 102, 111, 120, 32, 106, 117, 109, 112, 115]⟩, ⟨#[97]⟩, ⟨#[119, 101, 108, 108, 44, 32, 121, 101, 115]⟩]
def txt3 : List ByteArray := [⟨#[]⟩, ⟨#[10]⟩, ⟨#[120, 127]⟩]
def amg3 : List Int := [-1, 99999998, 100000000]
theorem amg3_size : ∀ t ∈ amg3, -1 ≤ t ∧ t ≤ 100000000 := by decide
def amg3' : List Int := [0, -1, 99999999]
theorem amg3'_size : ∀ t ∈ amg3', -1 ≤ t ∧ t ≤ 100000000 := by decide
/-- The cells of a new block. -/
theorem new_at {w : World} {xs : List Value} {e : TypeId} {j : Nat} {u : Value} (h : xs[j]? = some u) : (w.alloc (.cells xs.toArray e)).cell? ⟨w.heap.size, j, none⟩ = some u := by
  rw [World.cell?_alloc_at (hn := rfl)]
  simpa using h
theorem txt4_size : ∀ t ∈ txt4, t.size ≤ 100 := by
  intro t ht
  simp only [txt4, List.mem_cons, List.not_mem_nil, or_false] at ht
  rcases ht with rfl | rfl | rfl | rfl <;> decide
theorem txt3_size : ∀ t ∈ txt3, t.size ≤ 100 := by
  intro t ht
  simp only [txt3, List.mem_cons, List.not_mem_nil, or_false] at ht
  rcases ht with rfl | rfl | rfl <;> decide

theorem set_self {α : Type} {xs : List α} {j : Nat} {u : α} (h : xs[j]? = some u) : xs.set j u = xs := by
  apply List.ext_getElem?
  intro k
  rw [List.getElem?_set]
  by_cases hk : j = k
  · subst hk
    have hj := (List.getElem?_eq_some_iff.1 h).1
    rw [if_pos rfl, if_pos hj, h]
  · rw [if_neg hk]
theorem cuesV_set2 {l : List CueD} {k : Nat} {s e : Int} {t t' : ByteArray} (h : l[k]? = some (s, e, t)) : (cuesV l).set (k * 3 + 2) (.string t') = cuesV (l.set k (s, e, t')) := by
  obtain ⟨h0, h1, h2⟩ := cuesV_at h
  rw [← cuesV_set (List.getElem?_eq_some_iff.1 h).1]
  simp only at h0 h1 ⊢
  rw [set_self h0, set_self h1]
theorem cuesV_set1 {l : List CueD} {k : Nat} {s e e' : Int} {t : ByteArray} (h : l[k]? = some (s, e, t)) : (cuesV l).set (k * 3 + 1) (.int .i64 e') = cuesV (l.set k (s, e', t)) := by
  obtain ⟨h0, h1, h2⟩ := cuesV_at h
  rw [← cuesV_set (List.getElem?_eq_some_iff.1 h).1]
  simp only at h0 h2 ⊢
  rw [set_self h0, set_self (xs := (cuesV l).set (k * 3 + 1) (.int .i64 e')) (by rw [List.getElem?_set_ne (by omega)]; exact h2)]
theorem cuesV_set0 {l : List CueD} {k : Nat} {s e s' : Int} {t : ByteArray} (h : l[k]? = some (s, e, t)) : (cuesV l).set (k * 3) (.int .i64 s') = cuesV (l.set k (s', e, t)) := by
  obtain ⟨h0, h1, h2⟩ := cuesV_at h
  rw [← cuesV_set (List.getElem?_eq_some_iff.1 h).1]
  simp only at h1 h2 ⊢
  rw [set_self (xs := (cuesV l).set (k * 3) (.int .i64 s')) (by rw [List.getElem?_set_ne (by omega)]; exact h1), set_self (xs := (cuesV l).set (k * 3) (.int .i64 s')) (by rw [List.getElem?_set_ne (by omega)]; exact h2)]
theorem Only.then_below {lo hi B : Nat} {a b c : World} (h : Only lo hi a b) (k : Below B b c) (hB : a.heap.size ≤ B) : Only lo hi a c :=
  ⟨k.os.trans h.os, k.tape.trans h.tape, k.output.trans h.output, Nat.le_trans h.size k.size, fun i hi h' => (k.block i (by omega)).trans (h.block i hi h')⟩

theorem heldo_drew {go p q g : Nat} {w W : World} {a b : Value} (h : W.cell? ⟨go, p, none⟩ = some a ∧ W.cell? ⟨go, q, none⟩ = some b ∧ W.frozen? ⟨go, q, none⟩ = false ∧ Only g (g + 1) w W) : W.drew.cell? ⟨go, p, none⟩ = some a ∧ W.drew.cell? ⟨go, q, none⟩ = some b ∧ W.drew.frozen? ⟨go, q, none⟩ = false ∧ Only g (g + 1) w W.drew :=
  ⟨h.1, h.2.1, h.2.2.1, h.2.2.2.drew⟩
theorem heldo_alloc {go p q g : Nat} {w W : World} {a b : Value} (h : W.cell? ⟨go, p, none⟩ = some a ∧ W.cell? ⟨go, q, none⟩ = some b ∧ W.frozen? ⟨go, q, none⟩ = false ∧ Only g (g + 1) w W) (c : Array Value) (ty : TypeId) : (W.alloc (.cells c ty)).cell? ⟨go, p, none⟩ = some a ∧ (W.alloc (.cells c ty)).cell? ⟨go, q, none⟩ = some b ∧ (W.alloc (.cells c ty)).frozen? ⟨go, q, none⟩ = false ∧ Only g (g + 1) w (W.alloc (.cells c ty)) := by
  have hg : go < W.heap.size := World.block_lt_of_cell? W _ h.1
  exact ⟨(World.cell?_alloc_past _ _ _ hg).trans h.1, (World.cell?_alloc_past _ _ _ hg).trans h.2.1, (World.frozen?_alloc_past _ _ _ hg).trans h.2.2.1, h.2.2.2.trans (Only.of_below ((Below.refl _ _).alloc (Nat.le_refl _) _))⟩
theorem heldo_only {go p q g : Nat} {w W w1 : World} {a b : Value} (h : W.cell? ⟨go, p, none⟩ = some a ∧ W.cell? ⟨go, q, none⟩ = some b ∧ W.frozen? ⟨go, q, none⟩ = false ∧ Only g (g + 1) w W) (hne : go ≠ g) (ho : Only g (g + 1) W w1) : w1.cell? ⟨go, p, none⟩ = some a ∧ w1.cell? ⟨go, q, none⟩ = some b ∧ w1.frozen? ⟨go, q, none⟩ = false ∧ Only g (g + 1) w w1 := by
  have hg : go < W.heap.size := World.block_lt_of_cell? W _ h.1
  have hb := ho.block go hg (by omega)
  exact ⟨(World.cell?_of_block hb).trans h.1, (World.cell?_of_block hb).trans h.2.1, (World.frozen?_of_block hb).trans h.2.2.1, h.2.2.2.trans ho⟩

end Go.Proofs.Ytfgfbnmcihjfmaa
