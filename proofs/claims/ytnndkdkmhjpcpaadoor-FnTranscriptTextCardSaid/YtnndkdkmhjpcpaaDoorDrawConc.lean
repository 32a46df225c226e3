/-
  The reference's draws of a transcript with a phrase, or with a word and a width.
-/
import Derived.Test.YtnndkdkmhjpcpaaDoorDrawTurn
import Derived.Test.YtnndkdkmhjpcpaaDoorConcFindPl
import Derived.Test.YtnndkdkmhjpcpaaDoorBase
namespace Go.Proofs.YtnndkdkmhjpcpaaDoor
open Go.RowKit
set_option linter.unusedVariables false
set_option linter.unusedSimpArgs false
set_option maxRecDepth 100000

theorem cur_newT {w : World} {A : Option Addr} {n cap : Nat} {zs : List Int} (h : Ints .u8 w A n cap zs) (ty : TypeId) : Cur (w.alloc (.cells #[.slice A n cap, .int .i64 0, .int .u64 0] ty)) w.heap.size 0 := by
  obtain ⟨h1, h2, h3, h4, h5⟩ := h
  refine ⟨by simp, fun j => World.frozen?_alloc_at _ _ _ _ rfl, A, n, cap, zs, 0, 0, by simp [World.cell?_alloc_at], by simp [World.cell?_alloc_at], by simp [World.cell?_alloc_at], Nat.le_refl _, Nat.le_trans h2 h3, h4, h1.alloc (Nat.le_refl _) _, fun z hz => ?_⟩
  have := h5 z hz
  simpa [Lit.wf, IntKind.min, IntKind.max, IntKind.signed, IntKind.bits] using this
def phL : List ByteArray := [⟨#[116, 104, 101, 32, 99, 111, 117, 114, 116]⟩, ⟨#[110, 111]⟩, ⟨#[84, 104, 101]⟩, ⟨#[99, 111, 117, 114, 116, 32, 119, 105, 108, 108]⟩, ⟨#[45, 45, 32, 116, 104, 101]⟩, ⟨#[]⟩, ⟨#[97, 32, 32, 98]⟩]
theorem phL_size : ∀ t ∈ phL, t.size ≤ 20 := by
  intro t ht
  simp only [phL, List.mem_cons, List.not_mem_nil, or_false] at ht
  rcases ht with rfl | rfl | rfl | rfl | rfl | rfl | rfl <;> decide
def wds : List Int := [0, 1, 2, 3, 10, 11, -1]
def DrewPhrase (w : World) (e : Ending) (w' : World) : Prop := ∃ (v : Value) (l : List TurnD) (ph : ByteArray), e = .returned (.tuple #[.agg #[v], .string ph]) ∧ Own w' w.heap.size w'.heap.size 77 2 v l.length (turnsV l) ∧ l.length ≤ 40 ∧ TameT l ∧ ph.size ≤ 20 ∧ Below w.heap.size w w'
def DrewWord (w : World) (e : Ending) (w' : World) : Prop := ∃ (v : Value) (l : List TurnD) (word : ByteArray) (wd : Int), e = .returned (.tuple #[.agg #[v], .string word, .int .i64 wd]) ∧ Own w' w.heap.size w'.heap.size 77 2 v l.length (turnsV l) ∧ l.length ≤ 40 ∧ TameT l ∧ word ∈ wdL ∧ Below w.heap.size w w'
/-- The state behind the drawn turns: result cell, track cell, row, cursor. -/
structure DrawnT (w wr : World) (tb p : Nat) (v : Value) (l : List TurnD) : Prop where
  res : Box wr w.heap.size 26 (.slice none 0 0)
  box : Box wr tb 26 v
  tb2 : w.heap.size + 2 ≤ tb
  own : wr.ownsRow (w.heap.size + 2) 77 2 v l.length (turnsV l)
  cur : Cur wr (w.heap.size + 1) p
  bel : Below w.heap.size w wr
theorem DrawnT.drew {w wr : World} {tb p : Nat} {v : Value} {l : List TurnD} (h : DrawnT w wr tb p v l) : DrawnT w wr.drew tb p v l := ⟨h.res, h.box, h.tb2, h.own, h.cur, h.bel.drew⟩
theorem DrawnT.alloc {w wr : World} {tb p : Nat} {v : Value} {l : List TurnD} (h : DrawnT w wr tb p v l) (o : Obj) : DrawnT w (wr.alloc o) tb p v l :=
  ⟨h.res.alloc o, h.box.alloc o, h.tb2, h.own.alloc o, h.cur.alloc o, h.bel.alloc h.bel.size o⟩
theorem DrawnT.move {w wr w' : World} {tb p q : Nat} {v : Value} {l : List TurnD} (h : DrawnT w wr tb p v l) (hc : Cur w' (w.heap.size + 1) q) (ho : Only (w.heap.size + 1) (w.heap.size + 1 + 1) wr w') : DrawnT w w' tb q v l := by
  have h1 := h.tb2
  have h2 := h.cur.1
  exact ⟨h.res.only ho (.inl (by omega)), h.box.only ho (.inr (by omega)), h1, ownsRow_only h.own ho (fun g' hg' => by have := (h.own.lt g' hg').1; omega), hc, h.bel.trans (ho.below (by omega) (by omega))⟩
theorem DrawnT.more {w wr : World} {tb p q : Nat} {v : Value} {l : List TurnD} (h : DrawnT w wr tb p v l) (hq : p ≤ q) : DrawnT w wr tb q v l := ⟨h.res, h.box, h.tb2, h.own, h.cur.more hq, h.bel⟩
theorem DrawnT.ret {w wr : World} {tb p : Nat} {v : Value} {l : List TurnD} (h : DrawnT w wr tb p v l) : Own (wr.setCell ⟨w.heap.size, 0, none⟩ v) w.heap.size (wr.setCell ⟨w.heap.size, 0, none⟩ v).heap.size 77 2 v l.length (turnsV l) ∧ Below w.heap.size w (wr.setCell ⟨w.heap.size, 0, none⟩ v) := by
  have hz : w.heap.size < wr.heap.size := h.res.lt
  have hb : Below w.heap.size wr (wr.setCell ⟨w.heap.size, 0, none⟩ v) := (Below.refl _ _).setCell (p := ⟨w.heap.size, 0, none⟩) (Nat.le_refl _) v
  exact ⟨Own.of_row ((ownsRow_only (lo' := w.heap.size) (hi' := w.heap.size + 1) h.own ((Only.refl wr).setCell (p := ⟨w.heap.size, 0, none⟩) (Nat.le_refl _) (by show w.heap.size < _; omega) v) (fun b hb' => .inr (by have := (h.own.lt b hb').1; omega))).base (by omega)), h.bel.trans hb⟩
/-- The state as the drawn turns leave it, the track in a fresh cell. -/
theorem drawnT_of {w W2 w1 : World} {v : Value} {l : List TurnD} (hz : W2.heap.size = w.heap.size + 2) (hr : Box W2 w.heap.size 26 (.slice none 0 0)) (hb : Below w.heap.size w W2)
    (own : Own w1 W2.heap.size w1.heap.size 77 2 v l.length (turnsV l)) (hc : Cur w1 (w.heap.size + 1) 200) (ho : Only (w.heap.size + 1) (w.heap.size + 1 + 1) W2 w1) : DrawnT w (w1.alloc (.cells #[v] 26)) w1.heap.size 200 v l := by
  have hs := ho.size
  have o1 := own.1
  rw [hz] at o1
  exact ⟨(hr.only ho (.inl (by omega))).alloc _, Box.new w1 _ _, by omega, o1.alloc _, hc.alloc _, (hb.trans (ho.below (by omega) (by omega))).alloc (by omega) _⟩

end Go.Proofs.YtnndkdkmhjpcpaaDoor
