/-
  A cell in a block of its own that holds a slice of the call's own. No program is named here.
-/
import Derived.Test.YtkclolejoijelaaDoorOwn
import Derived.OneCell
namespace Go.Proofs.YtkclolejoijelaaDoor
open Go.RowKit
set_option linter.unusedVariables false

/-- Block B is the one cell v, of type T. -/
def Box (w : World) (B : Nat) (T : TypeId) (v : Value) : Prop := w.heap[B]? = some (.cells #[v] T (0, 0))
section
variable {w w' : World} {B : Nat} {T : TypeId} {v : Value}
theorem Box.cell (h : Box w B T v) : w.cell? ⟨B, 0, none⟩ = some v := cell_of_one h
theorem Box.free (h : Box w B T v) : w.frozen? ⟨B, 0, none⟩ = false := free_of_one h
theorem Box.lt (h : Box w B T v) : B < w.heap.size := lt_of_block h
theorem Box.set_ (h : Box w B T v) (u : Value) : Box (w.setCell ⟨B, 0, none⟩ u) B T u := one_setCell h
theorem Box.only {lo hi : Nat} (h : Box w B T v) (ho : Only lo hi w w') (hd : B < lo ∨ hi ≤ B) : Box w' B T v := (ho.block B h.lt hd).trans h
theorem Box.below {lo : Nat} (h : Box w B T v) (hb : Below lo w w') (hd : B < lo) : Box w' B T v := (hb.block B hd).trans h
theorem Box.far (h : Box w B T v) (hb : Below w.heap.size w w') : Box w' B T v := (hb.block B h.lt).trans h
theorem Box.drew (h : Box w B T v) : Box w.drew B T v := h
theorem Box.drewN (h : Box w B T v) (n : Nat) : Box (w.drewN n) B T v := h
theorem Box.grown {row : Option Nat} (h : Box w B T v) (hg : w.grownBy w' row) (hne : row ≠ some B) : Box w' B T v := (hg.block B h.lt (fun e => hne e.symm)).trans h
theorem Box.alloc (h : Box w B T v) (o : Obj) : Box (w.alloc o) B T v := h.grown (World.grownBy_alloc w o none) (by simp)
theorem Box.new (w : World) (T : TypeId) (v : Value) : Box (w.alloc (.cells #[v] T)) w.heap.size T v := by
  show (w.heap.push _)[w.heap.size]? = _
  exact Array.getElem?_push_size
theorem Box.setOther (h : Box w B T v) {a : Addr} (ha : a.block ≠ B) (u : Value) : Box (w.setCell a u) B T v := (Below.heap_setCell _ _ _ _ (fun e => ha e.symm)).trans h
/-- A row lies in another block than a box of another type. -/
theorem Box.ne_own {base n size : Nat} {e : TypeId} {x : Value} {xs : List Value} (h : Box w B T v) (ho : w.ownsRow base e size x n xs) (hT : T ≠ e) : x.ownBlock ≠ some B := by
  rcases ho.2 with ⟨rfl, _⟩ | ⟨g, cap, cur, rfl, _, hh, _⟩
  · simp [Value.ownBlock]
  · intro he
    simp only [Value.ownBlock, Option.some.injEq] at he
    subst he
    unfold Box at h
    rw [h] at hh
    injection hh with hh
    injection hh with h1 h2
    exact hT h2
end

section
variable {P : Program}
/-- 'append(out, x)', with the frame told block by block. -/
theorem wpList_append_cellsG {wr : World} {v : Value} {n size : Nat} {xs : List Value} {base : Nat} {e : TypeId} (hown : wr.ownsRow base e size v n xs) (hbase : base ≤ wr.heap.size)
    (s x : Operand) (t : TypeId) {z : Value} {bytes : Nat} (ht : P.underlying t = some (.slice e)) (hi : (P.info? e).map (fun i => (i.zero, i.size, i.bytes)) = some (some z, size, bytes))
    (hbytes : (n + 1) * bytes ≤ 140737488355328) (hb : n + 1 ≤ maxLen)
    {ops : Array Oper} {rest : List Oper} {o : Oper} {a : Act} {Q : Exit → Act → World → Prop} {ys : List Value} {g : Nat}
    (hh : o.guard = none ∧ o.op = .call { callee := .builtin .append, args := #[s, x], argTypes := #[t, t] } ∧ a.eval s = v ∧ a.eval x = .slice (some ⟨g, 0, none⟩) 1 1 ∧ (∀ y ∈ ys, y.oneCell' = true) ∧ z.cells.size = size ∧ ys.length = size ∧ 0 < size)
    (hg : g = wr.heap.size)
    (h : ∀ v' w', w'.ownsRow base e size v' (n + 1) (xs ++ ys) → wr.grownBy w' v.ownBlock → wpList P ops Q rest (a.put o.dst v') w') :
    wpList P ops Q (o :: rest) a (wr.alloc (.cells ys.toArray e)) := by
  obtain ⟨i, hi, hz0, hz1, hz2⟩ := info_parts hi
  obtain ⟨hgd, ho, hs, hx, h1, hzs, hyl, hpos⟩ := hh
  subst hg
  refine wpList_append_own _ hgd s x t ho base e i z size bytes ht hi hz0 hz1 hz2 hzs hpos v n xs hs (hown.alloc _) ⟨wr.heap.size, 0, none⟩ 1 1 ys hx (by omega) (fun j u hj => ?_) h1 hb hbytes (by simp; omega) ?_
  · have h0 : (⟨wr.heap.size, 0, none⟩ : Addr).add j = ⟨wr.heap.size, j, none⟩ := by unfold Addr.add; split <;> simp_all
    rw [h0, World.cell?_alloc_mark]
    simpa using hj
  intro v' w' hown' hgrow hnil
  exact h v' w' hown' ((World.grownBy_alloc wr _ _).trans hgrow)
theorem wpList_append_twoG {wr : World} {v : Value} {n : Nat} {xs : List Value} {base : Nat} {e : TypeId} (hown : wr.ownsRow base e 2 v n xs) (hbase : base ≤ wr.heap.size)
    (s x : Operand) (t : TypeId) {z : Value} {bytes : Nat} (ht : P.underlying t = some (.slice e)) (hi : (P.info? e).map (fun i => (i.zero, i.size, i.bytes)) = some (some z, 2, bytes))
    (hbytes : (n + 1) * bytes ≤ 140737488355328) (hb : n + 1 ≤ maxLen)
    {ops : Array Oper} {rest : List Oper} {o : Oper} {a : Act} {Q : Exit → Act → World → Prop} {y0 y1 : Value} {g : Nat}
    (hh : o.guard = none ∧ o.op = .call { callee := .builtin .append, args := #[s, x], argTypes := #[t, t] } ∧ a.eval s = v ∧ a.eval x = .slice (some ⟨g, 0, none⟩) 1 1 ∧ y0.oneCell' = true ∧ y1.oneCell' = true ∧ z.cells.size = 2)
    (hg : g = wr.heap.size)
    (h : ∀ v' w', w'.ownsRow base e 2 v' (n + 1) (xs ++ [y0, y1]) → wr.grownBy w' v.ownBlock → wpList P ops Q rest (a.put o.dst v') w') :
    wpList P ops Q (o :: rest) a (wr.alloc (.cells #[y0, y1] e)) :=
  wpList_append_cellsG hown hbase s x t ht hi hbytes hb ⟨hh.1, hh.2.1, hh.2.2.1, hh.2.2.2.1, by simp [hh.2.2.2.2.1, hh.2.2.2.2.2.1], hh.2.2.2.2.2.2, rfl, by decide⟩ hg h
theorem below_grown {B : Nat} {a w w' : World} {row : Option Nat} (h : Below B a w) (hg : w.grownBy w' row) (hB : B ≤ w.heap.size) {base n size : Nat} {e : TypeId} {v : Value} {xs : List Value} (ho : w.ownsRow base e size v n xs) (hr : row = v.ownBlock) (hb : B ≤ base) : Below B a w' :=
  h.grown hg hB (fun k hk => Nat.le_trans hb (ho.lt k (hr ▸ hk)).1)
end
end Go.Proofs.YtkclolejoijelaaDoor
