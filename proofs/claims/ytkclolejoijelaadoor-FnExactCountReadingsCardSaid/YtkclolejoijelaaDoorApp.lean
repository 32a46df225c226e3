/-
  'append(out, x)' of one cell, with the place of the new row told; several rows side by side.
-/
import Derived.Test.YtkclolejoijelaaDoorBox
import Derived.Test.YtkclolejoijelaaDoorWords
import Derived.Maps.AppendAt
namespace Go.Proofs.YtkclolejoijelaaDoor
open Go.RowKit
set_option linter.unusedVariables false

section
variable {P : Program}
theorem wpList_append_at {wr : World} {v : Value} {n size : Nat} {xs : List Value} {base : Nat} {e : TypeId} (hown : wr.ownsRow base e size v n xs) (hbase : base ≤ wr.heap.size)
    (s x : Operand) (t : TypeId) {z : Value} {bytes : Nat} (ht : P.underlying t = some (.slice e)) (hi : (P.info? e).map (fun i => (i.zero, i.size, i.bytes)) = some (some z, size, bytes))
    (hbytes : (n + 1) * bytes ≤ 140737488355328) (hb : n + 1 ≤ maxLen)
    {ops : Array Oper} {rest : List Oper} {o : Oper} {a : Act} {Q : Exit → Act → World → Prop} {ys : List Value} {g : Nat}
    (hh : o.guard = none ∧ o.op = .call { callee := .builtin .append, args := #[s, x], argTypes := #[t, t] } ∧ a.eval s = v ∧ a.eval x = .slice (some ⟨g, 0, none⟩) 1 1 ∧ (∀ y ∈ ys, y.oneCell' = true) ∧ z.cells.size = size ∧ ys.length = size ∧ 0 < size)
    (hg : g = wr.heap.size)
    (h : ∀ v' w', w'.ownsRow base e size v' (n + 1) (xs ++ ys) → wr.grownBy w' v.ownBlock → (v'.ownBlock = v.ownBlock ∨ ∃ g', v'.ownBlock = some g' ∧ wr.heap.size ≤ g') → wpList P ops Q rest (a.put o.dst v') w') :
    wpList P ops Q (o :: rest) a (wr.alloc (.cells ys.toArray e)) := by
  obtain ⟨i, hi, hz0, hz1, hz2⟩ := info_parts hi
  obtain ⟨hgd, ho, hs, hx, h1, hzs, hyl, hpos⟩ := hh
  subst hg
  refine wpList_append_own_at _ hgd s x t ho base e i z size bytes ht hi hz0 hz1 hz2 hzs hpos v n xs hs (hown.alloc _) ⟨wr.heap.size, 0, none⟩ 1 1 ys hx (by omega) (fun j u hj => ?_) h1 hb hbytes (by simp; omega) ?_
  · have h0 : (⟨wr.heap.size, 0, none⟩ : Addr).add j = ⟨wr.heap.size, j, none⟩ := by unfold Addr.add; split <;> simp_all
    rw [h0, World.cell?_alloc_mark]
    simpa using hj
  intro v' w' hown' hgrow hnil hat
  refine h v' w' hown' ((World.grownBy_alloc wr _ _).trans hgrow) ?_
  rcases hat with h | h
  · exact .inl h
  · exact .inr ⟨_, h, by simp⟩
theorem wpList_append_srcE {wr : World} {v : Value} {n size : Nat} {xs : List Value} {base : Nat} {e : TypeId} (hown : wr.ownsRow base e size v n xs) (hbase : base ≤ wr.heap.size)
    {A A' : Option Addr} {m m' c B : Nat} {news : List Value} (hr : Reads wr B size A m news) (h1 : ∀ u ∈ news, u.oneCell' = true)
    (s x : Operand) (t : TypeId) {z : Value} {bytes : Nat} (ht : P.underlying t = some (.slice e)) (hi : (P.info? e).map (fun i => (i.zero, i.size, i.bytes)) = some (some z, size, bytes))
    (hbytes : (n + m) * bytes ≤ 140737488355328) (hb : n + m ≤ maxLen)
    {ops : Array Oper} {rest : List Oper} {o : Oper} {a : Act} {Q : Exit → Act → World → Prop}
    (hh : o.guard = none ∧ o.op = .call { callee := .builtin .append, args := #[s, x], argTypes := #[t, t] } ∧ a.eval s = v ∧ a.eval x = .slice A' m' c ∧ z.cells.size = size ∧ 0 < size)
    (hA : (A' = A ∧ m' = m) ∨ (m = 0 ∧ m' = 0))
    (h : ∀ v' w', w'.ownsRow base e size v' (n + m) (xs ++ news) → Below base wr w' → wpList P ops Q rest (a.put o.dst v') w') :
    wpList P ops Q (o :: rest) a wr := by
  rcases hA with ⟨rfl, rfl⟩ | ⟨rfl, rfl⟩
  · exact wpList_append_src hown hbase hr h1 s x t ht hi hbytes hb hh h
  · have h0 : news = [] := List.eq_nil_of_length_eq_zero (by simpa using hr.1)
    subst h0
    exact wpList_append_src hown hbase (A := A') (B := B) ⟨by simp, fun h => absurd h (Nat.not_lt_zero _)⟩ h1 s x t ht hi hbytes hb hh h
theorem wpList_append_oneA {wr : World} {v : Value} {n : Nat} {xs : List Value} {base : Nat} {e : TypeId} (hown : wr.ownsRow base e 1 v n xs) (hbase : base ≤ wr.heap.size)
    (s x : Operand) (t : TypeId) {z : Value} {bytes : Nat} (ht : P.underlying t = some (.slice e)) (hi : (P.info? e).map (fun i => (i.zero, i.size, i.bytes)) = some (some z, 1, bytes))
    (hbytes : (n + 1) * bytes ≤ 140737488355328) (hb : n + 1 ≤ maxLen)
    {ops : Array Oper} {rest : List Oper} {o : Oper} {a : Act} {Q : Exit → Act → World → Prop} {y : Value} {g : Nat}
    (hh : o.guard = none ∧ o.op = .call { callee := .builtin .append, args := #[s, x], argTypes := #[t, t] } ∧ a.eval s = v ∧ a.eval x = .slice (some ⟨g, 0, none⟩) 1 1 ∧ y.oneCell' = true ∧ z.cells.size = 1)
    (hg : g = wr.heap.size)
    (h : ∀ v' w', w'.ownsRow base e 1 v' (n + 1) (xs ++ [y]) → wr.grownBy w' v.ownBlock → (v'.ownBlock = v.ownBlock ∨ ∃ g', v'.ownBlock = some g' ∧ wr.heap.size ≤ g') → wpList P ops Q rest (a.put o.dst v') w') :
    wpList P ops Q (o :: rest) a (wr.alloc (.cells #[y] e)) :=
  wpList_append_at hown hbase s x t ht hi hbytes hb ⟨hh.1, hh.2.1, hh.2.2.1, hh.2.2.2.1, by simpa using hh.2.2.2.2.1, hh.2.2.2.2.2, rfl, by decide⟩ hg h
end
/-- A row that does not lie in block g does not come to lie there. -/
theorem apart_next {v v' : Value} {g n : Nat} (h : v.ownBlock ≠ some g) (hg : g < n) (hat : v'.ownBlock = v.ownBlock ∨ ∃ g', v'.ownBlock = some g' ∧ n ≤ g') : v'.ownBlock ≠ some g := by
  rcases hat with h1 | ⟨g', h1, h2⟩
  · rw [h1]; exact h
  · rw [h1]; intro h3; injection h3; omega
/-- A row of the call's own behind a call that leaves old memory as it is. -/
theorem row_below {w w' : World} {base n size : Nat} {e : TypeId} {v : Value} {xs : List Value} (h : w.ownsRow base e size v n xs) (hb : Below w.heap.size w w') : w'.ownsRow base e size v n xs := ((Own.of_row h).below hb).1
theorem str_nonempty {x : ByteArray} (h : ¬ x = ⟨#[]⟩) : (!x.toList.isEmpty) = true ∧ x.toList.isEmpty = false ∧ ¬ x.toList = [] := by
  have h1 : ¬ x.toList = [] := by
    intro h2
    rw [ByteArray.toList_eq] at h2
    obtain ⟨⟨l⟩⟩ := x
    exact h (by cases l with | nil => rfl | cons a l => cases h2)
  refine ⟨?_, ?_, h1⟩ <;> cases hx : x.toList <;> simp_all
theorem str_other {x y : ByteArray} (h : ¬ x = y) : (x.toList == y.toList) = false := by rw [str_beq]; exact decide_eq_false h
end Go.Proofs.YtkclolejoijelaaDoor
