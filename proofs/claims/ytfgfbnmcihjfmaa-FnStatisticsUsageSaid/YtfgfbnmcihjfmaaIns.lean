/-
  'append(append(append([]T{}, x[:p]...), y), x[p:]...)' in a region that draws its order: the laws of its steps. No program is named here.
-/
import Derived.Test.YtfgfbnmcihjfmaaBase
import Derived.Deep.CutRange
import Derived.Deep.LoopGhost
import Derived.Test.YtfgfbnmcihjfmaaIn
namespace Go.Proofs.Ytfgfbnmcihjfmaa
open Go.RowKit
set_option linter.unusedVariables false

section
variable {P : Program}
/-- 'append(out, src...)' as one step of a region that draws its order. -/
theorem step_append_src {W : World} {v : Value} {n size : Nat} {xs : List Value} {base : Nat} {e : TypeId} (hown : W.ownsRow base e size v n xs) (hbase : base ≤ W.heap.size)
    {A A' : Option Addr} {m m' c B : Nat} {news : List Value} (hr : Reads W B size A m news) (h1 : ∀ u ∈ news, u.oneCell' = true)
    (s x : Operand) (t : TypeId) {z : Value} {bytes : Nat} (ht : P.underlying t = some (.slice e)) (hi : (P.info? e).map (fun i => (i.zero, i.size, i.bytes)) = some (some z, size, bytes))
    (hbytes : (n + m) * bytes ≤ 140737488355328) (hb : n + m ≤ maxLen)
    {ops : Array Oper} {o : Oper} {a : Act} {K : Act → World → Prop} {Q : Exit → Act → World → Prop} {E : Prop}
    (hh : o.guard = none ∧ o.op = .call { callee := .builtin .append, args := #[s, x], argTypes := #[t, t] } ∧ a.eval s = v ∧ a.eval x = .slice A' m' c ∧ z.cells.size = size ∧ 0 < size)
    (hA : (A' = A ∧ m' = m) ∨ (m = 0 ∧ m' = 0))
    (h : ∀ v' w', w'.ownsRow base e size v' (n + m) (xs ++ news) → W.grownBy w' v.ownBlock → K (a.put o.dst v') w') :
    if Region.wanted o (yielded ops a.tmps) = true then Oper.wp P o a W K Q else E := by
  obtain ⟨i, hi, hz0, hz1, hz2⟩ := info_parts hi
  obtain ⟨hgd, ho, hs, hx, hzs, hpos⟩ := hh
  have hw : Region.wanted o (yielded ops a.tmps) = true := by simp [Region.wanted, hgd]
  rw [if_pos hw]
  have hr2 : m' = m ∧ Reads W B size A' m' news := by
    rcases hA with ⟨rfl, rfl⟩ | ⟨rfl, rfl⟩
    · exact ⟨rfl, hr⟩
    · have h0 : news = [] := List.eq_nil_of_length_eq_zero (by simpa using hr.1)
      subst h0
      exact ⟨rfl, by simp, fun h => absurd h (Nat.not_lt_zero _)⟩
  clear hr hA
  obtain ⟨rfl, hr2⟩ := hr2
  rcases A' with _ | ad
  · have hm : m' = 0 := by
      rcases Nat.eq_zero_or_pos m' with h0 | h0
      · exact h0
      · obtain ⟨b, off, h, _⟩ := hr2.2 h0
        cases h
    subst hm
    have hn : news = [] := List.eq_nil_of_length_eq_zero (by simpa using hr2.1)
    subst hn
    unfold Oper.wp execOp
    simp only [ho, resolve, invoke, builtin, Sem.run_bind, Sem.run_pure, Result.andThen_ok, List.map_toArray, List.map_cons, List.map_nil, hs, hx, run_append_nothing (ty := o.type) ht hi hown c]
    exact h v W (by simpa using hown) ⟨rfl, rfl, rfl, Nat.le_refl _, fun _ _ _ => rfl⟩
  · refine wp_append_own W s x t ho base e i z size bytes ht hi hz0 hz1 hz2 hzs hpos v n xs hs hown ad m' c news hx hr2.1 (fun j u hj => ?_) h1 hb hbytes hbase fun v' w' h2 h3 _ => h v' w' h2 h3
    have hm : 0 < m' := by
      rcases Nat.eq_zero_or_pos m' with h0 | h0
      · subst h0
        have hn : news = [] := List.eq_nil_of_length_eq_zero (by simpa using hr2.1)
        subst hn
        simp at hj
      · exact h0
    obtain ⟨b, off, hA, _, hc⟩ := hr2.2 hm
    simp only [Option.some.injEq] at hA
    subst hA
    rw [Go.WideShapes.add_plain]
    exact hc j u hj
end
section
variable {w w' : World} {base g n cap size : Nat} {e : TypeId} {xs : List Value}
/-- A part of a row, read. -/
theorem row_part (h : w.ownsRow base e size (.slice (some ⟨g, 0, none⟩) n cap) n xs) (a k : Nat) (hk : a + k ≤ n) : Reads w w.heap.size size (some ⟨g, a * size, none⟩) k ((xs.drop (a * size)).take (k * size)) := by
  have hl := h.1
  have hm : (a + k) * size ≤ n * size := Nat.mul_le_mul_right _ hk
  rw [Nat.add_mul] at hm
  refine ⟨by simp; omega, fun _ => ⟨g, a * size, rfl, (h.lt g rfl).2, fun j u hj => ?_⟩⟩
  have hjl := (List.getElem?_eq_some_iff.1 hj).1
  simp at hjl
  rw [h.cellAt (a * size + j) (by omega)]
  rw [List.getElem?_take, List.getElem?_drop] at hj
  split at hj
  · exact hj
  · cases hj
theorem row_head (h : w.ownsRow base e 1 (.slice (some ⟨g, 0, none⟩) n cap) n xs) {k : Nat} (hk : k ≤ n) : Reads w w.heap.size 1 (some ⟨g, 0, none⟩) k (xs.take k) := by
  have := row_part h 0 k (by omega)
  simpa using this
theorem row_tail (h : w.ownsRow base e 1 (.slice (some ⟨g, 0, none⟩) n cap) n xs) {k : Nat} (hk : k ≤ n) : Reads w w.heap.size 1 (some ⟨g, k, none⟩) (n - k) (xs.drop k) := by
  have := row_part h k (n - k) (by omega)
  rw [Nat.mul_one, Nat.mul_one, List.take_of_length_le (by have := h.1; simp; omega)] at this
  exact this
/-- A row of the call's own that holds something, its block told. -/
theorem row_some {v : Value} (h : w.ownsRow base e size v n xs) (hn : 0 < n) : ∃ g c, v = .slice (some ⟨g, 0, none⟩) n c ∧ base ≤ g ∧ g < w.heap.size ∧ n ≤ c ∧ c ≤ maxLen := by
  obtain ⟨g, c, rfl, h1, -, h2, h3, h4, -⟩ := (Own.of_row h).open_ hn
  exact ⟨g, c, rfl, h1, h2, h3, h4⟩
theorem cell_one {xs : List Value} (h : ∀ x ∈ xs, x.oneCell' = true) (k : Nat) : (∀ x ∈ xs.take k, x.oneCell' = true) ∧ ∀ x ∈ xs.drop k, x.oneCell' = true := ⟨fun x hx => h x (List.mem_of_mem_take hx), fun x hx => h x (List.mem_of_mem_drop hx)⟩
theorem new_here {w : World} {ys : List Value} {e : TypeId} {j : Nat} {u : Value} (hj : ys[j]? = some u) : (w.alloc (.cells ys.toArray e)).cell? ⟨w.heap.size, j, none⟩ = some u := by
  rw [World.cell?_alloc_mark]
  simpa using hj
theorem below_row {w0 w w' : World} {B : Nat} {row : Option Nat} (h : Below B w0 w) (hB : B ≤ w.heap.size) (hg : w.grownBy w' row) (hr : ∀ g, row = some g → B ≤ g) : Below B w0 w' := h.grown hg hB hr
end
end Go.Proofs.Ytfgfbnmcihjfmaa
namespace Go.Proofs.Ytfgfbnmcihjfmaa
open Go.RowKit
set_option linter.unusedVariables false
set_option maxRecDepth 100000

end Go.Proofs.Ytfgfbnmcihjfmaa
