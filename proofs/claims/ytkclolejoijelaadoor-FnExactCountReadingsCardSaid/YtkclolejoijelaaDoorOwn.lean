/-
  Words of our own on memory: a value that owns blocks of a range; a world that has turned in a range of blocks alone. No program is named here.
-/
import Derived.Test.YtkclolejoijelaaDoorBase
import Derived.Deep.QuietTactic
import Derived.BigQuiet
namespace Go.Proofs.YtkclolejoijelaaDoor
set_option linter.unusedVariables false
open Go.RowKit

/-- w' is w but for the blocks from lo to hi (hi not included), and new ones. -/
structure Only (lo hi : Nat) (w w' : World) : Prop where
  os : w'.os = w.os
  tape : w'.tape = w.tape
  output : w'.output = w.output
  size : w.heap.size ≤ w'.heap.size
  block : ∀ k, k < w.heap.size → (k < lo ∨ hi ≤ k) → w'.heap[k]? = w.heap[k]?

theorem Only.of_below {lo hi : Nat} {w w' : World} (h : Below w.heap.size w w') : Only lo hi w w' := ⟨h.os, h.tape, h.output, h.size, fun k hk _ => h.block k hk⟩
theorem Only.below {lo hi : Nat} {w w' : World} (h : Only lo hi w w') {B : Nat} (hB : B ≤ lo) (hs : B ≤ w.heap.size) : Below B w w' := ⟨h.os, h.tape, h.output, h.size, fun k hk => h.block k (by omega) (.inl (by omega))⟩
theorem Only.refl {lo hi : Nat} (w : World) : Only lo hi w w := ⟨rfl, rfl, rfl, Nat.le_refl _, fun _ _ _ => rfl⟩
theorem Only.trans {lo hi : Nat} {a b c : World} (h : Only lo hi a b) (k : Only lo hi b c) : Only lo hi a c :=
  ⟨k.os.trans h.os, k.tape.trans h.tape, k.output.trans h.output, Nat.le_trans h.size k.size, fun i hi h' => (k.block i (Nat.lt_of_lt_of_le hi h.size) h').trans (h.block i hi h')⟩
theorem Only.drew {lo hi : Nat} {a w : World} (h : Only lo hi a w) : Only lo hi a w.drew := ⟨h.os, h.tape, h.output, h.size, h.block⟩
theorem Only.drewN {lo hi : Nat} {a w : World} (h : Only lo hi a w) (n : Nat) : Only lo hi a (w.drewN n) := ⟨h.os, h.tape, h.output, h.size, h.block⟩
theorem Only.setCell {lo hi : Nat} {a w : World} (h : Only lo hi a w) {p : Addr} (h1 : lo ≤ p.block) (h2 : p.block < hi) (u : Value) : Only lo hi a (w.setCell p u) :=
  h.trans ⟨rfl, rfl, rfl, by simp [World.setCell], fun k _ hk' => Below.heap_setCell _ _ _ _ (by omega)⟩
theorem drewN_own {w : World} {base size n : Nat} {e : TypeId} {v : Value} {xs : List Value} (h : w.ownsRow base e size v n xs) (k : Nat) : (w.drewN k).ownsRow base e size v n xs := h
theorem below_drewN {B : Nat} {a w : World} (h : Below B a w) (n : Nat) : Below B a (w.drewN n) := ⟨h.os, h.tape, h.output, h.size, h.block⟩

/-- The slice value v owns a row of the cells xs, in a block from lo on and below hi. -/
def Own (w : World) (lo hi : Nat) (e : TypeId) (size : Nat) (v : Value) (n : Nat) (xs : List Value) : Prop :=
  w.ownsRow lo e size v n xs ∧ ∀ g, v.ownBlock = some g → g < hi

section
variable {w w' : World} {lo hi : Nat} {e : TypeId} {size : Nat} {v : Value} {n : Nat} {xs : List Value}
theorem ownsRow_only {lo' hi' : Nat} (h : w.ownsRow lo e size v n xs) (ho : Only lo' hi' w w') (hd : ∀ g, v.ownBlock = some g → g < lo' ∨ hi' ≤ g) : w'.ownsRow lo e size v n xs := by
  obtain ⟨h1, h2⟩ := h
  refine ⟨h1, ?_⟩
  rcases h2 with h2 | ⟨g, cap, cur, rfl, hb, hh, rest⟩
  · exact .inl h2
  · exact .inr ⟨g, cap, cur, rfl, hb, by rw [ho.block g (Array.getElem?_eq_some_iff.1 hh).1 (hd g rfl)]; exact hh, rest⟩
theorem Own.only {lo' hi' : Nat} (h : Own w lo hi e size v n xs) (ho : Only lo' hi' w w') (hd : hi ≤ lo' ∨ hi' ≤ lo) : Own w' lo hi e size v n xs :=
  ⟨ownsRow_only h.1 ho (fun g hg => by have h1 := h.2 g hg; have h2 := (h.1.lt g hg).1; omega), h.2⟩
theorem Own.below (h : Own w lo hi e size v n xs) (hb : Below w.heap.size w w') : Own w' lo hi e size v n xs :=
  ⟨ownsRow_only (lo' := w.heap.size) (hi' := w.heap.size) h.1 (Only.of_below hb) (fun g hg => by have h2 := (h.1.lt g hg).2; omega), h.2⟩
theorem _root_.Go.World.ownsRow.base {lo' : Nat} (h : w.ownsRow lo e size v n xs) (hl : lo' ≤ lo) : w.ownsRow lo' e size v n xs := by
  obtain ⟨h1, h2⟩ := h
  refine ⟨h1, ?_⟩
  rcases h2 with h2 | ⟨g, cap, cur, rfl, hb, rest⟩
  · exact .inl h2
  · exact .inr ⟨g, cap, cur, rfl, by omega, rest⟩
theorem Own.of_row (h : w.ownsRow lo e size v n xs) : Own w lo w.heap.size e size v n xs := ⟨h, fun g hg => (h.lt g hg).2⟩
theorem Own.none_ : Own w lo hi e size (.slice none 0 0) 0 [] := ⟨World.ownsRow_nil _ _ _ _, fun g hg => by simp [Value.ownBlock] at hg⟩
/-- The value is a slice that reads. -/
theorem Own.slice (h : Own w lo hi e size v n xs) : ∃ A cap, v = .slice A n cap ∧ Reads w w.heap.size size A n xs ∧ n ≤ cap ∧ cap ≤ maxLen := by
  rcases h.1.2 with ⟨rfl, rfl⟩ | ⟨g, cap, cur, rfl, hb, hh, h1, h2, h3, h4⟩
  · exact ⟨none, 0, rfl, Reads.of_own h.1, by omega, by unfold maxLen; omega⟩
  · exact ⟨some ⟨g, 0, none⟩, cap, rfl, Reads.of_own h.1, h1, h2⟩
/-- Where there is an element: the block, its cells, and that they may be written. -/
theorem Own.open_ (h : Own w lo hi e size v n xs) (hn : 0 < n) : ∃ g cap, v = .slice (some ⟨g, 0, none⟩) n cap ∧ lo ≤ g ∧ g < hi ∧ g < w.heap.size ∧ n ≤ cap ∧ cap ≤ maxLen ∧
    (∀ j, j < n * size → w.cell? ⟨g, j, none⟩ = xs[j]?) ∧ ∀ j, w.frozen? ⟨g, j, none⟩ = false := by
  rcases h.1.2 with ⟨rfl, rfl⟩ | ⟨g, cap, cur, rfl, hb, hh, h1, h2, h3, h4⟩
  · omega
  · exact ⟨g, cap, rfl, hb, h.2 g rfl, (Array.getElem?_eq_some_iff.1 hh).1, h1, h2, fun j hj => h.1.cellAt j hj, fun j => h.1.frozenAt j⟩
/-- One cell is written. -/
theorem Own.set_ {g cap : Nat} (h : Own w lo hi e size (.slice (some ⟨g, 0, none⟩) n cap) n xs) (j : Nat) (u : Value) : Own (w.setCell ⟨g, j, none⟩ u) lo hi e size (.slice (some ⟨g, 0, none⟩) n cap) n (xs.set j u) :=
  ⟨(h.1.stored j u).1, h.2⟩
end

/-! ### 'append(out, src...)' -/
section
variable {P : Program}
theorem run_append_nothing {w : World} {base : Nat} {t ty e : TypeId} {i : TypeInfo} {size : Nat} (ht : P.underlying t = some (.slice e)) (hi : P.info? e = some i)
    {v : Value} {n : Nat} {xs : List Value} (hown : w.ownsRow base e size v n xs) (c : Nat) : (Builtin.append_ #[t, t] ty #[v, .slice none 0 c]).run P w = .ok v w := by
  rcases hown.2 with ⟨rfl, rfl⟩ | ⟨g, cap, cur, rfl, _, _, hnc, _⟩
  · simp [Builtin.append_, run_underlying ht, sizeOf, typeInfo, hi, Builtin.lenOf, Builtin.firstCells]
  · simp [Builtin.append_, run_underlying ht, sizeOf, typeInfo, hi, Builtin.lenOf, Builtin.firstCells, hnc, storeCells]

/-- 'append(out, src...)' onto a slice of the call's own, whatever src is: nil, empty, or not. -/
theorem wpList_append_src {wr : World} {v : Value} {n size : Nat} {xs : List Value} {base : Nat} {e : TypeId} (hown : wr.ownsRow base e size v n xs) (hbase : base ≤ wr.heap.size)
    {A : Option Addr} {m c B : Nat} {news : List Value} (hr : Reads wr B size A m news) (h1 : ∀ u ∈ news, u.oneCell' = true)
    (s x : Operand) (t : TypeId) {z : Value} {bytes : Nat} (ht : P.underlying t = some (.slice e)) (hi : (P.info? e).map (fun i => (i.zero, i.size, i.bytes)) = some (some z, size, bytes))
    (hbytes : (n + m) * bytes ≤ 140737488355328) (hb : n + m ≤ maxLen)
    {ops : Array Oper} {rest : List Oper} {o : Oper} {a : Act} {Q : Exit → Act → World → Prop}
    (hh : o.guard = none ∧ o.op = .call { callee := .builtin .append, args := #[s, x], argTypes := #[t, t] } ∧ a.eval s = v ∧ a.eval x = .slice A m c ∧ z.cells.size = size ∧ 0 < size)
    (h : ∀ v' w', w'.ownsRow base e size v' (n + m) (xs ++ news) → Below base wr w' → wpList P ops Q rest (a.put o.dst v') w') :
    wpList P ops Q (o :: rest) a wr := by
  obtain ⟨i, hi, hz0, hz1, hz2⟩ := info_parts hi
  obtain ⟨hgd, ho, hs, hx, hzs, hpos⟩ := hh
  rcases A with _ | ad
  · have hm : m = 0 := by
      rcases Nat.eq_zero_or_pos m with h0 | h0
      · exact h0
      · obtain ⟨b, off, h, _⟩ := hr.2 h0
        cases h
    subst hm
    have hn : news = [] := List.eq_nil_of_length_eq_zero (by simpa using hr.1)
    subst hn
    refine wpList_plain hgd fun _ hK => ?_
    unfold Oper.wp execOp
    simp only [ho, resolve, invoke, builtin, Sem.run_bind, Sem.run_pure, Result.andThen_ok, List.map_toArray, List.map_cons, List.map_nil, hs, hx, run_append_nothing (ty := o.type) ht hi hown c]
    exact hK _ _ (h v wr (by simpa using hown) (Below.refl _ _))
  · refine wpList_append_own _ hgd s x t ho base e i z size bytes ht hi hz0 hz1 hz2 hzs hpos v n xs hs hown ad m c news hx hr.1 (fun j u hj => ?_) h1 hb hbytes hbase ?_
    · have hm : 0 < m := by
        rcases Nat.eq_zero_or_pos m with h0 | h0
        · subst h0
          have hn : news = [] := List.eq_nil_of_length_eq_zero (by simpa using hr.1)
          subst hn
          simp at hj
        · exact h0
      obtain ⟨b, off, hA, _, hc⟩ := hr.2 hm
      simp only [Option.some.injEq] at hA
      subst hA
      rw [Go.WideShapes.add_plain]
      exact hc j u hj
    · intro v' w' hown' hgrow _
      exact h v' w' hown' ((Below.refl _ _).grown hgrow hbase (fun k hk => (hown.lt k hk).1))
end

/-- The cells of a block just made, behind a draw. -/
theorem news_alloc {W : World} {ys : List Value} {e : TypeId} {g : Nat} (hg : g = W.heap.size) : ∀ j u, ys[j]? = some u → (W.alloc (.cells ys.toArray e)).drew.cell? ⟨g, j, none⟩ = some u := by
  intro j u hj
  subst hg
  show (W.alloc (.cells ys.toArray e)).cell? _ = _
  rw [World.cell?_alloc_mark]
  simpa using hj
/-- An append as one step of a region that draws its order. -/
theorem step_append_own {P : Program} {W : World} {v : Value} {n size : Nat} {xs : List Value} {base : Nat} {e : TypeId} (hown : W.ownsRow base e size v n xs) (hbase : base ≤ W.heap.size)
    (s x : Operand) (t : TypeId) {z : Value} {bytes : Nat} (ht : P.underlying t = some (.slice e)) (hi : (P.info? e).map (fun i => (i.zero, i.size, i.bytes)) = some (some z, size, bytes))
    (hbytes : (n + 1) * bytes ≤ 140737488355328) (hb : n + 1 ≤ maxLen) {ys : List Value} {g : Nat} (hnews : ∀ j u, ys[j]? = some u → W.cell? ⟨g, j, none⟩ = some u) (h1 : ∀ y ∈ ys, y.oneCell' = true)
    {ops : Array Oper} {o : Oper} {a : Act} {K : Act → World → Prop} {Q : Exit → Act → World → Prop} {E : Prop}
    (hh : o.guard = none ∧ o.op = .call { callee := .builtin .append, args := #[s, x], argTypes := #[t, t] } ∧ a.eval s = v ∧ a.eval x = .slice (some ⟨g, 0, none⟩) 1 1 ∧ z.cells.size = size ∧ ys.length = size ∧ 0 < size)
    (h : ∀ v' w', w'.ownsRow base e size v' (n + 1) (xs ++ ys) → W.grownBy w' v.ownBlock → v'.ownBlock.isSome = true → K (a.put o.dst v') w') :
    if Region.wanted o (yielded ops a.tmps) = true then Oper.wp P o a W K Q else E := by
  obtain ⟨i, hi, hz0, hz1, hz2⟩ := info_parts hi
  obtain ⟨hgd, ho, hs, hx, hzs, hyl, hpos⟩ := hh
  have hw : Region.wanted o (yielded ops a.tmps) = true := by simp [Region.wanted, hgd]
  rw [if_pos hw]
  refine wp_append_own W s x t ho base e i z size bytes ht hi hz0 hz1 hz2 hzs hpos v n xs hs hown ⟨g, 0, none⟩ 1 1 ys hx (by omega) (fun j u hj => ?_) h1 hb hbytes hbase fun v' w' h2 h3 _ => ?_
  · rw [cells_one_add]
    exact hnews j u hj
  · refine h v' w' h2 h3 ?_
    rcases h2.2 with ⟨rfl, h0⟩ | ⟨g, cap, cur, rfl, _⟩
    · omega
    · rfl

/-! ### A row that is filled from its head on -/
def filled (xs : List Value) (z : Value) (k : Nat) : List Value := xs.take k ++ List.replicate (xs.length - k) z
theorem filled_zero (xs : List Value) (z : Value) : filled xs z 0 = List.replicate xs.length z := by simp [filled]
theorem filled_all (xs : List Value) (z : Value) : filled xs z xs.length = xs := by simp [filled]
theorem filled_length (xs : List Value) (z : Value) {k : Nat} (h : k ≤ xs.length) : (filled xs z k).length = xs.length := by simp [filled]; omega
theorem filled_set (xs : List Value) (z : Value) {k : Nat} {x : Value} (h : xs[k]? = some x) : (filled xs z k).set k x = filled xs z (k + 1) := by
  have hk : k < xs.length := (List.getElem?_eq_some_iff.1 h).1
  unfold filled
  rw [List.set_append_right _ _ (by simp; omega)]
  simp only [List.length_take]
  rw [show k - min k xs.length = 0 by omega, show xs.length - k = (xs.length - (k + 1)) + 1 by omega, List.replicate_succ, List.set_cons_zero, List.take_add_one, h]
  simp
theorem filled_at (xs : List Value) (z : Value) {k : Nat} (h : k < xs.length) : (filled xs z k)[k]? = some z := by
  unfold filled
  rw [List.getElem?_append_right (by simp; omega)]
  simp only [List.length_take]
  rw [show k - min k xs.length = 0 by omega]
  simp [show 0 < xs.length - k by omega]
theorem below_only {w w' : World} (h : Only w.heap.size w.heap.size w w') : Below w.heap.size w w' := h.below (Nat.le_refl _) (Nat.le_refl _)

/-! ### Small words for walks -/
theorem quiet_left {P : Program} {f : FuncId} {args : Array Value} {w : World} {n : Nat} {v : Value}
    (h : Calls P f args (w.drewN n) fun e w' => e = .returned v ∧ w.drewN n = w') : Calls P f args (w.drewN n) fun e w'' => e = .returned v ∧ ∃ m, w'' = w.drewN m :=
  h.mono fun _ _ ⟨he, hm⟩ => ⟨he, n, hm.symm⟩
theorem still_of {P : Program} {f : FuncId} {args : Array Value} {w : World} {v : Value} (h : Calls P f args w fun e w' => e = .returned v ∧ w = w') : Calls P f args w fun e w' => e = .returned v ∧ w' = w :=
  h.mono fun _ _ ⟨he, hm⟩ => ⟨he, hm.symm⟩
theorem results_tmp4 {fn : Func} {t u v x : Tmp} (h : fn.results = #[.tmp t, .tmp u, .tmp v, .tmp x]) (tmps : Array Value) (P : Program) (w : World) :
    (results fn tmps).run P w = .ok (.tuple #[tmps.getD t undef, tmps.getD u undef, tmps.getD v undef, tmps.getD x undef]) w := by simp [results, h]
end Go.Proofs.YtkclolejoijelaaDoor
