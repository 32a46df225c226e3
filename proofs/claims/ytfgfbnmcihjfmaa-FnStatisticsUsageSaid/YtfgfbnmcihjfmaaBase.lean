/-
  Words and laws of our own over the walk: no program is named here.
-/
import Derived.WalkKit
import Derived.ProofKit
import Derived.OpenShut
import Derived.ShutString
import Derived.Below
import Derived.Lib.Hide
import Derived.WalkLawsBesides
import Derived.WalkSpells
import Derived.Deep.Draws
import Derived.Laws.IdiomStrings
import Derived.Deep.QuietTactic
import Derived.BigQuiet
import Derived.Lib.Split
import Derived.Lib.SplitLaws
import Derived.Lib.IndexLaws
import Derived.Lib.CutLaws
import Derived.Lib.Join
import Derived.Lib.SlTrimSet
import Derived.OneCell
import Derived.Maps.AppendAt
import Derived.Deep.Slices
import Derived.Deep.Fields
namespace Go.Proofs.Ytfgfbnmcihjfmaa
set_option linter.unusedVariables false
open Go.RowKit

section
variable {P : Program}

/-- 'append(out, x)' of one element of some cells, onto a slice of the call's own. -/
theorem wpList_append_cells {wr : World} {v : Value} {n size : Nat} {xs : List Value} {base : Nat} {e : TypeId} (hown : wr.ownsRow base e size v n xs) (hbase : base ≤ wr.heap.size)
    (s x : Operand) (t : TypeId) {z : Value} {bytes : Nat} (ht : P.underlying t = some (.slice e)) (hi : (P.info? e).map (fun i => (i.zero, i.size, i.bytes)) = some (some z, size, bytes))
    (hbytes : (n + 1) * bytes ≤ 140737488355328) (hb : n + 1 ≤ maxLen)
    {ops : Array Oper} {rest : List Oper} {o : Oper} {a : Act} {Q : Exit → Act → World → Prop} {ys : List Value} {g : Nat}
    (hh : o.guard = none ∧ o.op = .call { callee := .builtin .append, args := #[s, x], argTypes := #[t, t] } ∧ a.eval s = v ∧ a.eval x = .slice (some ⟨g, 0, none⟩) 1 1 ∧ (∀ y ∈ ys, y.oneCell' = true) ∧ z.cells.size = size ∧ ys.length = size ∧ 0 < size)
    (hg : g = wr.heap.size)
    (h : ∀ v' w', w'.ownsRow base e size v' (n + 1) (xs ++ ys) → Below base wr w' → v'.ownBlock.isSome = true → wpList P ops Q rest (a.put o.dst v') w') :
    wpList P ops Q (o :: rest) a (wr.alloc (.cells ys.toArray e)) := by
  obtain ⟨i, hi, hz0, hz1, hz2⟩ := info_parts hi
  obtain ⟨hgd, ho, hs, hx, h1, hzs, hyl, hpos⟩ := hh
  subst hg
  refine wpList_append_own _ hgd s x t ho base e i z size bytes ht hi hz0 hz1 hz2 hzs hpos v n xs hs (hown.alloc _) ⟨wr.heap.size, 0, none⟩ 1 1 ys hx (by omega) (fun j u hj => ?_) h1 hb hbytes (by simp; omega) ?_
  · have h0 : (⟨wr.heap.size, 0, none⟩ : Addr).add j = ⟨wr.heap.size, j, none⟩ := by unfold Addr.add; split <;> simp_all
    rw [h0, World.cell?_alloc_mark]
    simpa using hj
  intro v' w' hown' hgrow hnil
  refine h v' w' hown' (((Below.refl _ _).alloc hbase _).grown hgrow (by simp; omega) (fun k hk => (hown.lt k hk).1)) ?_
  rcases hown'.2 with ⟨rfl, h0⟩ | ⟨g, cap, cur, rfl, _⟩
  · omega
  · rfl
theorem wpList_append_one {wr : World} {v : Value} {n : Nat} {xs : List Value} {base : Nat} {e : TypeId} (hown : wr.ownsRow base e 1 v n xs) (hbase : base ≤ wr.heap.size)
    (s x : Operand) (t : TypeId) {z : Value} {bytes : Nat} (ht : P.underlying t = some (.slice e)) (hi : (P.info? e).map (fun i => (i.zero, i.size, i.bytes)) = some (some z, 1, bytes))
    (hbytes : (n + 1) * bytes ≤ 140737488355328) (hb : n + 1 ≤ maxLen)
    {ops : Array Oper} {rest : List Oper} {o : Oper} {a : Act} {Q : Exit → Act → World → Prop} {y : Value} {g : Nat}
    (hh : o.guard = none ∧ o.op = .call { callee := .builtin .append, args := #[s, x], argTypes := #[t, t] } ∧ a.eval s = v ∧ a.eval x = .slice (some ⟨g, 0, none⟩) 1 1 ∧ y.oneCell' = true ∧ z.cells.size = 1)
    (hg : g = wr.heap.size)
    (h : ∀ v' w', w'.ownsRow base e 1 v' (n + 1) (xs ++ [y]) → Below base wr w' → v'.ownBlock.isSome = true → wpList P ops Q rest (a.put o.dst v') w') :
    wpList P ops Q (o :: rest) a (wr.alloc (.cells #[y] e)) :=
  wpList_append_cells hown hbase s x t ht hi hbytes hb ⟨hh.1, hh.2.1, hh.2.2.1, hh.2.2.2.1, by simp [hh.2.2.2.2.1], hh.2.2.2.2.2, rfl, by decide⟩ hg h
theorem wpList_append_three {wr : World} {v : Value} {n : Nat} {xs : List Value} {base : Nat} {e : TypeId} (hown : wr.ownsRow base e 3 v n xs) (hbase : base ≤ wr.heap.size)
    (s x : Operand) (t : TypeId) {z : Value} {bytes : Nat} (ht : P.underlying t = some (.slice e)) (hi : (P.info? e).map (fun i => (i.zero, i.size, i.bytes)) = some (some z, 3, bytes))
    (hbytes : (n + 1) * bytes ≤ 140737488355328) (hb : n + 1 ≤ maxLen)
    {ops : Array Oper} {rest : List Oper} {o : Oper} {a : Act} {Q : Exit → Act → World → Prop} {y0 y1 y2 : Value} {g : Nat}
    (hh : o.guard = none ∧ o.op = .call { callee := .builtin .append, args := #[s, x], argTypes := #[t, t] } ∧ a.eval s = v ∧ a.eval x = .slice (some ⟨g, 0, none⟩) 1 1 ∧ y0.oneCell' = true ∧ y1.oneCell' = true ∧ y2.oneCell' = true ∧ z.cells.size = 3)
    (hg : g = wr.heap.size)
    (h : ∀ v' w', w'.ownsRow base e 3 v' (n + 1) (xs ++ [y0, y1, y2]) → Below base wr w' → v'.ownBlock.isSome = true → wpList P ops Q rest (a.put o.dst v') w') :
    wpList P ops Q (o :: rest) a (wr.alloc (.cells #[y0, y1, y2] e)) :=
  wpList_append_cells hown hbase s x t ht hi hbytes hb ⟨hh.1, hh.2.1, hh.2.2.1, hh.2.2.2.1, by simp [hh.2.2.2.2.1, hh.2.2.2.2.2.1, hh.2.2.2.2.2.2.1], hh.2.2.2.2.2.2.2, rfl, by decide⟩ hg h

theorem cells_one_add (g j : Nat) : (⟨g, 0, none⟩ : Addr).add j = ⟨g, j, none⟩ := by unfold Addr.add; split <;> simp_all

/-- 'string(b)' of a row of bytes of the call's own. -/
theorem run_string_of_own {w : World} {base : Nat} {v : Value} {l : List UInt8} {n : Nat} {xs : List Value} {src dst e : TypeId} (hown : w.ownsRow base e 1 v n xs) (hx : xs = l.map fun c => .int .u8 (c.toNat : Int))
    (hs : P.underlying src = some (.slice e)) (he : P.underlying e = some (.int .u8)) (hd : P.underlying dst = some .string) :
    (convert src dst v).run P w = .ok (.string ⟨l.toArray⟩) w := by
  have hl : l.length = n := by have h := hown.1; rw [hx] at h; simpa using h
  rcases hown.2 with ⟨rfl, h0⟩ | ⟨g, cap, cur, rfl, _⟩
  · have : l = [] := List.eq_nil_of_length_eq_zero (by omega)
    subst this
    rw [run_convert_bytes_string w src dst e none 0 0 hs he hd]
    simp [Conv.bytesToString]
    rfl
  · have hc := hown.cells (g := g) rfl
    subst hl
    exact run_convert_bytes_back w src dst e ⟨g, 0, none⟩ cap l hs he hd (fun j hj => hc j _ (by rw [hx]; simp [hj]))
end

/-- 'string([]byte{x})'. -/
theorem run_string_of_one {P : Program} {wr : World} {x : Int} {src dst e : TypeId} (h0 : 0 ≤ x) (h1 : x ≤ 255) (hs : P.underlying src = some (.slice e)) (he : P.underlying e = some (.int .u8)) (hd : P.underlying dst = some .string) :
    (convert src dst (.slice (some ⟨wr.heap.size, 0, none⟩) 1 1)).run P (wr.alloc (.cells #[.int .u8 x] e)) = .ok (.string ⟨#[UInt8.ofNat x.toNat]⟩) (wr.alloc (.cells #[.int .u8 x] e)) := by
  obtain ⟨n, rfl⟩ := Int.eq_ofNat_of_zero_le h0
  have h := run_convert_bytes_back (P := P) (wr.alloc (.cells #[.int .u8 (n : Int)] e)) src dst e ⟨wr.heap.size, 0, none⟩ 1 [UInt8.ofNat n] hs he hd (fun j hj => by
    have h : j = 0 := by simpa using hj
    subst h
    have hn : n < 256 := by omega
    simp [Addr.add, World.cell?_alloc_at, Nat.mod_eq_of_lt hn])
  exact h

/-- A call of a function that has a body enters it. -/
theorem run_enter {P : Program} {f : FuncId} {fn : Func} {c : Code} (hf : P.funcs[f]? = some fn) (hname : (fn.name == "runtime.NumGoroutine") = false) (hb : fn.body = some c) (args : Array Value) (w : World) :
    (callFunc f args).run P w = .ok (.enter f args) w := by
  have h1 : ¬ fn.name = "runtime.NumGoroutine" := by simpa using hname
  simp [callFunc, hf, h1, hb]

/-- 'make([]T, n, c)' for every world. -/
theorem run_make_rowN {P : Program} (t e : TypeId) {z : Value} {size bytes : Nat} (ht : P.underlying t = some (.slice e)) (hi : (P.info? e).map (fun i => (i.zero, i.size, i.bytes)) = some (some z, size, bytes))
    (kl kc : IntKind) (n c : Nat) (hnc : n ≤ c) (hbytes : bytes * c ≤ 281474976710656) (h63 : c ≤ 9223372036854775807) (w : World) :
    (Instr.makeSlice t (.int kl (n : Int)) (.int kc (c : Int))).run P w = .ok (.slice (some ⟨w.heap.size, 0, none⟩) n c) (w.alloc (.cells (madeCells z.cells (c * size)) e)) := by
  obtain ⟨i, hi1, hz, hsz, hby⟩ := info_parts hi
  subst hsz
  subst hby
  have hb : (i.bytes : Int) * (c : Int) ≤ 281474976710656 := by
    have h : ((i.bytes * c : Nat) : Int) ≤ 281474976710656 := by omega
    rwa [Int.natCast_mul] at h
  have hr := run_make (P := P) w t e i z ht hi1 hz kl kc n c (by omega) (by omega) hb (by omega)
  simp only [Int.toNat_natCast] at hr
  exact hr

/-! ### A slice that reads as a list of cells, the nil slice too -/
theorem block_of_add (a : Addr) (n : Nat) : (a.add n).block = a.block := by unfold Addr.add; split <;> rfl
theorem add_of_add (a : Addr) (i j : Nat) : (a.add i).add j = a.add (i + j) := by
  unfold Addr.add
  by_cases hi : i = 0 <;> by_cases hj : j = 0 <;> simp [hi, hj, Nat.add_assoc]

/-- The slice value '.slice A n c' holds the cells xs ('size' cells an element) and lies below block B. -/
def Reads (w : World) (B size : Nat) (A : Option Addr) (n : Nat) (xs : List Value) : Prop :=
  xs.length = n * size ∧ (0 < n → ∃ b off, A = some ⟨b, off, none⟩ ∧ b < B ∧ ∀ j u, xs[j]? = some u → w.cell? ⟨b, off + j, none⟩ = some u)

section
variable {w w' : World} {B B' size n : Nat} {A : Option Addr} {xs : List Value}
theorem Reads.none_ : Reads w B size A 0 [] := ⟨by simp, fun h => absurd h (by omega)⟩
theorem Reads.keep (h : Reads w B size A n xs) (hk : ∀ p : Addr, p.block < B → w'.cell? p = w.cell? p) : Reads w' B size A n xs :=
  ⟨h.1, fun hn => by
    obtain ⟨b, off, e, hb, hc⟩ := h.2 hn
    exact ⟨b, off, e, hb, fun j u hu => (hk _ hb).trans (hc j u hu)⟩⟩
theorem Reads.more (h : Reads w B size A n xs) (hB : B ≤ B') : Reads w B' size A n xs :=
  ⟨h.1, fun hn => by
    obtain ⟨b, off, e, hb, hc⟩ := h.2 hn
    exact ⟨b, off, e, by omega, hc⟩⟩
theorem Reads.below (h : Reads w B size A n xs) (hb : Below B w w') : Reads w' B size A n xs := h.keep fun _ hp => hb.cell hp
theorem Reads.drew (h : Reads w B size A n xs) : Reads w.drew B size A n xs := h
theorem Reads.drewN (h : Reads w B size A n xs) (k : Nat) : Reads (w.drewN k) B size A n xs := h
theorem Reads.alloc (h : Reads w B size A n xs) (hB : B ≤ w.heap.size) (o : Obj) : Reads (w.alloc o) B size A n xs := h.keep fun p hp => World.cell?_alloc_lt w o p (by omega)
theorem Reads.setCell (h : Reads w B size A n xs) {p : Addr} (hB : B ≤ p.block) (u : Value) : Reads (w.setCell p u) B size A n xs :=
  h.keep fun q hq => World.cell?_setCell_other w p q u (fun e => by subst e; omega)
theorem Reads.of_own {base : Nat} {e : TypeId} {c : Nat} (h : w.ownsRow base e size (.slice A n c) n xs) : Reads w w.heap.size size A n xs := by
  refine ⟨h.1, fun hn => ?_⟩
  rcases h.2 with ⟨_, h0⟩ | ⟨g, cap, cur, hv, _, hg, _⟩
  · omega
  · have hA : A = some ⟨g, 0, none⟩ := by injection hv
    subst hA
    exact ⟨g, 0, rfl, (Array.getElem?_eq_some_iff.1 hg).1, fun j u hu => by have := h.cells (g := g) rfl j u hu; rwa [cells_one_add, ← Nat.zero_add j] at this⟩
end

/-- What a law is told of a slice of integers that came in. -/
def Ints (k : IntKind) (w : World) (a : Option Addr) (len cap : Nat) (zs : List Int) : Prop :=
  Reads w w.heap.size 1 a len (zs.map (Value.int k)) ∧ len ≤ cap ∧ cap ≤ maxLen ∧ zs.length = len ∧ ∀ n ∈ zs, (Lit.int k n).wf = true

theorem open_row {H : Type} {enc : TypeId × Value → H} {P : Program} {w : World} {t e : TypeId} {k : IntKind} {a : Option Addr} {len cap : Nat} {d : DataW H} {ps : List MemPlace} (ht : P.underlying t = some (.slice e)) (he : P.underlying e = some (.int k)) (hc : P.cellsOf e = 1)
    (h : DataW.Trod enc P w 0 (fun _ => true) true t (.slice a len cap) d ps) : ∃ zs, Ints k w a len cap zs := by
  obtain ⟨fuel, hf⟩ := h
  rcases ChangeShapes.open_ints ht he hc hf with ⟨hcs, _⟩ | ⟨x, l, c, zs, hcs, _, hl, hm, hz, _, hcell, hwz⟩
  · simp [Value.cells] at hcs
    obtain ⟨rfl, rfl, rfl⟩ := hcs
    exact ⟨[], Reads.none_, by simp, by simp, rfl, by simp⟩
  · simp [Value.cells] at hcs
    obtain ⟨rfl, rfl, rfl⟩ := hcs
    simp at hz
    refine ⟨zs.take len, ⟨by simp; omega, fun hn => ?_⟩, hl, hm, by simp; omega, fun n hn => hwz n (List.mem_of_mem_take hn)⟩
    obtain ⟨b, off, rfl, hc⟩ := ints_at hcell (by omega)
    refine ⟨b, off, rfl, World.block_lt_of_cell? w _ (hc 0 (by omega)), fun j u hj => ?_⟩
    simp only [List.getElem?_map, List.getElem?_take, Option.map_eq_some_iff] at hj
    obtain ⟨y, hy, rfl⟩ := hj
    split at hy
    · rw [hc j (by omega)]
      simp [List.getD, hy]
    · cases hy
end Go.Proofs.Ytfgfbnmcihjfmaa
namespace Go.Proofs.Ytfgfbnmcihjfmaa
set_option linter.unusedVariables false
open Go.RowKit

/-- w' is w but for the blocks from lo to hi (hi not included), and new ones. -/
structure Only (lo hi : Nat) (w w' : World) : Prop where
  os : w'.os = w.os
  tape : w'.tape = w.tape
  output : w'.output = w.output
  size : w.heap.size ≤ w'.heap.size
  block : ∀ k, k < w.heap.size → (k < lo ∨ hi ≤ k) → w'.heap[k]? = w.heap[k]?

theorem Only.of_below {lo hi : Nat} {w w' : World} (h : Below w.heap.size w w') : Only lo hi w w' := ⟨h.os, h.tape, h.output, h.size, fun k hk _ => h.block k hk⟩
theorem Only.below {lo hi : Nat} {w w' : World} (h : Only lo hi w w') {B : Nat} (hB : B ≤ lo) (hs : B ≤ w.heap.size) : Below B w w' := ⟨h.os, h.tape, h.output, h.size, fun k hk => h.block k (by omega) (.inl (by omega))⟩
theorem Only.refl {lo hi : Nat} (w : World) : Only lo hi w w := ⟨rfl, rfl, rfl, Nat.le_refl _, fun _ _ _ => rfl⟩
theorem Only.trans {lo hi : Nat} {a b c : World} (h : Only lo hi a b) (k : Only lo hi b c) : Only lo hi a c :=
  ⟨k.os.trans h.os, k.tape.trans h.tape, k.output.trans h.output, Nat.le_trans h.size k.size, fun i hi h' => (k.block i (Nat.lt_of_lt_of_le hi h.size) h').trans (h.block i hi h')⟩
theorem Only.drew {lo hi : Nat} {a w : World} (h : Only lo hi a w) : Only lo hi a w.drew := ⟨h.os, h.tape, h.output, h.size, h.block⟩
theorem Only.drewN {lo hi : Nat} {a w : World} (h : Only lo hi a w) (n : Nat) : Only lo hi a (w.drewN n) := ⟨h.os, h.tape, h.output, h.size, h.block⟩
theorem Only.setCell {lo hi : Nat} {a w : World} (h : Only lo hi a w) {p : Addr} (h1 : lo ≤ p.block) (h2 : p.block < hi) (u : Value) : Only lo hi a (w.setCell p u) :=
  h.trans ⟨rfl, rfl, rfl, by simp [World.setCell], fun k _ hk' => Below.heap_setCell _ _ _ _ (by omega)⟩
theorem drewN_own {w : World} {base size n : Nat} {e : TypeId} {v : Value} {xs : List Value} (h : w.ownsRow base e size v n xs) (k : Nat) : (w.drewN k).ownsRow base e size v n xs := h
theorem below_drewN {B : Nat} {a w : World} (h : Below B a w) (n : Nat) : Below B a (w.drewN n) := ⟨h.os, h.tape, h.output, h.size, h.block⟩

/-- The slice value v owns a row of the cells xs, in a block from lo on and below hi. -/
def Own (w : World) (lo hi : Nat) (e : TypeId) (size : Nat) (v : Value) (n : Nat) (xs : List Value) : Prop :=
  w.ownsRow lo e size v n xs ∧ ∀ g, v.ownBlock = some g → g < hi

section
variable {w w' : World} {lo hi : Nat} {e : TypeId} {size : Nat} {v : Value} {n : Nat} {xs : List Value}
theorem ownsRow_only {lo' hi' : Nat} (h : w.ownsRow lo e size v n xs) (ho : Only lo' hi' w w') (hd : ∀ g, v.ownBlock = some g → g < lo' ∨ hi' ≤ g) : w'.ownsRow lo e size v n xs := by
  obtain ⟨h1, h2⟩ := h
  refine ⟨h1, ?_⟩
  rcases h2 with h2 | ⟨g, cap, cur, rfl, hb, hh, rest⟩
  · exact .inl h2
  · exact .inr ⟨g, cap, cur, rfl, hb, by rw [ho.block g (Array.getElem?_eq_some_iff.1 hh).1 (hd g rfl)]; exact hh, rest⟩
theorem Own.only {lo' hi' : Nat} (h : Own w lo hi e size v n xs) (ho : Only lo' hi' w w') (hd : hi ≤ lo' ∨ hi' ≤ lo) : Own w' lo hi e size v n xs :=
  ⟨ownsRow_only h.1 ho (fun g hg => by have h1 := h.2 g hg; have h2 := (h.1.lt g hg).1; omega), h.2⟩
theorem Own.below (h : Own w lo hi e size v n xs) (hb : Below w.heap.size w w') : Own w' lo hi e size v n xs :=
  ⟨ownsRow_only (lo' := w.heap.size) (hi' := w.heap.size) h.1 (Only.of_below hb) (fun g hg => by have h2 := (h.1.lt g hg).2; omega), h.2⟩
theorem _root_.Go.World.ownsRow.base {lo' : Nat} (h : w.ownsRow lo e size v n xs) (hl : lo' ≤ lo) : w.ownsRow lo' e size v n xs := by
  obtain ⟨h1, h2⟩ := h
  refine ⟨h1, ?_⟩
  rcases h2 with h2 | ⟨g, cap, cur, rfl, hb, rest⟩
  · exact .inl h2
  · exact .inr ⟨g, cap, cur, rfl, by omega, rest⟩
theorem Own.of_row (h : w.ownsRow lo e size v n xs) : Own w lo w.heap.size e size v n xs := ⟨h, fun g hg => (h.lt g hg).2⟩
theorem Own.none_ : Own w lo hi e size (.slice none 0 0) 0 [] := ⟨World.ownsRow_nil _ _ _ _, fun g hg => by simp [Value.ownBlock] at hg⟩
/-- The value is a slice that reads. -/
theorem Own.slice (h : Own w lo hi e size v n xs) : ∃ A cap, v = .slice A n cap ∧ Reads w w.heap.size size A n xs ∧ n ≤ cap ∧ cap ≤ maxLen := by
  rcases h.1.2 with ⟨rfl, rfl⟩ | ⟨g, cap, cur, rfl, hb, hh, h1, h2, h3, h4⟩
  · exact ⟨none, 0, rfl, Reads.of_own h.1, by omega, by unfold maxLen; omega⟩
  · exact ⟨some ⟨g, 0, none⟩, cap, rfl, Reads.of_own h.1, h1, h2⟩
/-- Where there is an element: the block, its cells, and that they may be written. -/
theorem Own.open_ (h : Own w lo hi e size v n xs) (hn : 0 < n) : ∃ g cap, v = .slice (some ⟨g, 0, none⟩) n cap ∧ lo ≤ g ∧ g < hi ∧ g < w.heap.size ∧ n ≤ cap ∧ cap ≤ maxLen ∧
    (∀ j, j < n * size → w.cell? ⟨g, j, none⟩ = xs[j]?) ∧ ∀ j, w.frozen? ⟨g, j, none⟩ = false := by
  rcases h.1.2 with ⟨rfl, rfl⟩ | ⟨g, cap, cur, rfl, hb, hh, h1, h2, h3, h4⟩
  · omega
  · exact ⟨g, cap, rfl, hb, h.2 g rfl, (Array.getElem?_eq_some_iff.1 hh).1, h1, h2, fun j hj => h.1.cellAt j hj, fun j => h.1.frozenAt j⟩
/-- One cell is written. -/
theorem Own.set_ {g cap : Nat} (h : Own w lo hi e size (.slice (some ⟨g, 0, none⟩) n cap) n xs) (j : Nat) (u : Value) : Own (w.setCell ⟨g, j, none⟩ u) lo hi e size (.slice (some ⟨g, 0, none⟩) n cap) n (xs.set j u) :=
  ⟨(h.1.stored j u).1, h.2⟩
end

/-! ### 'append(out, src...)' -/
section
variable {P : Program}
theorem run_append_nothing {w : World} {base : Nat} {t ty e : TypeId} {i : TypeInfo} {size : Nat} (ht : P.underlying t = some (.slice e)) (hi : P.info? e = some i)
    {v : Value} {n : Nat} {xs : List Value} (hown : w.ownsRow base e size v n xs) (c : Nat) : (Builtin.append_ #[t, t] ty #[v, .slice none 0 c]).run P w = .ok v w := by
  rcases hown.2 with ⟨rfl, rfl⟩ | ⟨g, cap, cur, rfl, _, _, hnc, _⟩
  · simp [Builtin.append_, run_underlying ht, sizeOf, typeInfo, hi, Builtin.lenOf, Builtin.firstCells]
  · simp [Builtin.append_, run_underlying ht, sizeOf, typeInfo, hi, Builtin.lenOf, Builtin.firstCells, hnc, storeCells]

/-- 'append(out, src...)' onto a slice of the call's own, whatever src is: nil, empty, or not. -/
theorem wpList_append_src {wr : World} {v : Value} {n size : Nat} {xs : List Value} {base : Nat} {e : TypeId} (hown : wr.ownsRow base e size v n xs) (hbase : base ≤ wr.heap.size)
    {A : Option Addr} {m c B : Nat} {news : List Value} (hr : Reads wr B size A m news) (h1 : ∀ u ∈ news, u.oneCell' = true)
    (s x : Operand) (t : TypeId) {z : Value} {bytes : Nat} (ht : P.underlying t = some (.slice e)) (hi : (P.info? e).map (fun i => (i.zero, i.size, i.bytes)) = some (some z, size, bytes))
    (hbytes : (n + m) * bytes ≤ 140737488355328) (hb : n + m ≤ maxLen)
    {ops : Array Oper} {rest : List Oper} {o : Oper} {a : Act} {Q : Exit → Act → World → Prop}
    (hh : o.guard = none ∧ o.op = .call { callee := .builtin .append, args := #[s, x], argTypes := #[t, t] } ∧ a.eval s = v ∧ a.eval x = .slice A m c ∧ z.cells.size = size ∧ 0 < size)
    (h : ∀ v' w', w'.ownsRow base e size v' (n + m) (xs ++ news) → Below base wr w' → wpList P ops Q rest (a.put o.dst v') w') :
    wpList P ops Q (o :: rest) a wr := by
  obtain ⟨i, hi, hz0, hz1, hz2⟩ := info_parts hi
  obtain ⟨hgd, ho, hs, hx, hzs, hpos⟩ := hh
  rcases A with _ | ad
  · have hm : m = 0 := by
      rcases Nat.eq_zero_or_pos m with h0 | h0
      · exact h0
      · obtain ⟨b, off, h, _⟩ := hr.2 h0
        cases h
    subst hm
    have hn : news = [] := List.eq_nil_of_length_eq_zero (by simpa using hr.1)
    subst hn
    refine wpList_plain hgd fun _ hK => ?_
    unfold Oper.wp execOp
    simp only [ho, resolve, invoke, builtin, Sem.run_bind, Sem.run_pure, Result.andThen_ok, List.map_toArray, List.map_cons, List.map_nil, hs, hx, run_append_nothing (ty := o.type) ht hi hown c]
    exact hK _ _ (h v wr (by simpa using hown) (Below.refl _ _))
  · refine wpList_append_own _ hgd s x t ho base e i z size bytes ht hi hz0 hz1 hz2 hzs hpos v n xs hs hown ad m c news hx hr.1 (fun j u hj => ?_) h1 hb hbytes hbase ?_
    · have hm : 0 < m := by
        rcases Nat.eq_zero_or_pos m with h0 | h0
        · subst h0
          have hn : news = [] := List.eq_nil_of_length_eq_zero (by simpa using hr.1)
          subst hn
          simp at hj
        · exact h0
      obtain ⟨b, off, hA, _, hc⟩ := hr.2 hm
      simp only [Option.some.injEq] at hA
      subst hA
      rw [Go.WideShapes.add_plain]
      exact hc j u hj
    · intro v' w' hown' hgrow _
      exact h v' w' hown' ((Below.refl _ _).grown hgrow hbase (fun k hk => (hown.lt k hk).1))
end

/-- The cells of a block just made, behind a draw. -/
theorem news_alloc {W : World} {ys : List Value} {e : TypeId} {g : Nat} (hg : g = W.heap.size) : ∀ j u, ys[j]? = some u → (W.alloc (.cells ys.toArray e)).drew.cell? ⟨g, j, none⟩ = some u := by
  intro j u hj
  subst hg
  show (W.alloc (.cells ys.toArray e)).cell? _ = _
  rw [World.cell?_alloc_mark]
  simpa using hj
/-- An append as one step of a region that draws its order. -/
theorem step_append_own {P : Program} {W : World} {v : Value} {n size : Nat} {xs : List Value} {base : Nat} {e : TypeId} (hown : W.ownsRow base e size v n xs) (hbase : base ≤ W.heap.size)
    (s x : Operand) (t : TypeId) {z : Value} {bytes : Nat} (ht : P.underlying t = some (.slice e)) (hi : (P.info? e).map (fun i => (i.zero, i.size, i.bytes)) = some (some z, size, bytes))
    (hbytes : (n + 1) * bytes ≤ 140737488355328) (hb : n + 1 ≤ maxLen) {ys : List Value} {g : Nat} (hnews : ∀ j u, ys[j]? = some u → W.cell? ⟨g, j, none⟩ = some u) (h1 : ∀ y ∈ ys, y.oneCell' = true)
    {ops : Array Oper} {o : Oper} {a : Act} {K : Act → World → Prop} {Q : Exit → Act → World → Prop} {E : Prop}
    (hh : o.guard = none ∧ o.op = .call { callee := .builtin .append, args := #[s, x], argTypes := #[t, t] } ∧ a.eval s = v ∧ a.eval x = .slice (some ⟨g, 0, none⟩) 1 1 ∧ z.cells.size = size ∧ ys.length = size ∧ 0 < size)
    (h : ∀ v' w', w'.ownsRow base e size v' (n + 1) (xs ++ ys) → W.grownBy w' v.ownBlock → v'.ownBlock.isSome = true → K (a.put o.dst v') w') :
    if Region.wanted o (yielded ops a.tmps) = true then Oper.wp P o a W K Q else E := by
  obtain ⟨i, hi, hz0, hz1, hz2⟩ := info_parts hi
  obtain ⟨hgd, ho, hs, hx, hzs, hyl, hpos⟩ := hh
  have hw : Region.wanted o (yielded ops a.tmps) = true := by simp [Region.wanted, hgd]
  rw [if_pos hw]
  refine wp_append_own W s x t ho base e i z size bytes ht hi hz0 hz1 hz2 hzs hpos v n xs hs hown ⟨g, 0, none⟩ 1 1 ys hx (by omega) (fun j u hj => ?_) h1 hb hbytes hbase fun v' w' h2 h3 _ => ?_
  · rw [cells_one_add]
    exact hnews j u hj
  · refine h v' w' h2 h3 ?_
    rcases h2.2 with ⟨rfl, h0⟩ | ⟨g, cap, cur, rfl, _⟩
    · omega
    · rfl

/-! ### A row that is filled from its head on -/
def filled (xs : List Value) (z : Value) (k : Nat) : List Value := xs.take k ++ List.replicate (xs.length - k) z
theorem filled_zero (xs : List Value) (z : Value) : filled xs z 0 = List.replicate xs.length z := by simp [filled]
theorem filled_all (xs : List Value) (z : Value) : filled xs z xs.length = xs := by simp [filled]
theorem filled_length (xs : List Value) (z : Value) {k : Nat} (h : k ≤ xs.length) : (filled xs z k).length = xs.length := by simp [filled]; omega
theorem filled_set (xs : List Value) (z : Value) {k : Nat} {x : Value} (h : xs[k]? = some x) : (filled xs z k).set k x = filled xs z (k + 1) := by
  have hk : k < xs.length := (List.getElem?_eq_some_iff.1 h).1
  unfold filled
  rw [List.set_append_right _ _ (by simp; omega)]
  simp only [List.length_take]
  rw [show k - min k xs.length = 0 by omega, show xs.length - k = (xs.length - (k + 1)) + 1 by omega, List.replicate_succ, List.set_cons_zero, List.take_add_one, h]
  simp
theorem filled_at (xs : List Value) (z : Value) {k : Nat} (h : k < xs.length) : (filled xs z k)[k]? = some z := by
  unfold filled
  rw [List.getElem?_append_right (by simp; omega)]
  simp only [List.length_take]
  rw [show k - min k xs.length = 0 by omega]
  simp [show 0 < xs.length - k by omega]
theorem below_only {w w' : World} (h : Only w.heap.size w.heap.size w w') : Below w.heap.size w w' := h.below (Nat.le_refl _) (Nat.le_refl _)

/-! ### Small words for walks -/
theorem quiet_left {P : Program} {f : FuncId} {args : Array Value} {w : World} {n : Nat} {v : Value}
    (h : Calls P f args (w.drewN n) fun e w' => e = .returned v ∧ w.drewN n = w') : Calls P f args (w.drewN n) fun e w'' => e = .returned v ∧ ∃ m, w'' = w.drewN m :=
  h.mono fun _ _ ⟨he, hm⟩ => ⟨he, n, hm.symm⟩
theorem still_of {P : Program} {f : FuncId} {args : Array Value} {w : World} {v : Value} (h : Calls P f args w fun e w' => e = .returned v ∧ w = w') : Calls P f args w fun e w' => e = .returned v ∧ w' = w :=
  h.mono fun _ _ ⟨he, hm⟩ => ⟨he, hm.symm⟩
theorem results_tmp4 {fn : Func} {t u v x : Tmp} (h : fn.results = #[.tmp t, .tmp u, .tmp v, .tmp x]) (tmps : Array Value) (P : Program) (w : World) :
    (results fn tmps).run P w = .ok (.tuple #[tmps.getD t undef, tmps.getD u undef, tmps.getD v undef, tmps.getD x undef]) w := by simp [results, h]
end Go.Proofs.Ytfgfbnmcihjfmaa
namespace Go.Proofs.Ytfgfbnmcihjfmaa
open Go.RowKit
set_option linter.unusedVariables false

theorem ret_bool {a b : Bool} (h : a = b) : Ending.returned (.bool a) = .returned (.bool b) := by rw [h]
theorem ret_int {k : IntKind} {a b : Int} (h : a = b) : Ending.returned (.int k a) = .returned (.int k b) := by rw [h]
theorem some_at {α : Type} (l : List α) {k : Nat} (h : k < l.length) : ∃ x, l[k]? = some x := ⟨_, List.getElem?_eq_getElem h⟩
theorem split_at {α : Type} {l : List α} {k : Nat} {x : α} (h : l[k]? = some x) : ∃ a b, l = a ++ x :: b ∧ a.length = k := by
  have hk : k < l.length := (List.getElem?_eq_some_iff.1 h).1
  have h1 : l[k] = x := (List.getElem?_eq_some_iff.1 h).2
  exact ⟨l.take k, l.drop (k + 1), by rw [← h1, List.getElem_cons_drop, List.take_append_drop], by rw [List.length_take]; omega⟩
theorem take_all {α : Type} (l : List α) : l.take l.length = l := List.take_of_length_le (Nat.le_refl _)
theorem take_succ_of {α : Type} {l : List α} {k : Nat} {x : α} (h : l[k]? = some x) : l.take (k + 1) = l.take k ++ [x] := by
  rw [List.take_add_one, h]
  rfl
theorem ne_of_at {α : Type} [DecidableEq α] {xs ys : List α} {k : Nat} {x y : α} (hx : xs[k]? = some x) (hy : ys[k]? = some y) (h : ¬ x = y) : false = decide (xs = ys) := by
  rw [decide_eq_false]
  intro he
  rw [he, hy] at hx
  exact h (Option.some.inj hx).symm
theorem eq_of_all {α : Type} [DecidableEq α] {xs ys : List α} (hl : xs.length = ys.length) (h : ∀ j, j < xs.length → xs[j]? = ys[j]?) : true = decide (xs = ys) := by
  rw [decide_eq_true]
  refine List.ext_getElem? fun j => ?_
  rcases Nat.lt_or_ge j xs.length with h' | h'
  · exact h j h'
  · rw [List.getElem?_eq_none h', List.getElem?_eq_none (by omega)]
theorem ne_of_length {α : Type} [DecidableEq α] {xs ys : List α} (hl : ¬ xs.length = ys.length) : false = decide (xs = ys) := by
  rw [decide_eq_false]
  intro h
  exact hl (by rw [h])

def inB (n lo hi : Int) : Bool := decide (lo ≤ n) && decide (n ≤ hi)
theorem inB_yes {n lo hi : Int} (h1 : lo ≤ n) (h2 : n ≤ hi) : inB n lo hi = true := by simp [inB, h1, h2]
theorem inB_no {n lo hi : Int} (h : ¬ (lo ≤ n ∧ n ≤ hi)) : inB n lo hi = false := by
  simp only [inB, Bool.and_eq_false_iff, decide_eq_false_iff_not]
  omega
theorem inB_iff {n lo hi : Int} : inB n lo hi = true ↔ lo ≤ n ∧ n ≤ hi := by simp [inB]
theorem inB_not {n lo hi : Int} (h : inB n lo hi = false) : ¬ (lo ≤ n ∧ n ≤ hi) := fun h' => by rw [inB_iff.2 h'] at h; cases h

def ints (zs : List Int) : List Value := zs.map (Value.int .i64)
theorem ints_length (zs : List Int) : (ints zs).length = zs.length := by simp [ints]
theorem ints_at (zs : List Int) {k : Nat} {x : Int} (h : zs[k]? = some x) : (ints zs)[k]? = some (.int .i64 x) := by simp [ints, h]
theorem ints_snoc (zs : List Int) (x : Int) : ints (zs ++ [x]) = ints zs ++ [.int .i64 x] := by simp [ints]

def marks (k : Int) (n : Nat) : List Int := (List.range n).map fun (j : Nat) => k + (j : Int)
theorem marks_length (k : Int) (n : Nat) : (marks k n).length = n := by simp [marks]
def marked (xs : List Value) (k : Int) (i : Nat) : List Value := ints (marks k i) ++ xs.drop i
theorem marked_zero (xs : List Value) (k : Int) : marked xs k 0 = xs := by simp [marked, marks, ints]
theorem marked_all (xs : List Value) (k : Int) : marked xs k xs.length = ints (marks k xs.length) := by simp [marked]
theorem marked_set (xs : List Value) (k : Int) {i : Nat} (h : i < xs.length) : (marked xs k i).set i (.int .i64 (k + (i : Int))) = marked xs k (i + 1) := by
  unfold marked
  rw [List.set_append_right _ _ (by simp [ints, marks])]
  simp only [ints_length, marks_length, Nat.sub_self]
  rw [← List.getElem_cons_drop (h := h), List.set_cons_zero]
  simp [marks, ints, List.range_succ]
theorem marked_at (xs : List Value) (k : Int) (i : Nat) : (marked xs k i)[i]? = xs[i]? := by
  unfold marked
  rw [List.getElem?_append_right (by simp [ints, marks])]
  simp [ints_length, marks_length]

theorem str_beq (t u : ByteArray) : (t.toList == u.toList) = decide (t = u) := by
  rw [ByteArray.toList_eq, ByteArray.toList_eq]
  by_cases h : t = u
  · subst h; simp
  · have h2 : ¬ t.data.toList = u.data.toList := fun e => h (WideShapes.bytes_inj e)
    rw [decide_eq_false h]
    simpa using h2
end Go.Proofs.Ytfgfbnmcihjfmaa
namespace Go.Proofs.Ytfgfbnmcihjfmaa
set_option linter.unusedVariables false

def consHead (c : UInt8) : List (List UInt8) → List (List UInt8)
  | p :: ps => (c :: p) :: ps
  | [] => [[c]]
/-- The parts of a text between bytes b. -/
def parts (b : UInt8) : List UInt8 → List (List UInt8)
  | [] => [[]]
  | c :: l => if c = b then [] :: parts b l else consHead c (parts b l)
theorem parts_ne (b : UInt8) (l : List UInt8) : parts b l ≠ [] := by
  induction l with
  | nil => simp [parts]
  | cons c l ih =>
    unfold parts
    split
    · simp
    · cases h : parts b l with
      | nil => simp [consHead]
      | cons p ps => simp [consHead]
theorem parts_nosep {b : UInt8} {l : List UInt8} (h : b ∉ l) : parts b l = [l] := by
  induction l with
  | nil => rfl
  | cons c l ih =>
    simp only [List.mem_cons, not_or] at h
    rw [parts, if_neg (Ne.symm h.1), ih h.2]
    rfl
theorem parts_cut {b : UInt8} {p : List UInt8} (r : List UInt8) (h : b ∉ p) : parts b (p ++ b :: r) = p :: parts b r := by
  induction p with
  | nil => simp [parts]
  | cons c p ih =>
    simp only [List.mem_cons, not_or] at h
    rw [List.cons_append, parts, if_neg (Ne.symm h.1), ih h.2]
    rfl
theorem split_first {b : UInt8} {l : List UInt8} (h : b ∈ l) : ∃ p r, l = p ++ b :: r ∧ b ∉ p := by
  induction l with
  | nil => simp at h
  | cons c l ih =>
    by_cases hc : c = b
    · exact ⟨[], l, by simp [hc], by simp⟩
    · have h2 : b ∈ l := by simpa [Ne.symm hc] using h
      obtain ⟨p, r, rfl, hp⟩ := ih h2
      exact ⟨c :: p, r, rfl, by simp [Ne.symm hc, hp]⟩
/-- The parts of a text that goes on: 'done ++ [rest]'. -/
theorem parts_append {b : UInt8} (l m : List UInt8) : ∃ d p, parts b l = d ++ [p] ∧ parts b (l ++ m) = d ++ (match parts b m with | q :: qs => (p ++ q) :: qs | [] => []) := by
  induction l with
  | nil =>
    refine ⟨[], [], rfl, ?_⟩
    cases h : parts b m with
    | nil => exact absurd h (parts_ne b m)
    | cons q qs => simp [h]
  | cons c l ih =>
    obtain ⟨d, p, h1, h2⟩ := ih
    simp only [List.cons_append, parts]
    split
    · exact ⟨[] :: d, p, by rw [h1]; rfl, by rw [h2]; rfl⟩
    · rw [h1, h2]
      cases d with
      | nil =>
        refine ⟨[], c :: p, rfl, ?_⟩
        cases h : parts b m with
        | nil => exact absurd h (parts_ne b m)
        | cons q qs => rfl
      | cons e d => exact ⟨(c :: e) :: d, p, rfl, rfl⟩
theorem parts_snoc_sep {b : UInt8} (l : List UInt8) : parts b (l ++ [b]) = parts b l ++ [[]] := by
  obtain ⟨d, p, h1, h2⟩ := parts_append (b := b) l [b]
  rw [h2, h1]
  simp [parts]
theorem parts_snoc_other {b c : UInt8} (h : c ≠ b) (l : List UInt8) : ∃ d p, parts b l = d ++ [p] ∧ parts b (l ++ [c]) = d ++ [p ++ [c]] := by
  obtain ⟨d, p, h1, h2⟩ := parts_append (b := b) l [c]
  refine ⟨d, p, h1, ?_⟩
  rw [h2]
  simp [parts, h, consHead]
/-- No part holds the byte. -/
theorem parts_no {b : UInt8} (l : List UInt8) : ∀ p ∈ parts b l, b ∉ p := by
  induction l with
  | nil => simp [parts]
  | cons c l ih =>
    unfold parts
    split
    · intro p hp
      rcases List.mem_cons.1 hp with rfl | hp
      · simp
      · exact ih p hp
    · rename_i hc
      cases h : parts b l with
      | nil => exact absurd h (parts_ne b l)
      | cons q qs =>
        rw [h] at ih
        intro p hp
        rcases List.mem_cons.1 hp with rfl | hp
        · have := ih q (by simp)
          simp [Ne.symm hc, this]
        · exact ih p (by simp [hp])
/-- Joined by the byte, the parts are the text. -/
def joinB (b : UInt8) (ps : List (List UInt8)) : List UInt8 := [b].intercalate ps
theorem joinB_one (b : UInt8) (p : List UInt8) : joinB b [p] = p := by simp [joinB, List.intercalate]
theorem joinB_cons (b : UInt8) (p q : List UInt8) (ps : List (List UInt8)) : joinB b (p :: q :: ps) = p ++ b :: joinB b (q :: ps) := by simp [joinB, List.intercalate, List.intersperse]
theorem joinB_snoc (b : UInt8) (ps : List (List UInt8)) (q : List UInt8) (h : ps ≠ []) : joinB b (ps ++ [q]) = joinB b ps ++ b :: q := by
  induction ps with
  | nil => exact absurd rfl h
  | cons p ps ih =>
    cases ps with
    | nil => simp [joinB_one, joinB_cons]
    | cons r ps =>
      have h2 := ih (by simp)
      simp only [List.cons_append] at h2 ⊢
      rw [joinB_cons, joinB_cons, h2]
      simp
theorem join_parts (b : UInt8) (l : List UInt8) : joinB b (parts b l) = l := by
  induction l with
  | nil => rfl
  | cons c l ih =>
    unfold parts
    cases h : parts b l with
    | nil => exact absurd h (parts_ne b l)
    | cons q qs =>
      rw [h] at ih
      split
      · rename_i hc
        rw [joinB_cons, ih, hc]
        rfl
      · cases qs with
        | nil => rw [joinB_one] at ih; simp [consHead, joinB_one, ih]
        | cons r qs => rw [joinB_cons] at ih; simp [consHead, joinB_cons, ih]
/-- Parts without the byte, joined and parted again. -/
theorem parts_join {b : UInt8} {ps : List (List UInt8)} (hne : ps ≠ []) (h : ∀ p ∈ ps, b ∉ p) : parts b (joinB b ps) = ps := by
  induction ps with
  | nil => exact absurd rfl hne
  | cons p ps ih =>
    cases ps with
    | nil => rw [joinB_one, parts_nosep (h p (by simp))]
    | cons q ps => rw [joinB_cons, parts_cut _ (h p (by simp)), ih (by simp) fun x hx => h x (by simp [hx])]

/-! ### The library's words -/
theorem index_no {l : List UInt8} {c : UInt8} (h : c ∉ l) : Lib.index l [c] = -1 := by
  rw [Lib.index_one]
  have h1 := Lib.indexByte_ge l c
  rcases Int.lt_or_le (Lib.indexByte l c) 0 with h2 | h2
  · omega
  · obtain ⟨o, ho⟩ := Int.eq_ofNat_of_zero_le h2
    exact absurd (List.mem_of_getElem? (Lib.indexByte_some ho).1) h
theorem indexByte_no {l : List UInt8} {c : UInt8} (h : c ∉ l) : Lib.indexByte l c = -1 := by rw [← Lib.index_one]; exact index_no h
theorem indexByte_at {p : List UInt8} {c : UInt8} (r : List UInt8) (h : c ∉ p) : Lib.indexByte (p ++ c :: r) c = (p.length : Int) := by
  have h1 := Lib.indexByte_ge (p ++ c :: r) c
  rcases Int.lt_or_le (Lib.indexByte (p ++ c :: r) c) 0 with h2 | h2
  · exact absurd (by simp) (Lib.indexByte_none (l := p ++ c :: r) (c := c) (by omega) p.length)
  · obtain ⟨o, ho⟩ := Int.eq_ofNat_of_zero_le h2
    obtain ⟨h3, h4⟩ := Lib.indexByte_some ho
    rw [ho]
    rcases Nat.lt_trichotomy o p.length with h5 | h5 | h5
    · rw [List.getElem?_append_left h5] at h3
      exact absurd (List.mem_of_getElem? h3) h
    · omega
    · exact absurd (by simp) (h4 p.length h5)
theorem index_at {p : List UInt8} {c : UInt8} (r : List UInt8) (h : c ∉ p) : Lib.index (p ++ c :: r) [c] = (p.length : Int) := by rw [Lib.index_one]; exact indexByte_at r h
theorem has_byte (l : List UInt8) (c : UInt8) : decide (0 ≤ Lib.indexByte l c) = l.contains c := by
  by_cases h : c ∈ l
  · obtain ⟨p, r, rfl, hp⟩ := split_first h
    rw [indexByte_at r hp]
    simp
  · rw [indexByte_no h]
    simp [h]
theorem cut_no {l : List UInt8} {c : UInt8} (h : c ∉ l) : Lib.cut l [c] = (l, [], false) := by
  unfold Lib.cut
  rw [index_no h, if_neg (by decide)]
theorem cut_at {p : List UInt8} {c : UInt8} (r : List UInt8) (h : c ∉ p) : Lib.cut (p ++ c :: r) [c] = (p, r, true) := by
  unfold Lib.cut
  rw [index_at r h, if_pos (by omega)]
  simp
theorem splitK_parts (b : UInt8) : ∀ (k : Nat) (l : List UInt8), l.count b ≤ k → Lib.splitK [b] 0 k l = parts b l
  | 0, l, h => by
    rw [parts_nosep (fun hm => by have := List.count_pos_iff.2 hm; omega)]
    rfl
  | k + 1, l, h => by
    unfold Lib.splitK
    by_cases hm : b ∈ l
    · obtain ⟨p, r, rfl, hp⟩ := split_first hm
      rw [index_at r hp, if_neg (by simp), parts_cut r hp]
      have hc : r.count b ≤ k := by
        simp only [List.count_append, List.count_cons_self] at h
        omega
      simp only [Int.toNat_natCast, Nat.add_zero, List.take_left', List.length_singleton]
      rw [show (p ++ b :: r).drop (p.length + 1) = r by simp, splitK_parts b k r hc]
    · rw [index_no hm, if_pos (by rfl), parts_nosep hm]
/-- What strings.Split lays, at a separator of one byte. -/
def partsV (b : UInt8) (s : ByteArray) : List ByteArray := (parts b s.data.toList).map fun l => ⟨l.toArray⟩
theorem splitB_parts (s : ByteArray) (b : UInt8) : Lib.splitB ⟨#[b]⟩ 0 (Lib.countB s ⟨#[b]⟩) s = partsV b s := by
  have h := Lib.splitB_data ⟨#[b]⟩ 0 (Lib.countB s ⟨#[b]⟩) s
  have hc : Lib.countB s ⟨#[b]⟩ = s.data.toList.count b := Lib.count_one b s.data.toList
  rw [show (⟨#[b]⟩ : ByteArray).data.toList = [b] from rfl, splitK_parts b _ _ (by omega)] at h
  unfold partsV
  rw [← h, List.map_map]
  conv => lhs; rw [← List.map_id (Lib.splitB ⟨#[b]⟩ 0 (Lib.countB s ⟨#[b]⟩) s)]
  exact List.map_congr_left fun x _ => by cases x; simp
theorem parts_count (b : UInt8) (l : List UInt8) : (parts b l).length = l.count b + 1 := by
  induction l with
  | nil => rfl
  | cons c l ih =>
    unfold parts
    split
    · rename_i hc
      subst hc
      simp [ih]
    · rename_i hc
      rw [List.count_cons_of_ne (Ne.symm (Ne.symm hc)), ← ih]
      cases h : parts b l with
      | nil => exact absurd h (parts_ne b l)
      | cons q qs => rfl
theorem countB_parts (s : ByteArray) (b : UInt8) : Lib.countB s ⟨#[b]⟩ + 1 = (partsV b s).length := by
  have hc : Lib.countB s ⟨#[b]⟩ = s.data.toList.count b := Lib.count_one b s.data.toList
  rw [hc, partsV, List.length_map, parts_count]
end Go.Proofs.Ytfgfbnmcihjfmaa
namespace Go.Proofs.Ytfgfbnmcihjfmaa
set_option linter.unusedVariables false

/-- The signs that no word text bears. -/
def signs : List UInt8 := [123, 125, 94, 38, 35, 62]
def wordC (c : UInt8) : Bool := decide (33 ≤ c.toNat) && decide (c.toNat ≤ 126) && !(signs.contains c)
def wordL (l : List UInt8) : Bool := (decide (1 ≤ l.length) && decide (l.length ≤ 20)) && l.all wordC
theorem wordC_ne {c d : UInt8} (h : wordC c = true) (hd : signs.contains d = true) : c ≠ d := by
  intro e
  subst e
  simp [wordC] at h
  have : signs.contains c = false := by simpa using h.2
  rw [this] at hd
  cases hd
/-- Whether an atom is valid. -/
def atomOk (k : Int) (l : List UInt8) : Bool :=
  if 1 ≤ k ∧ k ≤ 5 then wordL l
  else if k = 6 then decide (l = [46] ∨ l = [33] ∨ l = [63])
  else if k = 7 then decide (l = [44] ∨ l = [59] ∨ l = [58])
  else decide (8 ≤ k ∧ k ≤ 10) && decide (l = [])
theorem atomOk_range {k : Int} {l : List UInt8} (h : atomOk k l = true) : 1 ≤ k ∧ k ≤ 10 := by
  unfold atomOk at h
  split at h
  · omega
  split at h
  · omega
  split at h
  · omega
  · simp at h; omega
/-- An atom's notation. -/
def noteL (k : Int) (l : List UInt8) : List UInt8 :=
  if k = 1 then l
  else if k = 2 then [123, 94] ++ l ++ [125]
  else if k = 3 then [123] ++ l ++ [94, 125]
  else if k = 4 then [123, 94] ++ l ++ [94, 125]
  else if k = 5 then [123, 38] ++ l ++ [125]
  else if k = 8 then [123, 45, 124, 125]
  else if k = 9 then [123, 62, 125]
  else if k = 10 then [123, 42, 45, 124, 125]
  else [123] ++ l ++ [125]
/-- What stands between the braces. -/
def innerL (k : Int) (l : List UInt8) : List UInt8 :=
  if k = 2 then 94 :: l
  else if k = 3 then l ++ [94]
  else if k = 4 then 94 :: (l ++ [94])
  else if k = 5 then 38 :: l
  else if k = 8 then [45, 124]
  else if k = 9 then [62]
  else if k = 10 then [42, 45, 124]
  else l
theorem note_inner {k : Int} {l : List UInt8} (hk : k ≠ 1) : noteL k l = 123 :: (innerL k l ++ [125]) := by
  unfold noteL innerL
  rw [if_neg hk]
  repeat' split
  all_goals first | rfl | simp
/-- The atom whose notation stands between braces. -/
def kindI (i : List UInt8) : Int × List UInt8 :=
  if i = [45, 124] then (8, [])
  else if i = [62] then (9, [])
  else if i = [42, 45, 124] then (10, [])
  else if i = [46] ∨ i = [33] ∨ i = [63] then (6, i)
  else if i = [44] ∨ i = [59] ∨ i = [58] then (7, i)
  else if i.head? = some 38 then (5, i.tail)
  else if i.head? = some 94 ∧ i.getLast? = some 94 ∧ 2 < i.length then (4, i.tail.dropLast)
  else if i.head? = some 94 then (2, i.tail)
  else if i.getLast? = some 94 then (3, i.dropLast)
  else (0, [])
theorem wordL_head {l : List UInt8} (h : wordL l = true) : ∃ c t, l = c :: t ∧ wordC c = true := by
  cases l with
  | nil => simp [wordL] at h
  | cons c t =>
    simp [wordL] at h
    exact ⟨c, t, rfl, h.2.1⟩
theorem wordL_last {l : List UInt8} (h : wordL l = true) : ∃ t c, l = t ++ [c] ∧ wordC c = true := by
  have hne : l ≠ [] := by
    intro e
    subst e
    simp [wordL] at h
  refine ⟨l.dropLast, l.getLast hne, (List.dropLast_concat_getLast hne).symm, ?_⟩
  simp only [wordL, Bool.and_eq_true, List.all_eq_true] at h
  exact h.2 _ (List.getLast_mem hne)
theorem head_ne {i l : List UInt8} {c d : UInt8} (h : i.head? = some c) (hl : l.head? = some d) (hcd : c ≠ d) : i ≠ l := by
  intro e
  subst e
  rw [h] at hl
  exact hcd (Option.some.inj hl)
theorem last_ne {i l : List UInt8} {c d : UInt8} (h : i.getLast? = some c) (hl : l.getLast? = some d) (hcd : c ≠ d) : i ≠ l := by
  intro e
  subst e
  rw [h] at hl
  exact hcd (Option.some.inj hl)
theorem kindI_amp {l : List UInt8} : kindI (38 :: l) = (5, l) := by simp [kindI]
theorem kindI_hat {l : List UInt8} (h : l.getLast? ≠ some 94) (hl : l ≠ []) : kindI (94 :: l) = (2, l) := by
  have h2 : (94 :: l).getLast? ≠ some 94 := by rw [List.getLast?_cons_of_ne_nil hl]; exact h
  simp only [kindI, List.head?_cons, List.tail_cons]
  rw [if_neg (by simp), if_neg (by simp), if_neg (by simp), if_neg (by simp), if_neg (by simp), if_neg (by simp), if_neg (fun h3 => h2 h3.2.1), if_pos trivial]
theorem kindI_both {l : List UInt8} (hl : l ≠ []) : kindI (94 :: (l ++ [94])) = (4, l) := by
  have h3 : 0 < l.length := List.length_pos_iff.2 hl
  have h4 : (94 :: (l ++ [94])).getLast? = some (94 : UInt8) := by
    rw [← List.cons_append, List.getLast?_concat]
  simp only [kindI, h4, List.head?_cons, List.tail_cons]
  rw [if_neg (by simp), if_neg (by simp), if_neg (by simp), if_neg (by simp), if_neg (by simp), if_neg (by simp), if_pos ⟨trivial, trivial, by simp; omega⟩, List.dropLast_concat]
theorem kindI_end {l : List UInt8} {c : UInt8} {t : List UInt8} (hl : l = c :: t) (h1 : c ≠ 38) (h2 : c ≠ 94) : kindI (l ++ [94]) = (3, l) := by
  have h4 : (l ++ [94]).getLast? = some (94 : UInt8) := List.getLast?_concat ..
  have h5 : (l ++ [94]).head? = some c := by rw [hl]; rfl
  simp only [kindI, h4, h5]
  rw [if_neg (last_ne h4 (d := 124) rfl (by decide)), if_neg (last_ne h4 (d := 62) rfl (by decide)), if_neg (last_ne h4 (d := 124) rfl (by decide)),
    if_neg (fun h => by rcases h with h | h | h <;> exact last_ne h4 (d := _) rfl (by decide) h), if_neg (fun h => by rcases h with h | h | h <;> exact last_ne h4 (d := _) rfl (by decide) h),
    if_neg (by simpa using h1), if_neg (by simp [h2]), if_neg (by simpa using h2), if_pos trivial, List.dropLast_concat]
/-- The atom is found again. -/
theorem kindI_inner {k : Int} {l : List UInt8} (h : atomOk k l = true) (hk : k ≠ 1) : kindI (innerL k l) = (k, l) := by
  obtain ⟨r1, r2⟩ := atomOk_range h
  have hw : 1 ≤ k ∧ k ≤ 5 → wordL l = true := fun hr => by rw [atomOk, if_pos hr] at h; exact h
  have hs : 8 ≤ k → l = [] := fun hr => by
    rw [atomOk, if_neg (by omega), if_neg (by omega), if_neg (by omega)] at h
    simp at h
    exact h.2
  rcases (show k = 2 ∨ k = 3 ∨ k = 4 ∨ k = 5 ∨ k = 6 ∨ k = 7 ∨ k = 8 ∨ k = 9 ∨ k = 10 by omega) with rfl | rfl | rfl | rfl | rfl | rfl | rfl | rfl | rfl
  · obtain ⟨t, c, rfl, hc⟩ := wordL_last (hw (by omega))
    exact kindI_hat (by rw [List.getLast?_concat]; intro e; exact wordC_ne hc (d := 94) (by decide) (Option.some.inj e)) (by simp)
  · obtain ⟨c, t, hl, hc⟩ := wordL_head (hw (by omega))
    exact kindI_end hl (wordC_ne hc (by decide)) (wordC_ne hc (by decide))
  · obtain ⟨c, t, rfl, hc⟩ := wordL_head (hw (by omega))
    exact kindI_both (by simp)
  · exact kindI_amp
  · have h6 : l = [46] ∨ l = [33] ∨ l = [63] := by simpa [atomOk] using h
    rcases h6 with rfl | rfl | rfl <;> decide
  · have h7 : l = [44] ∨ l = [59] ∨ l = [58] := by simpa [atomOk] using h
    rcases h7 with rfl | rfl | rfl <;> decide
  · rw [hs (by omega)]; decide
  · rw [hs (by omega)]; decide
  · rw [hs (by omega)]; decide

/-- The atom of a notation, unchecked. -/
def kindL (s : List UInt8) : Int × List UInt8 :=
  if s.length < 3 ∨ s.head? ≠ some 123 ∨ s.getLast? ≠ some 125 then (1, s) else kindI s.tail.dropLast
theorem word_brace {l : List UInt8} (h : wordL l = true) : l.head? ≠ some 123 := by
  obtain ⟨c, t, rfl, hc⟩ := wordL_head h
  intro e
  exact wordC_ne hc (d := 123) (by decide) (Option.some.inj e)
theorem inner_len {k : Int} {l : List UInt8} (h : atomOk k l = true) (hk : k ≠ 1) : 1 ≤ (innerL k l).length := by
  obtain ⟨r1, r2⟩ := atomOk_range h
  unfold innerL
  repeat' split
  all_goals try simp
  have h67 : k = 6 ∨ k = 7 := by omega
  rcases h67 with rfl | rfl
  · have h6 : l = [46] ∨ l = [33] ∨ l = [63] := by simpa [atomOk] using h
    rcases h6 with rfl | rfl | rfl <;> decide
  · have h7 : l = [44] ∨ l = [59] ∨ l = [58] := by simpa [atomOk] using h
    rcases h7 with rfl | rfl | rfl <;> decide
theorem kindL_note {k : Int} {l : List UInt8} (h : atomOk k l = true) : kindL (noteL k l) = (k, l) := by
  by_cases hk : k = 1
  · subst hk
    have hw : wordL l = true := by rwa [atomOk, if_pos (by omega)] at h
    have hn : noteL 1 l = l := if_pos rfl
    rw [hn, kindL, if_pos (.inr (.inl (word_brace hw)))]
  · rw [note_inner hk, kindL, if_neg, List.tail_cons, List.dropLast_concat, kindI_inner h hk]
    have := inner_len h hk
    rintro (h1 | h1 | h1)
    · simp at h1; omega
    · exact h1 rfl
    · rw [← List.cons_append, List.getLast?_concat] at h1; exact h1 rfl

/-- A notation of a valid atom. -/
def Noted (s : List UInt8) : Prop := ∃ k l, atomOk k l = true ∧ noteL k l = s
/-- The cutset. -/
def cutset4 : List UInt8 := [123, 125, 94, 38]
/-- What the program tries. -/
def tryB (s : List UInt8) (k : Int) (l : List UInt8) : Bool := atomOk k l && decide (noteL k l = s)
def atomL (s : List UInt8) : Bool := (List.range 10).any fun i => tryB s ((i : Int) + 1) (Lib.trimS s cutset4) || tryB s ((i : Int) + 1) []

theorem trim_clean {l m r : List UInt8} (hl : ∀ c ∈ l, cutset4.contains c = true) (hr : ∀ c ∈ r, cutset4.contains c = true) (hm : ∀ c ∈ m, cutset4.contains c = false) : Lib.trimS (l ++ m ++ r) cutset4 = m := by
  have hd : ∀ (p q : List UInt8), (∀ c ∈ p, cutset4.contains c = true) → (∀ c ∈ q, cutset4.contains c = false) → (p ++ q).dropWhile (cutset4.contains ·) = q := by
    intro p q hp hq
    induction p with
    | nil =>
      cases q with
      | nil => rfl
      | cons c q => rw [List.nil_append, List.dropWhile_cons, if_neg (by rw [hq c (by simp)]; simp)]
    | cons c p ih =>
      rw [List.cons_append, List.dropWhile_cons, if_pos (hp c (by simp))]
      exact ih (fun d hd => hp d (by simp [hd]))
  by_cases hm0 : m = []
  · subst hm0
    have h1 : Lib.trimRightS (l ++ [] ++ r) cutset4 = [] := by
      unfold Lib.trimRightS
      have h := hd (l ++ [] ++ r).reverse [] (fun c hc => by
        simp at hc
        rcases hc with hc | hc
        · exact hr c hc
        · exact hl c hc) (by simp)
      rw [List.append_nil] at h
      rw [h]
      rfl
    unfold Lib.trimS
    rw [h1]
    rfl
  · have h1 : Lib.trimRightS (l ++ m ++ r) cutset4 = l ++ m := by
      unfold Lib.trimRightS
      rw [List.reverse_append, List.reverse_append]
      have hme : m.reverse ≠ [] := by simpa using hm0
      obtain ⟨c, t, hct⟩ := List.exists_cons_of_ne_nil hme
      have hc : cutset4.contains c = false := hm c (by rw [← List.mem_reverse, hct]; simp)
      have e : ∀ (p : List UInt8), (∀ d ∈ p, cutset4.contains d = true) → (p ++ (m.reverse ++ l.reverse)).dropWhile (cutset4.contains ·) = m.reverse ++ l.reverse := by
        intro p hp
        induction p with
        | nil => rw [List.nil_append, hct, List.cons_append, List.dropWhile_cons, if_neg (by rw [hc]; simp)]
        | cons d p ih =>
          rw [List.cons_append, List.dropWhile_cons, if_pos (hp d (by simp))]
          exact ih (fun x hx => hp x (by simp [hx]))
      rw [e r.reverse (fun d hd => hr d (by simpa using hd))]
      simp
    unfold Lib.trimS
    rw [h1]
    exact hd l m hl hm
theorem word_clean {l : List UInt8} (h : wordL l = true) : ∀ c ∈ l, cutset4.contains c = false := by
  intro c hc
  simp only [wordL, Bool.and_eq_true, List.all_eq_true] at h
  have hw := h.2 c hc
  cases hk : cutset4.contains c with
  | false => rfl
  | true =>
    have : signs.contains c = true := by
      simp [cutset4] at hk
      rcases hk with rfl | rfl | rfl | rfl <;> decide
    exact absurd rfl (wordC_ne hw this)
theorem trim_note {k : Int} {l : List UInt8} (h : atomOk k l = true) : Lib.trimS (noteL k l) cutset4 = l ∨ l = [] := by
  obtain ⟨r1, r2⟩ := atomOk_range h
  have hw : 1 ≤ k ∧ k ≤ 5 → ∀ c ∈ l, cutset4.contains c = false := fun hr => word_clean (by rw [atomOk, if_pos hr] at h; exact h)
  have hs : 8 ≤ k → l = [] := fun hr => by
    rw [atomOk, if_neg (by omega), if_neg (by omega), if_neg (by omega)] at h
    simp at h
    exact h.2
  rcases (show k = 1 ∨ k = 2 ∨ k = 3 ∨ k = 4 ∨ k = 5 ∨ k = 6 ∨ k = 7 ∨ 8 ≤ k by omega) with rfl | rfl | rfl | rfl | rfl | rfl | rfl | h8
  · left
    have := trim_clean (l := []) (m := l) (r := []) (by simp) (by simp) (hw (by omega))
    rw [List.nil_append, List.append_nil] at this
    exact this
  · exact .inl (trim_clean (l := [123, 94]) (m := l) (r := [125]) (by decide) (by decide) (hw (by omega)))
  · exact .inl (trim_clean (l := [123]) (m := l) (r := [94, 125]) (by decide) (by decide) (hw (by omega)))
  · exact .inl (trim_clean (l := [123, 94]) (m := l) (r := [94, 125]) (by decide) (by decide) (hw (by omega)))
  · exact .inl (trim_clean (l := [123, 38]) (m := l) (r := [125]) (by decide) (by decide) (hw (by omega)))
  · have h6 : l = [46] ∨ l = [33] ∨ l = [63] := by simpa [atomOk] using h
    left
    rcases h6 with rfl | rfl | rfl <;> decide
  · have h7 : l = [44] ∨ l = [59] ∨ l = [58] := by simpa [atomOk] using h
    left
    rcases h7 with rfl | rfl | rfl <;> decide
  · exact .inr (hs h8)
theorem tryB_noted {s : List UInt8} {k : Int} {l : List UInt8} (h : tryB s k l = true) : Noted s := by
  simp only [tryB, Bool.and_eq_true, decide_eq_true_eq] at h
  exact ⟨k, l, h.1, h.2⟩
theorem atomL_iff (s : List UInt8) : atomL s = true ↔ Noted s := by
  constructor
  · intro h
    obtain ⟨i, -, hi⟩ := List.any_eq_true.1 h
    simp only [Bool.or_eq_true] at hi
    rcases hi with hi | hi
    · exact tryB_noted hi
    · exact tryB_noted hi
  · rintro ⟨k, l, h, rfl⟩
    obtain ⟨r1, r2⟩ := atomOk_range h
    refine List.any_eq_true.2 ⟨(k - 1).toNat, by simp; omega, ?_⟩
    rw [show (((k - 1).toNat : Nat) : Int) + 1 = k by omega]
    simp only [Bool.or_eq_true, tryB, Bool.and_eq_true, decide_eq_true_eq]
    rcases trim_note h with h1 | h1
    · left; rw [h1]; exact ⟨h, rfl⟩
    · subst h1; exact .inr ⟨h, rfl⟩
/-- What the reference tries. -/
theorem atomL_kind {s : List UInt8} {k : Int} {l : List UInt8} (hk : Noted s → kindL s = (k, l)) : tryB s k l = atomL s := by
  cases h : atomL s with
  | true =>
    obtain ⟨k0, l0, h1, h2⟩ := (atomL_iff s).1 h
    have h3 := hk ⟨k0, l0, h1, h2⟩
    rw [← h2, kindL_note h1] at h3
    injection h3 with h4 h5
    subst h4 h5
    simp [tryB, h1, h2]
  | false =>
    cases h2 : tryB s k l with
    | false => rfl
    | true =>
      rw [(atomL_iff s).2 (tryB_noted h2)] at h
      cases h
end Go.Proofs.Ytfgfbnmcihjfmaa
namespace Go.Proofs.Ytfgfbnmcihjfmaa
open Go.RowKit
set_option linter.unusedVariables false

/-- A cue: its start, its end, its text. -/
abbrev CueD := Int × Int × ByteArray
def cueV (c : CueD) : List Value := [.int .i64 c.1, .int .i64 c.2.1, .string c.2.2]
def cuesV (l : List CueD) : List Value := l.flatMap cueV
theorem cuesV_length (l : List CueD) : (cuesV l).length = l.length * 3 := by
  induction l with
  | nil => rfl
  | cons c l ih => simp only [cuesV, List.flatMap_cons, List.length_append, List.length_cons] at ih ⊢; rw [ih]; simp [cueV]; omega
theorem cuesV_snoc (l : List CueD) (c : CueD) : cuesV (l ++ [c]) = cuesV l ++ cueV c := by simp [cuesV]
theorem cuesV_append (l m : List CueD) : cuesV (l ++ m) = cuesV l ++ cuesV m := by simp [cuesV]
theorem cuesV_at {l : List CueD} {k : Nat} {c : CueD} (h : l[k]? = some c) : (cuesV l)[k * 3]? = some (.int .i64 c.1) ∧ (cuesV l)[k * 3 + 1]? = some (.int .i64 c.2.1) ∧ (cuesV l)[k * 3 + 2]? = some (.string c.2.2) := by
  obtain ⟨a, b, rfl, rfl⟩ := split_at h
  have e : cuesV (a ++ c :: b) = cuesV a ++ (cueV c ++ cuesV b) := by simp [cuesV]
  have hn := cuesV_length a
  refine ⟨?_, ?_, ?_⟩
  · rw [e, List.getElem?_append_right (by omega), hn, Nat.sub_self]; rfl
  · rw [e, List.getElem?_append_right (by omega), hn, show a.length * 3 + 1 - a.length * 3 = 1 by omega]; rfl
  · rw [e, List.getElem?_append_right (by omega), hn, show a.length * 3 + 2 - a.length * 3 = 2 by omega]; rfl
/-- The k-th cue is overwritten. -/
theorem cuesV_set {l : List CueD} {k : Nat} (h : k < l.length) (c : CueD) : (((cuesV l).set (k * 3) (.int .i64 c.1)).set (k * 3 + 1) (.int .i64 c.2.1)).set (k * 3 + 2) (.string c.2.2) = cuesV (l.set k c) := by
  obtain ⟨x, hx⟩ : ∃ x, l[k]? = some x := ⟨_, List.getElem?_eq_getElem h⟩
  obtain ⟨a, b, rfl, rfl⟩ := split_at hx
  have e : cuesV (a ++ x :: b) = cuesV a ++ (cueV x ++ cuesV b) := by simp [cuesV]
  have e2 : cuesV ((a ++ x :: b).set a.length c) = cuesV a ++ (cueV c ++ cuesV b) := by rw [List.set_append_right _ _ (Nat.le_refl _)]; simp [cuesV]
  have hn := cuesV_length a
  rw [e, e2, List.set_append_right _ _ (by omega), List.set_append_right _ _ (by omega), List.set_append_right _ _ (by omega), hn, Nat.sub_self, show a.length * 3 + 1 - a.length * 3 = 1 by omega, show a.length * 3 + 2 - a.length * 3 = 2 by omega]
  rfl

/-- What a walk reads of the k-th cue. -/
theorem Reads.cue {w : World} {B b off n : Nat} {l : List CueD} {k : Nat} {c : CueD} (hc : ∀ j u, (cuesV l)[j]? = some u → w.cell? ⟨b, off + j, none⟩ = some u) (h : l[k]? = some c) :
    w.cell? ⟨b, off + k * 3, none⟩ = some (.int .i64 c.1) ∧ w.cell? ⟨b, off + k * 3 + 1, none⟩ = some (.int .i64 c.2.1) ∧ w.cell? ⟨b, off + k * 3 + 2, none⟩ = some (.string c.2.2) := by
  obtain ⟨h1, h2, h3⟩ := cuesV_at h
  exact ⟨hc _ _ h1, by rw [Nat.add_assoc]; exact hc _ _ h2, by rw [Nat.add_assoc]; exact hc _ _ h3⟩

def zeroCue : CueD := (0, 0, ⟨#[]⟩)
/-- The cells of a new row of cues. -/
theorem made_cues (n : Nat) : (madeCells #[Value.int .i64 0, .int .i64 0, .string ⟨#[]⟩] (n * 3)).toList = cuesV (List.replicate n zeroCue) := by
  apply List.ext_getElem?
  intro j
  by_cases hj : j < n * 3
  · obtain ⟨q, r, hr, rfl⟩ : ∃ q r, (r = 0 ∨ r = 1 ∨ r = 2) ∧ j = q * 3 + r := ⟨j / 3, j % 3, by omega, by omega⟩
    have hz : (List.replicate n zeroCue)[q]? = some zeroCue := by rw [List.getElem?_replicate, if_pos (by omega)]
    obtain ⟨h1, h2, h3⟩ := cuesV_at hz
    rcases hr with rfl | rfl | rfl
    · rw [Nat.add_zero, h1]
      have hm : q * 3 % 3 = 0 := by omega
      have hj' : q * 3 < n * 3 := by omega
      simp [madeCells, hj', hm, zeroCue]
    · rw [h2]
      have hm : (q * 3 + 1) % 3 = 1 := by omega
      simp [madeCells, hj, hm, zeroCue]
    · rw [h3]
      have hm : (q * 3 + 2) % 3 = 2 := by omega
      simp [madeCells, hj, hm, zeroCue]
  · rw [List.getElem?_eq_none (by simp [madeCells]; omega), List.getElem?_eq_none (by rw [cuesV_length]; simp; omega)]

/-- A row of cues that is filled from its head on. -/
def fillC (l : List CueD) (k : Nat) : List CueD := l.take k ++ List.replicate (l.length - k) zeroCue
theorem fillC_zero (l : List CueD) : fillC l 0 = List.replicate l.length zeroCue := by simp [fillC]
theorem fillC_all (l : List CueD) : fillC l l.length = l := by simp [fillC]
theorem fillC_length (l : List CueD) {k : Nat} (h : k ≤ l.length) : (fillC l k).length = l.length := by simp [fillC]; omega
theorem fillC_at (l : List CueD) {k : Nat} (h : k < l.length) : (fillC l k)[k]? = some zeroCue := by
  unfold fillC
  rw [List.getElem?_append_right (by simp; omega)]
  simp only [List.length_take]
  rw [show k - min k l.length = 0 by omega]
  simp [show 0 < l.length - k by omega]
theorem fillC_set (l : List CueD) {k : Nat} {c : CueD} (h : l[k]? = some c) : (fillC l k).set k c = fillC l (k + 1) := by
  have hk : k < l.length := (List.getElem?_eq_some_iff.1 h).1
  unfold fillC
  rw [List.set_append_right _ _ (by simp; omega)]
  simp only [List.length_take]
  rw [show k - min k l.length = 0 by omega, show l.length - k = (l.length - (k + 1)) + 1 by omega, List.replicate_succ, List.set_cons_zero, List.take_add_one, h]
  simp

/-- Three stores overwrite the k-th cue of a row. -/
theorem Own.setCue {w : World} {lo hi : Nat} {e : TypeId} {g cap n : Nat} {l : List CueD} (h : Own w lo hi e 3 (.slice (some ⟨g, 0, none⟩) n cap) n (cuesV l)) {k : Nat} (hk : k < l.length) (c : CueD) :
    Own (((w.setCell ⟨g, k * 3, none⟩ (.int .i64 c.1)).setCell ⟨g, k * 3 + 1, none⟩ (.int .i64 c.2.1)).setCell ⟨g, k * 3 + 2, none⟩ (.string c.2.2)) lo hi e 3 (.slice (some ⟨g, 0, none⟩) n cap) n (cuesV (l.set k c)) := by
  rw [← cuesV_set hk]
  exact ((h.set_ (k * 3) _).set_ (k * 3 + 1) _).set_ (k * 3 + 2) _
/-- What a walk reads of the k-th cue of an owned row. -/
theorem Own.cue {w : World} {lo hi : Nat} {e : TypeId} {g cap n : Nat} {l : List CueD} (h : Own w lo hi e 3 (.slice (some ⟨g, 0, none⟩) n cap) n (cuesV l)) {k : Nat} {c : CueD} (hk : l[k]? = some c) :
    w.cell? ⟨g, k * 3, none⟩ = some (.int .i64 c.1) ∧ w.cell? ⟨g, k * 3 + 1, none⟩ = some (.int .i64 c.2.1) ∧ w.cell? ⟨g, k * 3 + 2, none⟩ = some (.string c.2.2) := by
  have hl : (cuesV l).length = n * 3 := h.1.1
  have hkl : k < l.length := (List.getElem?_eq_some_iff.1 hk).1
  rw [cuesV_length] at hl
  obtain ⟨h1, h2, h3⟩ := cuesV_at hk
  exact ⟨(h.1.cellAt _ (by omega)).trans h1, (h.1.cellAt _ (by omega)).trans h2, (h.1.cellAt _ (by omega)).trans h3⟩
theorem Only.setCue {lo hi : Nat} {a w : World} (h : Only lo hi a w) {g : Nat} (h1 : lo ≤ g) (h2 : g < hi) (i j k : Nat) (u v x : Value) : Only lo hi a (((w.setCell ⟨g, i, none⟩ u).setCell ⟨g, j, none⟩ v).setCell ⟨g, k, none⟩ x) :=
  ((h.setCell (p := ⟨g, i, none⟩) h1 h2 u).setCell (p := ⟨g, j, none⟩) h1 h2 v).setCell (p := ⟨g, k, none⟩) h1 h2 x
theorem below_setCue {B : Nat} {a w : World} (h : Below B a w) {g : Nat} (hg : B ≤ g) (i j k : Nat) (u v x : Value) : Below B a (((w.setCell ⟨g, i, none⟩ u).setCell ⟨g, j, none⟩ v).setCell ⟨g, k, none⟩ x) :=
  ((h.setCell (p := ⟨g, i, none⟩) hg u).setCell (p := ⟨g, j, none⟩) hg v).setCell (p := ⟨g, k, none⟩) hg x
end Go.Proofs.Ytfgfbnmcihjfmaa
namespace Go.Proofs.Ytfgfbnmcihjfmaa
set_option linter.unusedVariables false

def visible (c : UInt8) : Bool := decide (32 ≤ c.toNat) && decide (c.toNat ≤ 126)
def printB (t : ByteArray) : Bool := t.data.toList.all visible
theorem print_no {t : ByteArray} {k : Nat} (h : k < t.size) (hv : visible t[k] = false) : printB t = false := by
  unfold printB
  rw [List.all_eq_false]
  exact ⟨t[k], by simp [ByteArray.getElem_eq_getElem_data], by simp [hv]⟩
theorem print_yes {t : ByteArray} (h : ∀ k (hk : k < t.size), visible t[k] = true) : printB t = true := by
  unfold printB
  rw [List.all_eq_true]
  intro c hc
  obtain ⟨k, hk, rfl⟩ := List.getElem_of_mem hc
  exact h k (by simpa using hk)
def captionB (t : ByteArray) : Bool := inB t.size 1 120 && printB t

/-- One cue is in order behind a track that ends at 'last'. -/
def okAt (last : Int) (c : CueD) : Bool := decide (last ≤ c.1) && decide (c.1 < c.2.1) && inB c.2.1 0 99999999 && captionB c.2.2
def chainB : Int → List CueD → Bool
  | _, [] => true
  | last, c :: l => okAt last c && chainB c.2.1 l
def lastOf : Int → List CueD → Int
  | a, [] => a
  | _, c :: l => lastOf c.2.1 l
def validB (l : List CueD) : Bool := decide (l.length ≤ 30) && chainB 0 l
theorem lastOf_snoc (a : Int) (l : List CueD) (c : CueD) : lastOf a (l ++ [c]) = c.2.1 := by
  induction l generalizing a with
  | nil => rfl
  | cons d l ih => exact ih _
theorem chain_append (l m : List CueD) : ∀ a : Int, chainB a (l ++ m) = (chainB a l && chainB (lastOf a l) m) := by
  induction l with
  | nil => intro a; simp [chainB, lastOf]
  | cons c l ih =>
    intro a
    simp only [List.cons_append, chainB, ih, Bool.and_assoc, lastOf]
theorem chain_take_yes {l : List CueD} {k : Nat} {c : CueD} (h : l[k]? = some c) (h1 : chainB 0 (l.take k) = true) (h2 : okAt (lastOf 0 (l.take k)) c = true) : chainB 0 (l.take (k + 1)) = true ∧ lastOf 0 (l.take (k + 1)) = c.2.1 := by
  rw [List.take_add_one, h]
  simp only [Option.toList_some]
  rw [chain_append, lastOf_snoc, h1]
  simp [chainB, h2]
theorem chain_no {l : List CueD} {k : Nat} {c : CueD} (h : l[k]? = some c) (h2 : okAt (lastOf 0 (l.take k)) c = false) : validB l = false := by
  obtain ⟨a, b, rfl, rfl⟩ := split_at h
  simp only [List.take_left] at h2
  unfold validB
  rw [chain_append]
  simp [chainB, h2]
theorem lastOf_nonneg {l : List CueD} (h : chainB 0 l = true) : 0 ≤ lastOf 0 l := by
  rcases List.eq_nil_or_concat l with rfl | ⟨m, c, rfl⟩
  · simp [lastOf]
  · rw [List.concat_eq_append] at *
    rw [lastOf_snoc]
    rw [chain_append] at h
    simp only [chainB, okAt, Bool.and_eq_true, inB_iff] at h
    omega
theorem lastOf_le {l : List CueD} (h : chainB 0 l = true) : lastOf 0 l ≤ 99999999 := by
  rcases List.eq_nil_or_concat l with rfl | ⟨m, c, rfl⟩
  · simp [lastOf]
  · rw [List.concat_eq_append] at *
    rw [lastOf_snoc]
    rw [chain_append] at h
    simp only [chainB, okAt, Bool.and_eq_true, inB_iff] at h
    omega
theorem lastOf_take {l : List CueD} {k : Nat} {c : CueD} (h : l[k]? = some c) : lastOf 0 (l.take (k + 1)) = c.2.1 := by
  rw [List.take_add_one, h]
  simp only [Option.toList_some]
  exact lastOf_snoc _ _ _
theorem okAt_of {last : Int} {c : CueD} (h1 : last ≤ c.1) (h2 : c.1 < c.2.1) (h3 : 0 ≤ c.2.1) (h4 : c.2.1 ≤ 99999999) (h5 : captionB c.2.2 = true) : okAt last c = true := by simp [okAt, h1, h2, inB_yes h3 h4, h5]
theorem okAt_no {last : Int} {c : CueD} (h : captionB c.2.2 = false ∨ ¬ (last ≤ c.1 ∧ c.1 < c.2.1 ∧ 0 ≤ c.2.1 ∧ c.2.1 ≤ 99999999)) : okAt last c = false := by
  rcases h with h | h
  · simp [okAt, h]
  · cases ho : okAt last c
    · rfl
    · simp only [okAt, Bool.and_eq_true, inB_iff, decide_eq_true_eq] at ho
      exact absurd ⟨ho.1.1.1, ho.1.1.2, ho.1.2.1, ho.1.2.2⟩ h
theorem okAt_yes {last : Int} {c : CueD} (h : okAt last c = true) : last ≤ c.1 ∧ c.1 < c.2.1 ∧ 0 ≤ c.2.1 ∧ c.2.1 ≤ 99999999 ∧ captionB c.2.2 = true := by
  simp only [okAt, Bool.and_eq_true, inB_iff, decide_eq_true_eq] at h
  exact ⟨h.1.1.1, h.1.1.2, h.1.2.1, h.1.2.2, h.2⟩
end Go.Proofs.Ytfgfbnmcihjfmaa
namespace Go.Proofs.Ytfgfbnmcihjfmaa
open Go.RowKit
set_option linter.unusedVariables false

/-- Block B is the one cell v, of type T. -/
def Box (w : World) (B : Nat) (T : TypeId) (v : Value) : Prop := w.heap[B]? = some (.cells #[v] T (0, 0))
section
variable {w w' : World} {B : Nat} {T : TypeId} {v : Value}
theorem Box.cell (h : Box w B T v) : w.cell? ⟨B, 0, none⟩ = some v := cell_of_one h
theorem Box.free (h : Box w B T v) : w.frozen? ⟨B, 0, none⟩ = false := free_of_one h
theorem Box.lt (h : Box w B T v) : B < w.heap.size := lt_of_block h
theorem Box.set_ (h : Box w B T v) (u : Value) : Box (w.setCell ⟨B, 0, none⟩ u) B T u := one_setCell h
theorem Box.only {lo hi : Nat} (h : Box w B T v) (ho : Only lo hi w w') (hd : B < lo ∨ hi ≤ B) : Box w' B T v := (ho.block B h.lt hd).trans h
theorem Box.below {lo : Nat} (h : Box w B T v) (hb : Below lo w w') (hd : B < lo) : Box w' B T v := (hb.block B hd).trans h
theorem Box.far (h : Box w B T v) (hb : Below w.heap.size w w') : Box w' B T v := (hb.block B h.lt).trans h
theorem Box.drew (h : Box w B T v) : Box w.drew B T v := h
theorem Box.drewN (h : Box w B T v) (n : Nat) : Box (w.drewN n) B T v := h
theorem Box.grown {row : Option Nat} (h : Box w B T v) (hg : w.grownBy w' row) (hne : row ≠ some B) : Box w' B T v := (hg.block B h.lt (fun e => hne e.symm)).trans h
theorem Box.alloc (h : Box w B T v) (o : Obj) : Box (w.alloc o) B T v := h.grown (World.grownBy_alloc w o none) (by simp)
theorem Box.new (w : World) (T : TypeId) (v : Value) : Box (w.alloc (.cells #[v] T)) w.heap.size T v := by
  show (w.heap.push _)[w.heap.size]? = _
  exact Array.getElem?_push_size
theorem Box.setOther (h : Box w B T v) {a : Addr} (ha : a.block ≠ B) (u : Value) : Box (w.setCell a u) B T v := (Below.heap_setCell _ _ _ _ (fun e => ha e.symm)).trans h
/-- A row lies in another block than a box of another type. -/
theorem Box.ne_own {base n size : Nat} {e : TypeId} {x : Value} {xs : List Value} (h : Box w B T v) (ho : w.ownsRow base e size x n xs) (hT : T ≠ e) : x.ownBlock ≠ some B := by
  rcases ho.2 with ⟨rfl, _⟩ | ⟨g, cap, cur, rfl, _, hh, _⟩
  · simp [Value.ownBlock]
  · intro he
    simp only [Value.ownBlock, Option.some.injEq] at he
    subst he
    unfold Box at h
    rw [h] at hh
    injection hh with hh
    injection hh with h1 h2
    exact hT h2
end

section
variable {P : Program}
/-- 'append(out, x)', with the frame told block by block. -/
theorem wpList_append_cellsG {wr : World} {v : Value} {n size : Nat} {xs : List Value} {base : Nat} {e : TypeId} (hown : wr.ownsRow base e size v n xs) (hbase : base ≤ wr.heap.size)
    (s x : Operand) (t : TypeId) {z : Value} {bytes : Nat} (ht : P.underlying t = some (.slice e)) (hi : (P.info? e).map (fun i => (i.zero, i.size, i.bytes)) = some (some z, size, bytes))
    (hbytes : (n + 1) * bytes ≤ 140737488355328) (hb : n + 1 ≤ maxLen)
    {ops : Array Oper} {rest : List Oper} {o : Oper} {a : Act} {Q : Exit → Act → World → Prop} {ys : List Value} {g : Nat}
    (hh : o.guard = none ∧ o.op = .call { callee := .builtin .append, args := #[s, x], argTypes := #[t, t] } ∧ a.eval s = v ∧ a.eval x = .slice (some ⟨g, 0, none⟩) 1 1 ∧ (∀ y ∈ ys, y.oneCell' = true) ∧ z.cells.size = size ∧ ys.length = size ∧ 0 < size)
    (hg : g = wr.heap.size)
    (h : ∀ v' w', w'.ownsRow base e size v' (n + 1) (xs ++ ys) → wr.grownBy w' v.ownBlock → wpList P ops Q rest (a.put o.dst v') w') :
    wpList P ops Q (o :: rest) a (wr.alloc (.cells ys.toArray e)) := by
  obtain ⟨i, hi, hz0, hz1, hz2⟩ := info_parts hi
  obtain ⟨hgd, ho, hs, hx, h1, hzs, hyl, hpos⟩ := hh
  subst hg
  refine wpList_append_own _ hgd s x t ho base e i z size bytes ht hi hz0 hz1 hz2 hzs hpos v n xs hs (hown.alloc _) ⟨wr.heap.size, 0, none⟩ 1 1 ys hx (by omega) (fun j u hj => ?_) h1 hb hbytes (by simp; omega) ?_
  · have h0 : (⟨wr.heap.size, 0, none⟩ : Addr).add j = ⟨wr.heap.size, j, none⟩ := by unfold Addr.add; split <;> simp_all
    rw [h0, World.cell?_alloc_mark]
    simpa using hj
  intro v' w' hown' hgrow hnil
  exact h v' w' hown' ((World.grownBy_alloc wr _ _).trans hgrow)
theorem wpList_append_twoG {wr : World} {v : Value} {n : Nat} {xs : List Value} {base : Nat} {e : TypeId} (hown : wr.ownsRow base e 2 v n xs) (hbase : base ≤ wr.heap.size)
    (s x : Operand) (t : TypeId) {z : Value} {bytes : Nat} (ht : P.underlying t = some (.slice e)) (hi : (P.info? e).map (fun i => (i.zero, i.size, i.bytes)) = some (some z, 2, bytes))
    (hbytes : (n + 1) * bytes ≤ 140737488355328) (hb : n + 1 ≤ maxLen)
    {ops : Array Oper} {rest : List Oper} {o : Oper} {a : Act} {Q : Exit → Act → World → Prop} {y0 y1 : Value} {g : Nat}
    (hh : o.guard = none ∧ o.op = .call { callee := .builtin .append, args := #[s, x], argTypes := #[t, t] } ∧ a.eval s = v ∧ a.eval x = .slice (some ⟨g, 0, none⟩) 1 1 ∧ y0.oneCell' = true ∧ y1.oneCell' = true ∧ z.cells.size = 2)
    (hg : g = wr.heap.size)
    (h : ∀ v' w', w'.ownsRow base e 2 v' (n + 1) (xs ++ [y0, y1]) → wr.grownBy w' v.ownBlock → wpList P ops Q rest (a.put o.dst v') w') :
    wpList P ops Q (o :: rest) a (wr.alloc (.cells #[y0, y1] e)) :=
  wpList_append_cellsG hown hbase s x t ht hi hbytes hb ⟨hh.1, hh.2.1, hh.2.2.1, hh.2.2.2.1, by simp [hh.2.2.2.2.1, hh.2.2.2.2.2.1], hh.2.2.2.2.2.2, rfl, by decide⟩ hg h
theorem below_grown {B : Nat} {a w w' : World} {row : Option Nat} (h : Below B a w) (hg : w.grownBy w' row) (hB : B ≤ w.heap.size) {base n size : Nat} {e : TypeId} {v : Value} {xs : List Value} (ho : w.ownsRow base e size v n xs) (hr : row = v.ownBlock) (hb : B ≤ base) : Below B a w' :=
  h.grown hg hB (fun k hk => Nat.le_trans hb (ho.lt k (hr ▸ hk)).1)
end
end Go.Proofs.Ytfgfbnmcihjfmaa
namespace Go.Proofs.Ytfgfbnmcihjfmaa
open Go.RowKit
set_option linter.unusedVariables false

section
variable {P : Program}
theorem wpList_append_at {wr : World} {v : Value} {n size : Nat} {xs : List Value} {base : Nat} {e : TypeId} (hown : wr.ownsRow base e size v n xs) (hbase : base ≤ wr.heap.size)
    (s x : Operand) (t : TypeId) {z : Value} {bytes : Nat} (ht : P.underlying t = some (.slice e)) (hi : (P.info? e).map (fun i => (i.zero, i.size, i.bytes)) = some (some z, size, bytes))
    (hbytes : (n + 1) * bytes ≤ 140737488355328) (hb : n + 1 ≤ maxLen)
    {ops : Array Oper} {rest : List Oper} {o : Oper} {a : Act} {Q : Exit → Act → World → Prop} {ys : List Value} {g : Nat}
    (hh : o.guard = none ∧ o.op = .call { callee := .builtin .append, args := #[s, x], argTypes := #[t, t] } ∧ a.eval s = v ∧ a.eval x = .slice (some ⟨g, 0, none⟩) 1 1 ∧ (∀ y ∈ ys, y.oneCell' = true) ∧ z.cells.size = size ∧ ys.length = size ∧ 0 < size)
    (hg : g = wr.heap.size)
    (h : ∀ v' w', w'.ownsRow base e size v' (n + 1) (xs ++ ys) → wr.grownBy w' v.ownBlock → (v'.ownBlock = v.ownBlock ∨ ∃ g', v'.ownBlock = some g' ∧ wr.heap.size ≤ g') → wpList P ops Q rest (a.put o.dst v') w') :
    wpList P ops Q (o :: rest) a (wr.alloc (.cells ys.toArray e)) := by
  obtain ⟨i, hi, hz0, hz1, hz2⟩ := info_parts hi
  obtain ⟨hgd, ho, hs, hx, h1, hzs, hyl, hpos⟩ := hh
  subst hg
  refine wpList_append_own_at _ hgd s x t ho base e i z size bytes ht hi hz0 hz1 hz2 hzs hpos v n xs hs (hown.alloc _) ⟨wr.heap.size, 0, none⟩ 1 1 ys hx (by omega) (fun j u hj => ?_) h1 hb hbytes (by simp; omega) ?_
  · have h0 : (⟨wr.heap.size, 0, none⟩ : Addr).add j = ⟨wr.heap.size, j, none⟩ := by unfold Addr.add; split <;> simp_all
    rw [h0, World.cell?_alloc_mark]
    simpa using hj
  intro v' w' hown' hgrow hnil hat
  refine h v' w' hown' ((World.grownBy_alloc wr _ _).trans hgrow) ?_
  rcases hat with h | h
  · exact .inl h
  · exact .inr ⟨_, h, by simp⟩
theorem wpList_append_srcE {wr : World} {v : Value} {n size : Nat} {xs : List Value} {base : Nat} {e : TypeId} (hown : wr.ownsRow base e size v n xs) (hbase : base ≤ wr.heap.size)
    {A A' : Option Addr} {m m' c B : Nat} {news : List Value} (hr : Reads wr B size A m news) (h1 : ∀ u ∈ news, u.oneCell' = true)
    (s x : Operand) (t : TypeId) {z : Value} {bytes : Nat} (ht : P.underlying t = some (.slice e)) (hi : (P.info? e).map (fun i => (i.zero, i.size, i.bytes)) = some (some z, size, bytes))
    (hbytes : (n + m) * bytes ≤ 140737488355328) (hb : n + m ≤ maxLen)
    {ops : Array Oper} {rest : List Oper} {o : Oper} {a : Act} {Q : Exit → Act → World → Prop}
    (hh : o.guard = none ∧ o.op = .call { callee := .builtin .append, args := #[s, x], argTypes := #[t, t] } ∧ a.eval s = v ∧ a.eval x = .slice A' m' c ∧ z.cells.size = size ∧ 0 < size)
    (hA : (A' = A ∧ m' = m) ∨ (m = 0 ∧ m' = 0))
    (h : ∀ v' w', w'.ownsRow base e size v' (n + m) (xs ++ news) → Below base wr w' → wpList P ops Q rest (a.put o.dst v') w') :
    wpList P ops Q (o :: rest) a wr := by
  rcases hA with ⟨rfl, rfl⟩ | ⟨rfl, rfl⟩
  · exact wpList_append_src hown hbase hr h1 s x t ht hi hbytes hb hh h
  · have h0 : news = [] := List.eq_nil_of_length_eq_zero (by simpa using hr.1)
    subst h0
    exact wpList_append_src hown hbase (A := A') (B := B) ⟨by simp, fun h => absurd h (Nat.not_lt_zero _)⟩ h1 s x t ht hi hbytes hb hh h
theorem wpList_append_oneA {wr : World} {v : Value} {n : Nat} {xs : List Value} {base : Nat} {e : TypeId} (hown : wr.ownsRow base e 1 v n xs) (hbase : base ≤ wr.heap.size)
    (s x : Operand) (t : TypeId) {z : Value} {bytes : Nat} (ht : P.underlying t = some (.slice e)) (hi : (P.info? e).map (fun i => (i.zero, i.size, i.bytes)) = some (some z, 1, bytes))
    (hbytes : (n + 1) * bytes ≤ 140737488355328) (hb : n + 1 ≤ maxLen)
    {ops : Array Oper} {rest : List Oper} {o : Oper} {a : Act} {Q : Exit → Act → World → Prop} {y : Value} {g : Nat}
    (hh : o.guard = none ∧ o.op = .call { callee := .builtin .append, args := #[s, x], argTypes := #[t, t] } ∧ a.eval s = v ∧ a.eval x = .slice (some ⟨g, 0, none⟩) 1 1 ∧ y.oneCell' = true ∧ z.cells.size = 1)
    (hg : g = wr.heap.size)
    (h : ∀ v' w', w'.ownsRow base e 1 v' (n + 1) (xs ++ [y]) → wr.grownBy w' v.ownBlock → (v'.ownBlock = v.ownBlock ∨ ∃ g', v'.ownBlock = some g' ∧ wr.heap.size ≤ g') → wpList P ops Q rest (a.put o.dst v') w') :
    wpList P ops Q (o :: rest) a (wr.alloc (.cells #[y] e)) :=
  wpList_append_at hown hbase s x t ht hi hbytes hb ⟨hh.1, hh.2.1, hh.2.2.1, hh.2.2.2.1, by simpa using hh.2.2.2.2.1, hh.2.2.2.2.2, rfl, by decide⟩ hg h
end
/-- A row that does not lie in block g does not come to lie there. -/
theorem apart_next {v v' : Value} {g n : Nat} (h : v.ownBlock ≠ some g) (hg : g < n) (hat : v'.ownBlock = v.ownBlock ∨ ∃ g', v'.ownBlock = some g' ∧ n ≤ g') : v'.ownBlock ≠ some g := by
  rcases hat with h1 | ⟨g', h1, h2⟩
  · rw [h1]; exact h
  · rw [h1]; intro h3; injection h3; omega
/-- A row of the call's own behind a call that leaves old memory as it is. -/
theorem row_below {w w' : World} {base n size : Nat} {e : TypeId} {v : Value} {xs : List Value} (h : w.ownsRow base e size v n xs) (hb : Below w.heap.size w w') : w'.ownsRow base e size v n xs := ((Own.of_row h).below hb).1
theorem str_nonempty {x : ByteArray} (h : ¬ x = ⟨#[]⟩) : (!x.toList.isEmpty) = true ∧ x.toList.isEmpty = false ∧ ¬ x.toList = [] := by
  have h1 : ¬ x.toList = [] := by
    intro h2
    rw [ByteArray.toList_eq] at h2
    obtain ⟨⟨l⟩⟩ := x
    exact h (by cases l with | nil => rfl | cons a l => cases h2)
  refine ⟨?_, ?_, h1⟩ <;> cases hx : x.toList <;> simp_all
theorem str_other {x y : ByteArray} (h : ¬ x = y) : (x.toList == y.toList) = false := by rw [str_beq]; exact decide_eq_false h
end Go.Proofs.Ytfgfbnmcihjfmaa
namespace Go.Proofs.Ytfgfbnmcihjfmaa
open Go.RowKit
set_option linter.unusedVariables false

def flat2 (ps : List (Value × Value)) : List Value := ps.flatMap fun p => [p.1, p.2]
theorem flat2_length (ps : List (Value × Value)) : (flat2 ps).length = ps.length * 2 := by
  induction ps with
  | nil => rfl
  | cons p ps ih => simp only [flat2, List.flatMap_cons, List.length_append, List.length_cons, List.length_nil] at *; omega
theorem flat2_snoc (ps : List (Value × Value)) (p : Value × Value) : flat2 (ps ++ [p]) = flat2 ps ++ [p.1, p.2] := by simp [flat2]
theorem flat2_at {ps : List (Value × Value)} {k : Nat} {p : Value × Value} (h : ps[k]? = some p) : (flat2 ps)[k * 2]? = some p.1 ∧ (flat2 ps)[k * 2 + 1]? = some p.2 := by
  obtain ⟨a, b, rfl, rfl⟩ := split_at h
  have e : flat2 (a ++ p :: b) = flat2 a ++ ([p.1, p.2] ++ flat2 b) := by simp [flat2]
  have hn := flat2_length a
  refine ⟨?_, ?_⟩
  · rw [e, List.getElem?_append_right (by omega), hn, Nat.sub_self]; rfl
  · rw [e, List.getElem?_append_right (by omega), hn, show a.length * 2 + 1 - a.length * 2 = 1 by omega]; rfl
theorem flat2_set {ps : List (Value × Value)} {k : Nat} (h : k < ps.length) (p : Value × Value) : ((flat2 ps).set (k * 2) p.1).set (k * 2 + 1) p.2 = flat2 (ps.set k p) := by
  obtain ⟨x, hx⟩ : ∃ x, ps[k]? = some x := ⟨_, List.getElem?_eq_getElem h⟩
  obtain ⟨a, b, rfl, rfl⟩ := split_at hx
  have e : flat2 (a ++ x :: b) = flat2 a ++ ([x.1, x.2] ++ flat2 b) := by simp [flat2]
  have e2 : flat2 ((a ++ x :: b).set a.length p) = flat2 a ++ ([p.1, p.2] ++ flat2 b) := by rw [List.set_append_right _ _ (Nat.le_refl _)]; simp [flat2]
  have hn := flat2_length a
  rw [e, e2, List.set_append_right _ _ (by omega), List.set_append_right _ _ (by omega), hn, Nat.sub_self, show a.length * 2 + 1 - a.length * 2 = 1 by omega]
  rfl
theorem flat2_set2 {ps : List (Value × Value)} {k : Nat} {u v : Value} (h : ps[k]? = some (u, v)) (x : Value) : (flat2 ps).set (k * 2 + 1) x = flat2 (ps.set k (u, x)) := by
  have hk := (List.getElem?_eq_some_iff.1 h).1
  rw [← flat2_set hk (u, x)]
  have hs : (flat2 ps).set (k * 2) u = flat2 ps := by
    have h1 := (flat2_at h).1
    obtain ⟨h2, h3⟩ := List.getElem?_eq_some_iff.1 h1
    simp only at h3
    rw [← h3]
    exact List.set_getElem_self h2
  simp only [hs]
theorem made_flat2 (u v : Value) (n : Nat) : (madeCells #[u, v] (n * 2)).toList = flat2 (List.replicate n (u, v)) := by
  apply List.ext_getElem?
  intro j
  by_cases hj : j < n * 2
  · obtain ⟨q, r, hr, rfl⟩ : ∃ q r, (r = 0 ∨ r = 1) ∧ j = q * 2 + r := ⟨j / 2, j % 2, by omega, by omega⟩
    have hz : (List.replicate n (u, v))[q]? = some (u, v) := by rw [List.getElem?_replicate, if_pos (by omega)]
    obtain ⟨h1, h2⟩ := flat2_at hz
    rcases hr with rfl | rfl
    · rw [Nat.add_zero, h1]
      have hm : q * 2 % 2 = 0 := by omega
      have hj' : q * 2 < n * 2 := by omega
      simp [madeCells, hj', hm]
    · rw [h2]
      have hm : (q * 2 + 1) % 2 = 1 := by omega
      simp [madeCells, hj, hm]
  · rw [List.getElem?_eq_none (by simp [madeCells]; omega), List.getElem?_eq_none (by rw [flat2_length]; simp; omega)]
/-- A row that is filled from its head on. -/
def fillP (ps : List (Value × Value)) (z : Value × Value) (n : Nat) : List (Value × Value) := ps ++ List.replicate (n - ps.length) z
theorem fillP_length {ps : List (Value × Value)} {n : Nat} (h : ps.length ≤ n) (z : Value × Value) : (fillP ps z n).length = n := by simp [fillP]; omega
theorem fillP_at {ps : List (Value × Value)} {n : Nat} (h : ps.length < n) (z : Value × Value) : (fillP ps z n)[ps.length]? = some z := by
  unfold fillP
  rw [List.getElem?_append_right (Nat.le_refl _), Nat.sub_self]
  simp [show 0 < n - ps.length by omega]
theorem fillP_set {ps : List (Value × Value)} {n : Nat} (h : ps.length < n) (z p : Value × Value) : (fillP ps z n).set ps.length p = fillP (ps ++ [p]) z n := by
  unfold fillP
  rw [List.set_append_right _ _ (Nat.le_refl _), Nat.sub_self, show n - ps.length = (n - (ps ++ [p]).length) + 1 by simp; omega, List.replicate_succ, List.set_cons_zero]
  simp
theorem fillP_all {ps : List (Value × Value)} {n : Nat} (h : ps.length = n) (z : Value × Value) : fillP ps z n = ps := by simp [fillP, h]
section
variable {w : World} {lo hi : Nat} {e : TypeId} {g cap n : Nat} {ps : List (Value × Value)} {A : Option Addr}
theorem Own.setPair (h : Own w lo hi e 2 (.slice (some ⟨g, 0, none⟩) n cap) n (flat2 ps)) {k : Nat} (hk : k < ps.length) (p : Value × Value) :
    Own ((w.setCell ⟨g, k * 2, none⟩ p.1).setCell ⟨g, k * 2 + 1, none⟩ p.2) lo hi e 2 (.slice (some ⟨g, 0, none⟩) n cap) n (flat2 (ps.set k p)) := by
  rw [← flat2_set hk]
  exact (h.set_ (k * 2) _).set_ (k * 2 + 1) _
theorem Own.pair (h : Own w lo hi e 2 (.slice (some ⟨g, 0, none⟩) n cap) n (flat2 ps)) {k : Nat} {p : Value × Value} (hk : ps[k]? = some p) :
    w.cell? ⟨g, k * 2, none⟩ = some p.1 ∧ w.cell? ⟨g, k * 2 + 1, none⟩ = some p.2 := by
  have hl : (flat2 ps).length = n * 2 := h.1.1
  have hkl : k < ps.length := (List.getElem?_eq_some_iff.1 hk).1
  rw [flat2_length] at hl
  obtain ⟨h1, h2⟩ := flat2_at hk
  exact ⟨(h.1.cellAt _ (by omega)).trans h1, (h.1.cellAt _ (by omega)).trans h2⟩
theorem below_setPair {B : Nat} {a w : World} (h : Below B a w) {g : Nat} (hg : B ≤ g) (i j : Nat) (u v : Value) : Below B a ((w.setCell ⟨g, i, none⟩ u).setCell ⟨g, j, none⟩ v) :=
  (h.setCell (p := ⟨g, i, none⟩) hg u).setCell (p := ⟨g, j, none⟩) hg v
theorem flat2_reads {B b off : Nat} (hc : ∀ j u, (flat2 ps)[j]? = some u → w.cell? ⟨b, off + j, none⟩ = some u) {k : Nat} {p : Value × Value} (h : ps[k]? = some p) :
    w.cell? ⟨b, off + k * 2, none⟩ = some p.1 ∧ w.cell? ⟨b, off + k * 2 + 1, none⟩ = some p.2 := by
  obtain ⟨h1, h2⟩ := flat2_at h
  exact ⟨hc _ _ h1, by rw [Nat.add_assoc]; exact hc _ _ h2⟩
end
end Go.Proofs.Ytfgfbnmcihjfmaa
namespace Go.Proofs.Ytfgfbnmcihjfmaa
open Go.RowKit
set_option linter.unusedVariables false

theorem held1_step {w wx w1 : World} {p0 : Addr} {u0 : Value} (h0 : p0.block < w.heap.size) (h : wx.cell? p0 = some u0 ∧ Below w.heap.size w wx) (hb : Below wx.heap.size wx w1) : w1.cell? p0 = some u0 ∧ Below w.heap.size w w1 :=
  ⟨(hb.cell (Nat.lt_of_lt_of_le h0 h.2.size)).trans h.1, h.2.trans (hb.mono h.2.size)⟩
theorem held1_drew {w wx : World} {p0 : Addr} {u0 : Value} (h : wx.cell? p0 = some u0 ∧ Below w.heap.size w wx) : wx.drew.cell? p0 = some u0 ∧ Below w.heap.size w wx.drew := ⟨h.1, h.2.drew⟩
theorem held1_below {w wx : World} {p0 : Addr} {u0 : Value} (h : wx.cell? p0 = some u0 ∧ Below w.heap.size w wx) : Below w.heap.size w wx := h.2
theorem held2_step {w wx w1 : World} {p0 p1 : Addr} {u0 u1 : Value} (h0 : p0.block < w.heap.size) (h1 : p1.block < w.heap.size) (h : wx.cell? p0 = some u0 ∧ wx.cell? p1 = some u1 ∧ Below w.heap.size w wx) (hb : Below wx.heap.size wx w1) : w1.cell? p0 = some u0 ∧ w1.cell? p1 = some u1 ∧ Below w.heap.size w w1 :=
  ⟨(hb.cell (Nat.lt_of_lt_of_le h0 h.2.2.size)).trans h.1, (hb.cell (Nat.lt_of_lt_of_le h1 h.2.2.size)).trans h.2.1, h.2.2.trans (hb.mono h.2.2.size)⟩
theorem held2_drew {w wx : World} {p0 p1 : Addr} {u0 u1 : Value} (h : wx.cell? p0 = some u0 ∧ wx.cell? p1 = some u1 ∧ Below w.heap.size w wx) : wx.drew.cell? p0 = some u0 ∧ wx.drew.cell? p1 = some u1 ∧ Below w.heap.size w wx.drew := ⟨h.1, h.2.1, h.2.2.drew⟩
theorem held2_below {w wx : World} {p0 p1 : Addr} {u0 u1 : Value} (h : wx.cell? p0 = some u0 ∧ wx.cell? p1 = some u1 ∧ Below w.heap.size w wx) : Below w.heap.size w wx := h.2.2
theorem held3_step {w wx w1 : World} {p0 p1 p2 : Addr} {u0 u1 u2 : Value} (h0 : p0.block < w.heap.size) (h1 : p1.block < w.heap.size) (h2 : p2.block < w.heap.size) (h : wx.cell? p0 = some u0 ∧ wx.cell? p1 = some u1 ∧ wx.cell? p2 = some u2 ∧ Below w.heap.size w wx) (hb : Below wx.heap.size wx w1) : w1.cell? p0 = some u0 ∧ w1.cell? p1 = some u1 ∧ w1.cell? p2 = some u2 ∧ Below w.heap.size w w1 :=
  ⟨(hb.cell (Nat.lt_of_lt_of_le h0 h.2.2.2.size)).trans h.1, (hb.cell (Nat.lt_of_lt_of_le h1 h.2.2.2.size)).trans h.2.1, (hb.cell (Nat.lt_of_lt_of_le h2 h.2.2.2.size)).trans h.2.2.1, h.2.2.2.trans (hb.mono h.2.2.2.size)⟩
theorem held3_drew {w wx : World} {p0 p1 p2 : Addr} {u0 u1 u2 : Value} (h : wx.cell? p0 = some u0 ∧ wx.cell? p1 = some u1 ∧ wx.cell? p2 = some u2 ∧ Below w.heap.size w wx) : wx.drew.cell? p0 = some u0 ∧ wx.drew.cell? p1 = some u1 ∧ wx.drew.cell? p2 = some u2 ∧ Below w.heap.size w wx.drew := ⟨h.1, h.2.1, h.2.2.1, h.2.2.2.drew⟩
theorem held3_below {w wx : World} {p0 p1 p2 : Addr} {u0 u1 u2 : Value} (h : wx.cell? p0 = some u0 ∧ wx.cell? p1 = some u1 ∧ wx.cell? p2 = some u2 ∧ Below w.heap.size w wx) : Below w.heap.size w wx := h.2.2.2
theorem held4_step {w wx w1 : World} {p0 p1 p2 p3 : Addr} {u0 u1 u2 u3 : Value} (h0 : p0.block < w.heap.size) (h1 : p1.block < w.heap.size) (h2 : p2.block < w.heap.size) (h3 : p3.block < w.heap.size) (h : wx.cell? p0 = some u0 ∧ wx.cell? p1 = some u1 ∧ wx.cell? p2 = some u2 ∧ wx.cell? p3 = some u3 ∧ Below w.heap.size w wx) (hb : Below wx.heap.size wx w1) : w1.cell? p0 = some u0 ∧ w1.cell? p1 = some u1 ∧ w1.cell? p2 = some u2 ∧ w1.cell? p3 = some u3 ∧ Below w.heap.size w w1 :=
  ⟨(hb.cell (Nat.lt_of_lt_of_le h0 h.2.2.2.2.size)).trans h.1, (hb.cell (Nat.lt_of_lt_of_le h1 h.2.2.2.2.size)).trans h.2.1, (hb.cell (Nat.lt_of_lt_of_le h2 h.2.2.2.2.size)).trans h.2.2.1, (hb.cell (Nat.lt_of_lt_of_le h3 h.2.2.2.2.size)).trans h.2.2.2.1, h.2.2.2.2.trans (hb.mono h.2.2.2.2.size)⟩
theorem held4_drew {w wx : World} {p0 p1 p2 p3 : Addr} {u0 u1 u2 u3 : Value} (h : wx.cell? p0 = some u0 ∧ wx.cell? p1 = some u1 ∧ wx.cell? p2 = some u2 ∧ wx.cell? p3 = some u3 ∧ Below w.heap.size w wx) : wx.drew.cell? p0 = some u0 ∧ wx.drew.cell? p1 = some u1 ∧ wx.drew.cell? p2 = some u2 ∧ wx.drew.cell? p3 = some u3 ∧ Below w.heap.size w wx.drew := ⟨h.1, h.2.1, h.2.2.1, h.2.2.2.1, h.2.2.2.2.drew⟩
theorem held4_below {w wx : World} {p0 p1 p2 p3 : Addr} {u0 u1 u2 u3 : Value} (h : wx.cell? p0 = some u0 ∧ wx.cell? p1 = some u1 ∧ wx.cell? p2 = some u2 ∧ wx.cell? p3 = some u3 ∧ Below w.heap.size w wx) : Below w.heap.size w wx := h.2.2.2.2
theorem held5_step {w wx w1 : World} {p0 p1 p2 p3 p4 : Addr} {u0 u1 u2 u3 u4 : Value} (h0 : p0.block < w.heap.size) (h1 : p1.block < w.heap.size) (h2 : p2.block < w.heap.size) (h3 : p3.block < w.heap.size) (h4 : p4.block < w.heap.size) (h : wx.cell? p0 = some u0 ∧ wx.cell? p1 = some u1 ∧ wx.cell? p2 = some u2 ∧ wx.cell? p3 = some u3 ∧ wx.cell? p4 = some u4 ∧ Below w.heap.size w wx) (hb : Below wx.heap.size wx w1) : w1.cell? p0 = some u0 ∧ w1.cell? p1 = some u1 ∧ w1.cell? p2 = some u2 ∧ w1.cell? p3 = some u3 ∧ w1.cell? p4 = some u4 ∧ Below w.heap.size w w1 :=
  ⟨(hb.cell (Nat.lt_of_lt_of_le h0 h.2.2.2.2.2.size)).trans h.1, (hb.cell (Nat.lt_of_lt_of_le h1 h.2.2.2.2.2.size)).trans h.2.1, (hb.cell (Nat.lt_of_lt_of_le h2 h.2.2.2.2.2.size)).trans h.2.2.1, (hb.cell (Nat.lt_of_lt_of_le h3 h.2.2.2.2.2.size)).trans h.2.2.2.1, (hb.cell (Nat.lt_of_lt_of_le h4 h.2.2.2.2.2.size)).trans h.2.2.2.2.1, h.2.2.2.2.2.trans (hb.mono h.2.2.2.2.2.size)⟩
theorem held5_drew {w wx : World} {p0 p1 p2 p3 p4 : Addr} {u0 u1 u2 u3 u4 : Value} (h : wx.cell? p0 = some u0 ∧ wx.cell? p1 = some u1 ∧ wx.cell? p2 = some u2 ∧ wx.cell? p3 = some u3 ∧ wx.cell? p4 = some u4 ∧ Below w.heap.size w wx) : wx.drew.cell? p0 = some u0 ∧ wx.drew.cell? p1 = some u1 ∧ wx.drew.cell? p2 = some u2 ∧ wx.drew.cell? p3 = some u3 ∧ wx.drew.cell? p4 = some u4 ∧ Below w.heap.size w wx.drew := ⟨h.1, h.2.1, h.2.2.1, h.2.2.2.1, h.2.2.2.2.1, h.2.2.2.2.2.drew⟩
theorem held5_below {w wx : World} {p0 p1 p2 p3 p4 : Addr} {u0 u1 u2 u3 u4 : Value} (h : wx.cell? p0 = some u0 ∧ wx.cell? p1 = some u1 ∧ wx.cell? p2 = some u2 ∧ wx.cell? p3 = some u3 ∧ wx.cell? p4 = some u4 ∧ Below w.heap.size w wx) : Below w.heap.size w wx := h.2.2.2.2.2
theorem held6_step {w wx w1 : World} {p0 p1 p2 p3 p4 p5 : Addr} {u0 u1 u2 u3 u4 u5 : Value} (h0 : p0.block < w.heap.size) (h1 : p1.block < w.heap.size) (h2 : p2.block < w.heap.size) (h3 : p3.block < w.heap.size) (h4 : p4.block < w.heap.size) (h5 : p5.block < w.heap.size) (h : wx.cell? p0 = some u0 ∧ wx.cell? p1 = some u1 ∧ wx.cell? p2 = some u2 ∧ wx.cell? p3 = some u3 ∧ wx.cell? p4 = some u4 ∧ wx.cell? p5 = some u5 ∧ Below w.heap.size w wx) (hb : Below wx.heap.size wx w1) : w1.cell? p0 = some u0 ∧ w1.cell? p1 = some u1 ∧ w1.cell? p2 = some u2 ∧ w1.cell? p3 = some u3 ∧ w1.cell? p4 = some u4 ∧ w1.cell? p5 = some u5 ∧ Below w.heap.size w w1 :=
  ⟨(hb.cell (Nat.lt_of_lt_of_le h0 h.2.2.2.2.2.2.size)).trans h.1, (hb.cell (Nat.lt_of_lt_of_le h1 h.2.2.2.2.2.2.size)).trans h.2.1, (hb.cell (Nat.lt_of_lt_of_le h2 h.2.2.2.2.2.2.size)).trans h.2.2.1, (hb.cell (Nat.lt_of_lt_of_le h3 h.2.2.2.2.2.2.size)).trans h.2.2.2.1, (hb.cell (Nat.lt_of_lt_of_le h4 h.2.2.2.2.2.2.size)).trans h.2.2.2.2.1, (hb.cell (Nat.lt_of_lt_of_le h5 h.2.2.2.2.2.2.size)).trans h.2.2.2.2.2.1, h.2.2.2.2.2.2.trans (hb.mono h.2.2.2.2.2.2.size)⟩
theorem held6_drew {w wx : World} {p0 p1 p2 p3 p4 p5 : Addr} {u0 u1 u2 u3 u4 u5 : Value} (h : wx.cell? p0 = some u0 ∧ wx.cell? p1 = some u1 ∧ wx.cell? p2 = some u2 ∧ wx.cell? p3 = some u3 ∧ wx.cell? p4 = some u4 ∧ wx.cell? p5 = some u5 ∧ Below w.heap.size w wx) : wx.drew.cell? p0 = some u0 ∧ wx.drew.cell? p1 = some u1 ∧ wx.drew.cell? p2 = some u2 ∧ wx.drew.cell? p3 = some u3 ∧ wx.drew.cell? p4 = some u4 ∧ wx.drew.cell? p5 = some u5 ∧ Below w.heap.size w wx.drew := ⟨h.1, h.2.1, h.2.2.1, h.2.2.2.1, h.2.2.2.2.1, h.2.2.2.2.2.1, h.2.2.2.2.2.2.drew⟩
theorem held6_below {w wx : World} {p0 p1 p2 p3 p4 p5 : Addr} {u0 u1 u2 u3 u4 u5 : Value} (h : wx.cell? p0 = some u0 ∧ wx.cell? p1 = some u1 ∧ wx.cell? p2 = some u2 ∧ wx.cell? p3 = some u3 ∧ wx.cell? p4 = some u4 ∧ wx.cell? p5 = some u5 ∧ Below w.heap.size w wx) : Below w.heap.size w wx := h.2.2.2.2.2.2
end Go.Proofs.Ytfgfbnmcihjfmaa
namespace Go.Proofs.Ytfgfbnmcihjfmaa
open Go.ChangeShapes Go.WideShapes Go.Deep
set_option linter.unusedVariables false

section
variable {H : Type} {enc : TypeId × Value → H} {P : Program} {w : World}
/-- The fields of one struct value. -/
theorem fields_of {e : TypeId} {fs : Array Field} {fuel : Nat} {cs : List Value} {x : DataW H × List MemPlace} (he : P.underlying e = some (.struct fs)) (hone : oneCellFields P fs = true) (hC : P.cellsOf e = fs.size)
    (h : DataW.trod enc P w 0 (fun _ => true) true fuel e cs = some x) :
    cs.length = fs.size ∧ ∀ (j : Nat) (f : Field), fs[j]? = some f → ∃ v k y, cs[j]? = some v ∧ DataW.trod enc P w 0 (fun _ => true) true k f.type [v] = some y := by
  obtain ⟨ys, n, _, _, hlen, hyl, hf⟩ := DataW.trod_struct he h
  refine ⟨hlen.trans hC, fun j f hj => ?_⟩
  obtain ⟨ho, hk⟩ := hone_of hone j f hj
  have hjl : j < fs.size := (Array.getElem?_eq_some_iff.1 hj).1
  have hjc : j < cs.length := by omega
  have h1 := hf j f hj
  rw [ho, hk, List.drop_eq_getElem_cons hjc] at h1
  exact ⟨cs[j], n, _, List.getElem?_eq_getElem hjc, h1.trans (List.getElem?_eq_getElem (by omega))⟩

/-- Every field of every element. -/
theorem slice_fields {t e : TypeId} {fs : Array Field} {A : Option Addr} {n cap : Nat} {d : DataW H} {ps : List MemPlace} (ht : P.underlying t = some (.slice e)) (he : P.underlying e = some (.struct fs))
    (hone : oneCellFields P fs = true) (hC : P.cellsOf e = fs.size) (h : DataW.Trod enc P w 0 (fun _ => true) true t (.slice A n cap) d ps) :
    (A = none ∧ n = 0 ∧ cap = 0) ∨ ∃ a, A = some a ∧ n ≤ cap ∧ cap ≤ maxLen ∧
      ∀ i, i < n → ∀ (j : Nat) (f : Field), fs[j]? = some f → ∃ v k y, w.cell? (a.add (i * fs.size + j)) = some v ∧ DataW.trod enc P w 0 (fun _ => true) true k f.type [v] = some y := by
  obtain ⟨fuel, hf⟩ := h
  rcases open_slice ht hf with ⟨hcs, _⟩ | ⟨a, len, cap', m, k, D, Pl, hcs, _, hl, hm, hmm, _, hi⟩
  · simp [Value.cells] at hcs
    exact .inl hcs
  · simp [Value.cells] at hcs
    obtain ⟨rfl, rfl, rfl⟩ := hcs
    refine .inr ⟨a, rfl, hl, hm, fun i hin j f hj => ?_⟩
    obtain ⟨cs', hc, ht'⟩ := hi i (by rw [hmm]; split <;> omega)
    obtain ⟨_, hfl⟩ := fields_of he hone hC ht'
    obtain ⟨v, k', y, hv, hy⟩ := hfl j f hj
    obtain ⟨_, _, hat⟩ := World.cells?_some hc
    have hjl : j < fs.size := (Array.getElem?_eq_some_iff.1 hj).1
    rw [hC] at hat
    exact ⟨v, k', y, by rw [← add_of_add, hat j hjl, hv], hy⟩

/-- Every field of every element, from the slice's cell. -/
theorem slice_fieldsC {t e : TypeId} {fs : Array Field} {fuel : Nat} {v : Value} {y : DataW H × List MemPlace} (ht : P.underlying t = some (.slice e)) (he : P.underlying e = some (.struct fs))
    (hone : oneCellFields P fs = true) (hC : P.cellsOf e = fs.size) (hf : DataW.trod enc P w 0 (fun _ => true) true fuel t [v] = some y) :
    v = .slice none 0 0 ∨ ∃ a n cap, v = .slice (some a) n cap ∧ n ≤ cap ∧ cap ≤ maxLen ∧
      ∀ i, i < n → ∀ (j : Nat) (f : Field), fs[j]? = some f → ∃ v k y, w.cell? (a.add (i * fs.size + j)) = some v ∧ DataW.trod enc P w 0 (fun _ => true) true k f.type [v] = some y := by
  rcases open_slice ht hf with ⟨hcs, _⟩ | ⟨a, len, cap', m, k, D, Pl, hcs, _, hl, hm, hmm, _, hi⟩
  · simp only [List.cons.injEq, and_true] at hcs
    exact .inl hcs
  · simp only [List.cons.injEq, and_true] at hcs
    refine .inr ⟨a, len, cap', hcs, hl, hm, fun i hin j f hj => ?_⟩
    obtain ⟨cs', hc, ht'⟩ := hi i (by rw [hmm]; split <;> omega)
    obtain ⟨_, hfl⟩ := fields_of he hone hC ht'
    obtain ⟨v, k', y, hv, hy⟩ := hfl j f hj
    obtain ⟨_, _, hat⟩ := World.cells?_some hc
    have hjl : j < fs.size := (Array.getElem?_eq_some_iff.1 hj).1
    rw [hC] at hat
    exact ⟨v, k', y, by rw [← add_of_add, hat j hjl, hv], hy⟩
/-- A struct of one field of one cell, by value. -/
theorem open_agg1 {b0 : Nat} {r : Reach} {t : TypeId} {f0 : Field} {v : Value} {d : DataW H} {p : List MemPlace} (hs : P.underlying t = some (.struct #[f0])) (hone : oneCellFields P #[f0] = true) (hC : P.cellsOf t = 1)
    (hv : Value.okWide P w r b0 t v) (h : DataW.Trod enc P w 0 (fun _ => true) true t v d p) : ∃ v0 n y0, v = .agg #[v0] ∧ DataW.trod enc P w 0 (fun _ => true) true n f0.type [v0] = some y0 := by
  obtain ⟨cs, rfl, hsz⟩ := okWide_struct hs hv
  obtain ⟨fuel, hf⟩ := h
  obtain ⟨_, hfl⟩ := fields_of hs hone (by simpa using hC) hf
  obtain ⟨v0, k, y, hv0, hy⟩ := hfl 0 f0 rfl
  obtain ⟨l⟩ := cs
  have hl : l.length = 1 := by simpa [hC] using hsz
  obtain ⟨x, rfl⟩ := List.length_eq_one_iff.1 hl
  simp [Value.cells] at hv0
  subst hv0
  exact ⟨_, k, y, rfl, hy⟩

/-- An address at which a cell lies is a plain one. -/
theorem plain_at {a : Addr} {i : Nat} {v : Value} (h : w.cell? (a.add i) = some v) : ∃ b off, a.add i = ⟨b, off + i, none⟩ ∧ (i = 0 → a = ⟨b, off, none⟩) ∧ b = a.block ∧ off = a.off := by
  obtain ⟨b, off, spot⟩ := a
  by_cases hi : i = 0
  · subst hi
    have hs : spot = none := by simpa [Addr.add] using World.cell?_spot h
    subst hs
    exact ⟨b, off, by simp [Addr.add], fun _ => rfl, rfl, rfl⟩
  · exact ⟨b, off, by simp [Addr.add, hi], fun h => absurd h hi, rfl, rfl⟩
theorem list_of_fun {α : Type} (n : Nat) (p : Nat → α → Prop) (h : ∀ i, i < n → ∃ x, p i x) : ∃ l : List α, l.length = n ∧ ∀ i x, l[i]? = some x → p i x := by
  induction n with
  | zero => exact ⟨[], rfl, fun i x hx => by simp at hx⟩
  | succ n ih =>
    obtain ⟨l, hl, hp⟩ := ih fun i hi => h i (by omega)
    obtain ⟨x, hx⟩ := h n (by omega)
    refine ⟨l ++ [x], by simp [hl], fun i y hy => ?_⟩
    rcases Nat.lt_or_ge i l.length with h' | h'
    · rw [List.getElem?_append_left h'] at hy
      exact hp i y hy
    · rw [List.getElem?_append_right h'] at hy
      have h0 : i - l.length = 0 := by
        rcases Nat.eq_zero_or_pos (i - l.length) with h1 | h1
        · exact h1
        · rw [List.getElem?_eq_none (by simp; omega)] at hy; cases hy
      rw [h0] at hy
      have hi : i = n := by omega
      subst hi
      simp at hy
      exact hy ▸ hx
end
end Go.Proofs.Ytfgfbnmcihjfmaa
namespace Go.Proofs.Ytfgfbnmcihjfmaa
open Go.RowKit
set_option linter.unusedVariables false
theorem two_below2 {w wx : World} {p q : Addr} {u v : Value} (h : wx.cell? p = some u ∧ wx.cell? q = some v ∧ Below w.heap.size w wx) : Below w.heap.size w wx := h.2.2
end Go.Proofs.Ytfgfbnmcihjfmaa
namespace Go.Proofs.Ytfgfbnmcihjfmaa
open Go.RowKit
set_option linter.unusedVariables false

/-- Block g is the two cells u, v. -/
def Two (w : World) (g : Nat) (T : TypeId) (u v : Value) : Prop := w.heap[g]? = some (.cells #[u, v] T (0, 0))
theorem Two.new (w : World) (T : TypeId) (u v : Value) : Two (w.alloc (.cells #[u, v] T)) w.heap.size T u v := by
  show (w.heap.push _)[w.heap.size]? = _
  exact Array.getElem?_push_size
section
variable {w w' : World} {g : Nat} {T : TypeId} {u v : Value}
theorem Two.lt (h : Two w g T u v) : g < w.heap.size := (Array.getElem?_eq_some_iff.1 h).1
theorem Two.far (h : Two w g T u v) (hb : Below w.heap.size w w') : Two w' g T u v := (hb.block g h.lt).trans h
theorem Two.below {B : Nat} (h : Two w g T u v) (hb : Below B w w') (hg : g < B) : Two w' g T u v := (hb.block g hg).trans h
theorem Two.only {lo hi : Nat} (h : Two w g T u v) (ho : Only lo hi w w') (hd : g < lo ∨ hi ≤ g) : Two w' g T u v := (ho.block g h.lt hd).trans h
theorem Two.grown {row : Option Nat} (h : Two w g T u v) (hg : w.grownBy w' row) (hne : row ≠ some g) : Two w' g T u v := (hg.block g h.lt (fun e => hne e.symm)).trans h
theorem Two.ne_own {base n size : Nat} {e : TypeId} {x : Value} {xs : List Value} (h : Two w g T u v) (ho : w.ownsRow base e size x n xs) (hT : T ≠ e) : x.ownBlock ≠ some g := by
  rcases ho.2 with ⟨rfl, _⟩ | ⟨g', cap, cur, rfl, _, hh, _⟩
  · simp [Value.ownBlock]
  · intro he
    simp only [Value.ownBlock, Option.some.injEq] at he
    subst he
    unfold Two at h
    rw [h] at hh
    injection hh with hh
    injection hh with h1 h2
    exact hT h2
theorem Two.cell0 (h : Two w g T u v) : w.cell? ⟨g, 0, none⟩ = some u := by unfold Two at h; simp [World.cell?, h]
theorem Two.cell1 (h : Two w g T u v) : w.cell? ⟨g, 1, none⟩ = some v := by unfold Two at h; simp [World.cell?, h]
theorem Two.set0 (h : Two w g T u v) (x : Value) : Two (w.setCell ⟨g, 0, none⟩ x) g T x v := by
  have hlt := h.lt
  have h' : w.heap[g] = .cells #[u, v] T (0, 0) := (Array.getElem?_eq_some_iff.1 h).2
  show (w.heap.modify g _)[g]? = _
  rw [Array.getElem?_eq_getElem (by simpa using hlt), Array.getElem_modify_self, h']
  rfl
theorem Two.set1 (h : Two w g T u v) (x : Value) : Two (w.setCell ⟨g, 1, none⟩ x) g T u x := by
  have hlt := h.lt
  have h' : w.heap[g] = .cells #[u, v] T (0, 0) := (Array.getElem?_eq_some_iff.1 h).2
  show (w.heap.modify g _)[g]? = _
  rw [Array.getElem?_eq_getElem (by simpa using hlt), Array.getElem_modify_self, h']
  rfl
theorem Two.setOther (h : Two w g T u v) {a : Addr} (ha : a.block ≠ g) (x : Value) : Two (w.setCell a x) g T u v := (Below.heap_setCell _ _ _ _ (fun e => ha e.symm)).trans h
theorem Two.setTwo {k : Nat} (h : Two w g T u v) (hk : k ≠ g) (x y : Value) : Two ((w.setCell ⟨k, 0, none⟩ x).setCell ⟨k, 1, none⟩ y) g T u v := (h.setOther (a := ⟨k, 0, none⟩) hk x).setOther (a := ⟨k, 1, none⟩) hk y
theorem Two.setSelf (h : Two w g T u v) (x y : Value) : Two ((w.setCell ⟨g, 0, none⟩ x).setCell ⟨g, 1, none⟩ y) g T x y := (h.set0 x).set1 y
theorem Two.cells (h : Two w g T u v) : w.cell? ⟨g, 0, none⟩ = some u ∧ w.cell? ⟨g, 1, none⟩ = some v := by unfold Two at h; simp [World.cell?, h]
theorem Two.free (h : Two w g T u v) (j : Nat) : w.frozen? ⟨g, j, none⟩ = false := by unfold Two at h; simp [World.frozen?, h]
end

/-- Block g is the three cells u, v, x. -/
def Three (w : World) (g : Nat) (T : TypeId) (u v x : Value) : Prop := w.heap[g]? = some (.cells #[u, v, x] T (0, 0))
section
variable {w w' : World} {g : Nat} {T : TypeId} {u v x : Value}
theorem Three.new (w : World) (T : TypeId) (u v x : Value) : Three (w.alloc (.cells #[u, v, x] T)) w.heap.size T u v x := by
  unfold Three World.alloc
  simp
theorem Three.lt (h : Three w g T u v x) : g < w.heap.size := (Array.getElem?_eq_some_iff.1 h).1
theorem Three.far (h : Three w g T u v x) (hb : Below w.heap.size w w') : Three w' g T u v x := (hb.block g h.lt).trans h
theorem Three.below {B : Nat} (h : Three w g T u v x) (hb : Below B w w') (hg : g < B) : Three w' g T u v x := (hb.block g hg).trans h
theorem Three.grown {row : Option Nat} (h : Three w g T u v x) (hg : w.grownBy w' row) (hne : row ≠ some g) : Three w' g T u v x := (hg.block g h.lt (fun e => hne e.symm)).trans h
theorem Three.cell0 (h : Three w g T u v x) : w.cell? ⟨g, 0, none⟩ = some u := by unfold Three at h; simp [World.cell?, h]
theorem Three.cell1 (h : Three w g T u v x) : w.cell? ⟨g, 1, none⟩ = some v := by unfold Three at h; simp [World.cell?, h]
theorem Three.cell2 (h : Three w g T u v x) : w.cell? ⟨g, 2, none⟩ = some x := by unfold Three at h; simp [World.cell?, h]
theorem Three.free (h : Three w g T u v x) (j : Nat) : w.frozen? ⟨g, j, none⟩ = false := by unfold Three at h; simp [World.frozen?, h]
theorem Three.cells (h : Three w g T u v x) : w.cell? ⟨g, 0, none⟩ = some u ∧ w.cell? ⟨g, 1, none⟩ = some v ∧ w.cell? ⟨g, 2, none⟩ = some x := by unfold Three at h; simp [World.cell?, h]
theorem Three.drewN (h : Three w g T u v x) (n : Nat) : Three (w.drewN n) g T u v x := h
theorem Three.set0 (h : Three w g T u v x) (y : Value) : Three (w.setCell ⟨g, 0, none⟩ y) g T y v x := by
  have hlt := h.lt
  have h' : w.heap[g] = .cells #[u, v, x] T (0, 0) := (Array.getElem?_eq_some_iff.1 h).2
  show (w.heap.modify g _)[g]? = _
  rw [Array.getElem?_eq_getElem (by simpa using hlt), Array.getElem_modify_self, h']
  rfl
theorem Three.set1 (h : Three w g T u v x) (y : Value) : Three (w.setCell ⟨g, 1, none⟩ y) g T u y x := by
  have hlt := h.lt
  have h' : w.heap[g] = .cells #[u, v, x] T (0, 0) := (Array.getElem?_eq_some_iff.1 h).2
  show (w.heap.modify g _)[g]? = _
  rw [Array.getElem?_eq_getElem (by simpa using hlt), Array.getElem_modify_self, h']
  rfl
theorem Three.set2 (h : Three w g T u v x) (y : Value) : Three (w.setCell ⟨g, 2, none⟩ y) g T u v y := by
  have hlt := h.lt
  have h' : w.heap[g] = .cells #[u, v, x] T (0, 0) := (Array.getElem?_eq_some_iff.1 h).2
  show (w.heap.modify g _)[g]? = _
  rw [Array.getElem?_eq_getElem (by simpa using hlt), Array.getElem_modify_self, h']
  rfl
theorem Three.setSelf (h : Three w g T u v x) (a b c : Value) : Three (((w.setCell ⟨g, 0, none⟩ a).setCell ⟨g, 1, none⟩ b).setCell ⟨g, 2, none⟩ c) g T a b c := ((h.set0 a).set1 b).set2 c
end
end Go.Proofs.Ytfgfbnmcihjfmaa
