/-
  Words of our own on memory: a value that owns blocks of a range; a world that has turned in a range of blocks alone. No program is named here.
-/
import Derived.Test.YticdjneihcimeaaBase
import Derived.Deep.QuietTactic
import Derived.BigQuiet
namespace Go.Proofs.Yticdjneihcimeaa
set_option linter.unusedVariables false
open Go.RowKit

/-- w' is w but for the blocks from lo to hi (hi not included), and new ones. -/
structure Only (lo hi : Nat) (w w' : World) : Prop where
  os : w'.os = w.os
  tape : w'.tape = w.tape
  output : w'.output = w.output
  size : w.heap.size ≤ w'.heap.size
  block : ∀ k, k < w.heap.size → (k < lo ∨ hi ≤ k) → w'.heap[k]? = w.heap[k]?

theorem Only.of_below {lo hi : Nat} {w w' : World} (h : Below w.heap.size w w') : Only lo hi w w' := ⟨h.os, h.tape, h.output, h.size, fun k hk _ => h.block k hk⟩
theorem Only.below {lo hi : Nat} {w w' : World} (h : Only lo hi w w') {B : Nat} (hB : B ≤ lo) (hs : B ≤ w.heap.size) : Below B w w' := ⟨h.os, h.tape, h.output, h.size, fun k hk => h.block k (by omega) (.inl (by omega))⟩
theorem Only.refl {lo hi : Nat} (w : World) : Only lo hi w w := ⟨rfl, rfl, rfl, Nat.le_refl _, fun _ _ _ => rfl⟩
theorem Only.trans {lo hi : Nat} {a b c : World} (h : Only lo hi a b) (k : Only lo hi b c) : Only lo hi a c :=
  ⟨k.os.trans h.os, k.tape.trans h.tape, k.output.trans h.output, Nat.le_trans h.size k.size, fun i hi h' => (k.block i (Nat.lt_of_lt_of_le hi h.size) h').trans (h.block i hi h')⟩
theorem Only.drew {lo hi : Nat} {a w : World} (h : Only lo hi a w) : Only lo hi a w.drew := ⟨h.os, h.tape, h.output, h.size, h.block⟩
theorem Only.drewN {lo hi : Nat} {a w : World} (h : Only lo hi a w) (n : Nat) : Only lo hi a (w.drewN n) := ⟨h.os, h.tape, h.output, h.size, h.block⟩
theorem Only.setCell {lo hi : Nat} {a w : World} (h : Only lo hi a w) {p : Addr} (h1 : lo ≤ p.block) (h2 : p.block < hi) (u : Value) : Only lo hi a (w.setCell p u) :=
  h.trans ⟨rfl, rfl, rfl, by simp [World.setCell], fun k _ hk' => Below.heap_setCell _ _ _ _ (by omega)⟩
theorem below_drewN {B : Nat} {a w : World} (h : Below B a w) (n : Nat) : Below B a (w.drewN n) := ⟨h.os, h.tape, h.output, h.size, h.block⟩

/-- The slice value v owns a row of the cells xs, in a block from lo on and below hi. -/
def Own (w : World) (lo hi : Nat) (e : TypeId) (size : Nat) (v : Value) (n : Nat) (xs : List Value) : Prop :=
  w.ownsRow lo e size v n xs ∧ ∀ g, v.ownBlock = some g → g < hi

section
variable {w w' : World} {lo hi : Nat} {e : TypeId} {size : Nat} {v : Value} {n : Nat} {xs : List Value}
theorem ownsRow_only {lo' hi' : Nat} (h : w.ownsRow lo e size v n xs) (ho : Only lo' hi' w w') (hd : ∀ g, v.ownBlock = some g → g < lo' ∨ hi' ≤ g) : w'.ownsRow lo e size v n xs := by
  obtain ⟨h1, h2⟩ := h
  refine ⟨h1, ?_⟩
  rcases h2 with h2 | ⟨g, cap, cur, rfl, hb, hh, rest⟩
  · exact .inl h2
  · exact .inr ⟨g, cap, cur, rfl, hb, by rw [ho.block g (Array.getElem?_eq_some_iff.1 hh).1 (hd g rfl)]; exact hh, rest⟩
theorem Own.only {lo' hi' : Nat} (h : Own w lo hi e size v n xs) (ho : Only lo' hi' w w') (hd : hi ≤ lo' ∨ hi' ≤ lo) : Own w' lo hi e size v n xs :=
  ⟨ownsRow_only h.1 ho (fun g hg => by have h1 := h.2 g hg; have h2 := (h.1.lt g hg).1; omega), h.2⟩
theorem Own.below (h : Own w lo hi e size v n xs) (hb : Below w.heap.size w w') : Own w' lo hi e size v n xs :=
  ⟨ownsRow_only (lo' := w.heap.size) (hi' := w.heap.size) h.1 (Only.of_below hb) (fun g hg => by have h2 := (h.1.lt g hg).2; omega), h.2⟩
theorem _root_.Go.World.ownsRow.base {lo' : Nat} (h : w.ownsRow lo e size v n xs) (hl : lo' ≤ lo) : w.ownsRow lo' e size v n xs := by
  obtain ⟨h1, h2⟩ := h
  refine ⟨h1, ?_⟩
  rcases h2 with h2 | ⟨g, cap, cur, rfl, hb, rest⟩
  · exact .inl h2
  · exact .inr ⟨g, cap, cur, rfl, by omega, rest⟩
theorem Own.of_row (h : w.ownsRow lo e size v n xs) : Own w lo w.heap.size e size v n xs := ⟨h, fun g hg => (h.lt g hg).2⟩
theorem Own.none_ : Own w lo hi e size (.slice none 0 0) 0 [] := ⟨World.ownsRow_nil _ _ _ _, fun g hg => by simp [Value.ownBlock] at hg⟩
/-- The value is a slice that reads. -/
theorem Own.slice (h : Own w lo hi e size v n xs) : ∃ A cap, v = .slice A n cap ∧ Reads w w.heap.size size A n xs ∧ n ≤ cap ∧ cap ≤ maxLen := by
  rcases h.1.2 with ⟨rfl, rfl⟩ | ⟨g, cap, cur, rfl, hb, hh, h1, h2, h3, h4⟩
  · exact ⟨none, 0, rfl, Reads.of_own h.1, by omega, by unfold maxLen; omega⟩
  · exact ⟨some ⟨g, 0, none⟩, cap, rfl, Reads.of_own h.1, h1, h2⟩
/-- Where there is an element: the block, its cells, and that they may be written. -/
theorem Own.open_ (h : Own w lo hi e size v n xs) (hn : 0 < n) : ∃ g cap, v = .slice (some ⟨g, 0, none⟩) n cap ∧ lo ≤ g ∧ g < hi ∧ g < w.heap.size ∧ n ≤ cap ∧ cap ≤ maxLen ∧
    (∀ j, j < n * size → w.cell? ⟨g, j, none⟩ = xs[j]?) ∧ ∀ j, w.frozen? ⟨g, j, none⟩ = false := by
  rcases h.1.2 with ⟨rfl, rfl⟩ | ⟨g, cap, cur, rfl, hb, hh, h1, h2, h3, h4⟩
  · omega
  · exact ⟨g, cap, rfl, hb, h.2 g rfl, (Array.getElem?_eq_some_iff.1 hh).1, h1, h2, fun j hj => h.1.cellAt j hj, fun j => h.1.frozenAt j⟩
/-- One cell is written. -/
theorem Own.set_ {g cap : Nat} (h : Own w lo hi e size (.slice (some ⟨g, 0, none⟩) n cap) n xs) (j : Nat) (u : Value) : Own (w.setCell ⟨g, j, none⟩ u) lo hi e size (.slice (some ⟨g, 0, none⟩) n cap) n (xs.set j u) :=
  ⟨(h.1.stored j u).1, h.2⟩
end

/-! ### A row that is filled from its head on -/
def filled (xs : List Value) (z : Value) (k : Nat) : List Value := xs.take k ++ List.replicate (xs.length - k) z
theorem filled_zero (xs : List Value) (z : Value) : filled xs z 0 = List.replicate xs.length z := by simp [filled]
theorem filled_all (xs : List Value) (z : Value) : filled xs z xs.length = xs := by simp [filled]
theorem filled_length (xs : List Value) (z : Value) {k : Nat} (h : k ≤ xs.length) : (filled xs z k).length = xs.length := by simp [filled]; omega
theorem filled_set (xs : List Value) (z : Value) {k : Nat} {x : Value} (h : xs[k]? = some x) : (filled xs z k).set k x = filled xs z (k + 1) := by
  have hk : k < xs.length := (List.getElem?_eq_some_iff.1 h).1
  unfold filled
  rw [List.set_append_right _ _ (by simp; omega)]
  simp only [List.length_take]
  rw [show k - min k xs.length = 0 by omega, show xs.length - k = (xs.length - (k + 1)) + 1 by omega, List.replicate_succ, List.set_cons_zero, List.take_add_one, h]
  simp
theorem filled_at (xs : List Value) (z : Value) {k : Nat} (h : k < xs.length) : (filled xs z k)[k]? = some z := by
  unfold filled
  rw [List.getElem?_append_right (by simp; omega)]
  simp only [List.length_take]
  rw [show k - min k xs.length = 0 by omega]
  simp [show 0 < xs.length - k by omega]
theorem below_only {w w' : World} (h : Only w.heap.size w.heap.size w w') : Below w.heap.size w w' := h.below (Nat.le_refl _) (Nat.le_refl _)

/-! ### Small words for walks -/
theorem quiet_left {P : Program} {f : FuncId} {args : Array Value} {w : World} {n : Nat} {v : Value}
    (h : Calls P f args (w.drewN n) fun e w' => e = .returned v ∧ w.drewN n = w') : Calls P f args (w.drewN n) fun e w'' => e = .returned v ∧ ∃ m, w'' = w.drewN m :=
  h.mono fun _ _ ⟨he, hm⟩ => ⟨he, n, hm.symm⟩
theorem results_tmp4 {fn : Func} {t u v x : Tmp} (h : fn.results = #[.tmp t, .tmp u, .tmp v, .tmp x]) (tmps : Array Value) (P : Program) (w : World) :
    (results fn tmps).run P w = .ok (.tuple #[tmps.getD t undef, tmps.getD u undef, tmps.getD v undef, tmps.getD x undef]) w := by simp [results, h]
end Go.Proofs.Yticdjneihcimeaa
