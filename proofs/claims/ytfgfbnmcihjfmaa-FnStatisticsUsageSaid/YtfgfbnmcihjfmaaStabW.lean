/-
  The parts of the library's stable sort over a row of numbers: exchanges of blocks and rotations, walked.
-/
import Derived.Test.YtfgfbnmcihjfmaaStabPl
import Derived.Test.YtfgfbnmcihjfmaaInts
import Derived.StillTailTactics
import Derived.Deep.RegionHeld3
namespace Go.Proofs.Ytfgfbnmcihjfmaa
open Go.RowKit
set_option linter.unusedVariables false
set_option linter.unusedSimpArgs false
set_option maxRecDepth 100000

def I64 (x : Int) : Prop := -9223372036854775808 ≤ x ∧ x ≤ 9223372036854775807
/-- A row of numbers in block g, whole; since W only block g has turned. -/
structure RowZ (W w : World) (lo g cap n : Nat) (xs : List Int) : Prop where
  len : xs.length = n
  own : w.ownsRow lo 3 1 (.slice (some ⟨g, 0, none⟩) n cap) n (ints xs)
  only : Only g (g + 1) W w
  rng : ∀ x ∈ xs, I64 x
section
variable {W w w' : World} {lo g cap n : Nat} {xs : List Int}
theorem RowZ.drew (h : RowZ W w lo g cap n xs) : RowZ W w.drew lo g cap n xs := ⟨h.len, h.own, h.only.drew, h.rng⟩
theorem RowZ.drewN (h : RowZ W w lo g cap n xs) (q : Nat) : RowZ W (w.drewN q) lo g cap n xs := ⟨h.len, h.own, h.only.drewN q, h.rng⟩
theorem RowZ.cell (h : RowZ W w lo g cap n xs) {k : Nat} {x : Int} (hx : xs[k]? = some x) : w.cell? ⟨g, k, none⟩ = some (.int .i64 x) := by
  have hk := (List.getElem?_eq_some_iff.1 hx).1
  have := h.len
  rw [h.own.cellAt k (by omega)]
  exact ints_at _ hx
theorem RowZ.free (h : RowZ W w lo g cap n xs) (k : Nat) : w.frozen? ⟨g, k, none⟩ = false := h.own.frozenAt k
theorem RowZ.lt (h : RowZ W w lo g cap n xs) : lo ≤ g ∧ g < w.heap.size := h.own.lt g rfl
theorem RowZ.wf (h : RowZ W w lo g cap n xs) {k : Nat} {x : Int} (hx : xs[k]? = some x) : I64 x := h.rng x (List.mem_of_getElem? hx)
theorem RowZ.set_ (h : RowZ W w lo g cap n xs) (k : Nat) {x : Int} (hx : x ∈ xs) : RowZ W (w.setCell ⟨g, k, none⟩ (.int .i64 x)) lo g cap n (xs.set k x) := by
  refine ⟨by rw [List.length_set, h.len], ?_, h.only.setCell (p := ⟨g, k, none⟩) (Nat.le_refl _) (Nat.lt_succ_self _) _, fun y hy => ?_⟩
  · have := (h.own.stored k (.int .i64 x)).1
    have e : (ints xs).set k (.int .i64 x) = ints (xs.set k x) := by unfold ints; rw [List.map_set]
    rw [← e]
    exact this
  · rcases List.mem_or_eq_of_mem_set hy with h1 | h1
    · exact h.rng y h1
    · rw [h1]; exact h.rng x hx
theorem RowZ.set2 (h : RowZ W w lo g cap n xs) (k : Nat) {x : Int} (hx : I64 x) : RowZ W (w.setCell ⟨g, k, none⟩ (.int .i64 x)) lo g cap n (xs.set k x) := by
  refine ⟨by rw [List.length_set, h.len], ?_, h.only.setCell (p := ⟨g, k, none⟩) (Nat.le_refl _) (Nat.lt_succ_self _) _, fun y hy => ?_⟩
  · have := (h.own.stored k (.int .i64 x)).1
    have e : (ints xs).set k (.int .i64 x) = ints (xs.set k x) := by unfold ints; rw [List.map_set]
    rw [← e]
    exact this
  · rcases List.mem_or_eq_of_mem_set hy with h1 | h1
    · exact h.rng y h1
    · rw [h1]; exact hx
theorem RowZ.exch (h : RowZ W w lo g cap n xs) {i j : Nat} {x y : Int} (hx : xs[i]? = some x) (hy : xs[j]? = some y) : RowZ W ((w.setCell ⟨g, i, none⟩ (.int .i64 y)).setCell ⟨g, j, none⟩ (.int .i64 x)) lo g cap n (exch xs i j) := by
  rw [exch_at hx hy]
  exact (h.set_ i (List.mem_of_getElem? hy)).set2 j (h.wf hx)
end

set_option maxHeartbeats 4000000 in
theorem swapRange_calls (lo g cap n a b m : Nat) (F : Value) (xs : List Int) (W w : World) (h : RowZ W w lo g cap n xs) (hab : a + m ≤ b) (hb : b + m ≤ n) (hn : n ≤ 1000000) :
    Calls Try.prog 69 #[.slice (some ⟨g, 0, none⟩) n cap, .int .i64 a, .int .i64 b, .int .i64 m, F] w fun e w' => e = .returned (.tuple #[]) ∧ ∃ ys, Swapped xs ys a b m ∧ RowZ W w' lo g cap n ys := by
  have H0 := Lib.hid h
  clear h
  go_enter Try.func69, Try.ntmps69
  go_wp2
  go_loopw [10] (fun i wr => ∃ (k : Nat) (ys : List Int), k ≤ m ∧ i = .int .i64 k ∧ Swapped xs ys a b k ∧ RowZ W wr lo g cap n ys) (fun i _ => m - (intOf i).toNat)
  case atStart => exact ⟨0, xs, Nat.zero_le _, rfl, swapped_zero _ _ _, H0.out⟩
  case round =>
    obtain ⟨k, ys, hk, rfl, hsw, hro⟩ := hrel
    have HSW := Lib.hid hsw
    have HRO := Lib.hid hro
    have hyl := hro.len
    have hxl := hsw.1
    clear hsw hro
    by_cases hlt : k < m
    · obtain ⟨p, hp⟩ : ∃ p, p = a + k := ⟨_, rfl⟩
      obtain ⟨q, hq⟩ : ∃ q, q = b + k := ⟨_, rfl⟩
      obtain ⟨x, hx⟩ := some_at ys (show p < ys.length by omega)
      obtain ⟨y, hy⟩ := some_at ys (show q < ys.length by omega)
      have cp := HRO.out.cell hx
      have cq := HRO.out.cell hy
      have fp := HRO.out.free p
      have fq := HRO.out.free q
      have HEX := Lib.hid (HRO.out.exch hx hy).drew
      have HNX := Lib.hid (swapped_next (k := k) HSW.out hlt hab (by omega))
      rw [← hp, ← hq] at HNX
      have i1 : (k : Int) < (m : Int) := by omega
      have ep : IntKind.i64.wrap ((a : Int) + (k : Int)) = (p : Int) := by rw [IntKind.wrap_i64]; omega
      have eq_ : IntKind.i64.wrap ((b : Int) + (k : Int)) = (q : Int) := by rw [IntKind.wrap_i64]; omega
      have ip : (p : Int) < (n : Int) := by omega
      have iq : (q : Int) < (n : Int) := by omega
      have hpq : p ≠ q := by omega
      have HP := Lib.hid hp
      have HQ := Lib.hid hq
      clear hx hy hp hq
      go_wp2
      go_region
      all_goals go_wp2
      go_roundw
      case rel => exact ⟨k + 1, _, by omega, by go_num, HNX.out, HEX.out⟩
      case measure => simp [intOf]; omega
    · obtain rfl : k = m := by omega
      go_wp2
      go_end0
      exact ⟨rfl, ys, HSW.out, HRO.out⟩

end Go.Proofs.Ytfgfbnmcihjfmaa
