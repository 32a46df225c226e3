/-
  The reference's draws of strokes and outlines: some number, some short list.
-/
import Derived.Test.YtfgfbnmcihjfmaaCur
import Derived.Test.YtfgfbnmcihjfmaaDrawCues
import Derived.Test.YtfgfbnmcihjfmaaBase
namespace Go.Proofs.Ytfgfbnmcihjfmaa
open Go.RowKit
set_option linter.unusedVariables false
set_option maxRecDepth 100000

/-- A draw gave some number. -/
def DrewInt (g m : Nat) (w : World) (e : Ending) (w' : World) : Prop := ∃ t : Int, e = .returned (.int .i64 t) ∧ Cur w' g m ∧ Only g (g + 1) w w'

theorem only_alloc {lo hi : Nat} {a w : World} (h : Only lo hi a w) (o : Obj) : Only lo hi a (w.alloc o) := h.trans (Only.of_below ((Below.refl _ _).alloc (Nat.le_refl _) o))
theorem only_row {lo hi : Nat} {a w w' : World} {row : Option Nat} (h : Only lo hi a w) (hg : w.grownBy w' row) (hr : ∀ g, row = some g → a.heap.size ≤ g) : Only lo hi a w' :=
  ⟨hg.os.trans h.os, hg.tape.trans h.tape, hg.output.trans h.output, Nat.le_trans h.size hg.size, fun k hk hd => (hg.block k (Nat.lt_of_lt_of_le hk h.size) (fun e => by have := hr k e.symm; omega)).trans (h.block k hk hd)⟩
theorem cur_row {w w' : World} {g m : Nat} {row : Option Nat} (h : Cur w g m) (hg : w.grownBy w' row) (hr : ∀ b, row = some b → g + 1 ≤ b) : Cur w' g m :=
  h.below ⟨hg.os, hg.tape, hg.output, hg.size, fun k hk => hg.block k (by have := h.1; omega) (fun e => by have := hr k e.symm; omega)⟩

def fews : List Int := [524552, 260, 1048576, 262144]
set_option maxHeartbeats 1000000 in
theorem few_calls (g m : Nat) (w : World) (h : Cur w g m) (hm : m ≤ 60000000) : Calls Try.prog 30 #[.pointer (some ⟨g, 0, none⟩)] w (DrewInt g (m + 2) w) := by
  have hg := h.1
  have hc1 := h.alloc (.cells (fews.map (Value.int .i64)).toArray 3)
  have ho1 : Only g (g + 1) w (w.alloc (.cells (fews.map (Value.int .i64)).toArray 3)) := only_alloc (Only.refl w) _
  have hcl : ∀ j t, fews[j]? = some t → (w.alloc (.cells (fews.map (Value.int .i64)).toArray 3)).cell? ⟨w.heap.size, j, none⟩ = some (.int .i64 t) := fun j t ht => new_at (w := w) (xs := fews.map (Value.int .i64)) (by simp [ht])
  have HC := Lib.hid (among_calls g m w.heap.size 4 4 fews _ hc1 (by omega) (by decide) (by decide) (by decide) (by omega) (by simp) hcl)
  have HO := Lib.hid ho1
  clear hc1 ho1 hcl
  go_enter Try.func30, Try.ntmps30
  go_wp2_with fail
  refine HC.out.mono ?_
  rintro e w1 ⟨t, rfl, -, hc2, ho2⟩
  have HC2 := Lib.hid hc2
  have HO2 := Lib.hid (HO.out.trans ho2)
  clear hc2 ho2
  go_wp2
  go_ret
  exact ⟨t, rfl, HC2.out, HO2.out⟩

def strks : List Int := [524552, 260, 1048576, 262144, 4194304, 514, 8, 2064, 2097152]
set_option maxHeartbeats 2000000 in
theorem stroke_calls (g m : Nat) (w : World) (h : Cur w g m) (hm : m ≤ 50000000) : Calls Try.prog 29 #[.pointer (some ⟨g, 0, none⟩)] w (DrewInt g (m + 12) w) := by
  go_enter Try.func29, Try.ntmps29
  go_wp2_with fail
  refine (one_calls g m 2 _ h (by omega) (by omega) (by omega)).mono ?_
  rintro e w1 ⟨b, rfl, hc1, ho1⟩
  have HC1 := Lib.hid hc1
  have HO1 := Lib.hid ho1
  clear hc1 ho1
  cases b
  · go_wp2_with fail
    refine (pick_calls g (m + 2) 4 _ HC1.out (by omega) (by omega) (by omega)).mono ?_
    rintro e w2 ⟨x, rfl, hx, hc2, ho2⟩
    have HC2 := Lib.hid hc2
    have HO2 := Lib.hid (HO1.out.trans ho2)
    have x1 : IntKind.i64.wrap (1 + (x : Int)) = 1 + (x : Int) := IntWalk.i64_in _ (by omega)
    clear hc2 ho2
    go_wp2
    clear x1
    go_loopw [3, 4] (fun v i wr => ∃ (z : Int) (n : Nat), n ≤ 4 ∧ v = .int .i64 z ∧ i = .int .i64 n ∧ Cur wr g (m + 4 + 2 * (4 - n)) ∧ Only g (g + 1) w wr) (fun v i _ => (intOf i).toNat)
    case atStart => exact ⟨0, x + 1, by omega, rfl, by go_num, HC2.out.more (by omega), HO2.out⟩
    case round =>
      obtain ⟨z, n, hn, rfl, rfl, hc, ho⟩ := hrel
      have HC := Lib.hid hc
      have HO := Lib.hid ho
      clear hc ho
      by_cases h0 : 0 < n
      · have i0 : (0 : Int) < (n : Int) := by omega
        go_wp2_with fail
        refine (pick_calls g _ 23 _ HC.out (by omega) (by omega) (by omega)).mono ?_
        rintro e w3 ⟨y, rfl, hy, hc3, ho3⟩
        have HC3 := Lib.hid (hc3.more (show _ ≤ m + 4 + 2 * (4 - (n - 1)) by omega))
        have HO3 := Lib.hid (HO.out.trans ho3)
        have y0 : (0 : Int) ≤ (y : Int) := by omega
        clear hc3 ho3
        go_wp2
        go_roundw
        case rel => exact ⟨_, n - 1, by omega, rfl, by go_num, HC3.out, HO3.out⟩
        case measure => simp [intOf]; omega
      · obtain rfl : n = 0 := by omega
        go_wp2
        go_ret
        exact ⟨z, rfl, HC.out.more (by omega), HO.out⟩
  · have hg := HC1.out.1
    have HC := Lib.hid (among_calls g (m + 2) w1.heap.size 9 9 strks _ (HC1.out.alloc (.cells (strks.map (Value.int .i64)).toArray 3)) (by omega) (by decide) (by decide) (by decide) (by omega) (by simp) (fun j t ht => new_at (w := w1) (xs := strks.map (Value.int .i64)) (by simp [ht])))
    have HO := Lib.hid (show Only g (g + 1) w (w1.alloc (.cells (strks.map (Value.int .i64)).toArray 3)) from only_alloc HO1.out _)
    go_wp2_with fail
    refine HC.out.mono ?_
    rintro e w2 ⟨t, rfl, -, hc2, ho2⟩
    have HC2 := Lib.hid hc2
    have HO2 := Lib.hid (HO.out.trans ho2)
    clear hc2 ho2
    go_wp2
    go_ret
    exact ⟨t, rfl, HC2.out.more (by omega), HO2.out⟩

def anys : List Int := [0, -1, 8388608, 8388607, 1, 1099511627776]
set_option maxHeartbeats 2000000 in
theorem anyStroke_calls (g m : Nat) (w : World) (h : Cur w g m) (hm : m ≤ 40000000) : Calls Try.prog 31 #[.pointer (some ⟨g, 0, none⟩)] w (DrewInt g (m + 14) w) := by
  go_enter Try.func31, Try.ntmps31
  go_wp2_with fail
  refine (one_calls g m 12 _ h (by omega) (by omega) (by omega)).mono ?_
  rintro e w1 ⟨b, rfl, hc1, ho1⟩
  have HC1 := Lib.hid hc1
  have HO1 := Lib.hid ho1
  clear hc1 ho1
  cases b
  · go_wp2_with fail
    refine (stroke_calls g (m + 2) _ HC1.out (by omega)).mono ?_
    rintro e w2 ⟨t, rfl, hc2, ho2⟩
    have HC2 := Lib.hid hc2
    have HO2 := Lib.hid (HO1.out.trans ho2)
    clear hc2 ho2
    go_wp2
    go_ret
    exact ⟨t, rfl, HC2.out.more (by omega), HO2.out⟩
  · have hg := HC1.out.1
    have HC := Lib.hid (among_calls g (m + 2) w1.heap.size 6 6 anys _ (HC1.out.alloc (.cells (anys.map (Value.int .i64)).toArray 3)) (by omega) (by decide) (by decide) (by decide) (by omega) (by simp) (fun j t ht => new_at (w := w1) (xs := anys.map (Value.int .i64)) (by simp [ht])))
    have HO := Lib.hid (show Only g (g + 1) w (w1.alloc (.cells (anys.map (Value.int .i64)).toArray 3)) from only_alloc HO1.out _)
    go_wp2_with fail
    refine HC.out.mono ?_
    rintro e w2 ⟨t, rfl, -, hc2, ho2⟩
    have HC2 := Lib.hid hc2
    have HO2 := Lib.hid (HO.out.trans ho2)
    clear hc2 ho2
    go_wp2
    go_ret
    exact ⟨t, rfl, HC2.out.more (by omega), HO2.out⟩

/-- A draw gave a list of at most n numbers. -/
def DrewInts (n g m : Nat) (w : World) (e : Ending) (w' : World) : Prop := ∃ (v : Value) (xs : List Int), e = .returned v ∧ Own w' w.heap.size w'.heap.size 3 1 v xs.length (ints xs) ∧ xs.length ≤ n ∧ Cur w' g m ∧ Only g (g + 1) w w'
theorem ints_snocD (xs : List Int) (t : Int) : ints xs ++ [.int .i64 t] = ints (xs ++ [t]) := by simp [ints]

end Go.Proofs.Ytfgfbnmcihjfmaa
