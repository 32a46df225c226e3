/-
  The reference's draws of strokes and outlines: some number, some short list.
-/
import Derived.Test.YtekidodfcanjaaaGreatDoorCur
import Derived.Test.YtekidodfcanjaaaGreatDoorDrawCues
import Derived.Test.YtekidodfcanjaaaGreatDoorBase
import Derived.Test.YtekidodfcanjaaaGreatDoorAtomP
import Derived.Test.YtekidodfcanjaaaGreatDoorTranS
namespace Go.Proofs.YtekidodfcanjaaaGreatDoor
open Go.RowKit
set_option linter.unusedVariables false
set_option maxRecDepth 100000

/-- A draw gave some number. -/
def DrewInt (g m : Nat) (w : World) (e : Ending) (w' : World) : Prop := ∃ t : Int, e = .returned (.int .i64 t) ∧ Cur w' g m ∧ Only g (g + 1) w w'

theorem only_alloc {lo hi : Nat} {a w : World} (h : Only lo hi a w) (o : Obj) : Only lo hi a (w.alloc o) := h.trans (Only.of_below ((Below.refl _ _).alloc (Nat.le_refl _) o))
theorem only_row {lo hi : Nat} {a w w' : World} {row : Option Nat} (h : Only lo hi a w) (hg : w.grownBy w' row) (hr : ∀ g, row = some g → a.heap.size ≤ g) : Only lo hi a w' :=
  ⟨hg.os.trans h.os, hg.tape.trans h.tape, hg.output.trans h.output, Nat.le_trans h.size hg.size, fun k hk hd => (hg.block k (Nat.lt_of_lt_of_le hk h.size) (fun e => by have := hr k e.symm; omega)).trans (h.block k hk hd)⟩
theorem cur_row {w w' : World} {g m : Nat} {row : Option Nat} (h : Cur w g m) (hg : w.grownBy w' row) (hr : ∀ b, row = some b → g + 1 ≤ b) : Cur w' g m :=
  h.below ⟨hg.os, hg.tape, hg.output, hg.size, fun k hk => hg.block k (by have := h.1; omega) (fun e => by have := hr k e.symm; omega)⟩

def fews : List Int := [524552, 260, 1048576, 262144]
set_option maxHeartbeats 1000000 in
theorem few_calls (g m : Nat) (w : World) (h : Cur w g m) (hm : m ≤ 60000000) : Calls Tryz.prog 131 #[.pointer (some ⟨g, 0, none⟩)] w (DrewInt g (m + 2) w) := by
  have hg := h.1
  have hc1 := h.alloc (.cells (fews.map (Value.int .i64)).toArray 3)
  have ho1 : Only g (g + 1) w (w.alloc (.cells (fews.map (Value.int .i64)).toArray 3)) := only_alloc (Only.refl w) _
  have hcl : ∀ j t, fews[j]? = some t → (w.alloc (.cells (fews.map (Value.int .i64)).toArray 3)).cell? ⟨w.heap.size, j, none⟩ = some (.int .i64 t) := fun j t ht => new_at (w := w) (xs := fews.map (Value.int .i64)) (by simp [ht])
  have HC := Lib.hid (among_calls g m w.heap.size 4 4 fews _ hc1 (by omega) (by decide) (by decide) (by decide) (by omega) (by simp) hcl)
  have HO := Lib.hid ho1
  clear hc1 ho1 hcl
  go_enter Tryz.func131, Tryz.ntmps131
  go_wp2_with fail
  refine HC.out.mono ?_
  rintro e w1 ⟨t, rfl, -, hc2, ho2⟩
  have HC2 := Lib.hid hc2
  have HO2 := Lib.hid (HO.out.trans ho2)
  clear hc2 ho2
  go_wp2
  go_ret
  exact ⟨t, rfl, HC2.out, HO2.out⟩

def strks : List Int := [524552, 260, 1048576, 262144, 4194304, 514, 8, 2064, 2097152]
set_option maxHeartbeats 2000000 in
theorem stroke_calls (g m : Nat) (w : World) (h : Cur w g m) (hm : m ≤ 50000000) : Calls Tryz.prog 138 #[.pointer (some ⟨g, 0, none⟩)] w (DrewInt g (m + 12) w) := by
  go_enter Tryz.func138, Tryz.ntmps138
  go_wp2_with fail
  refine (one_calls g m 2 _ h (by omega) (by omega) (by omega)).mono ?_
  rintro e w1 ⟨b, rfl, hc1, ho1⟩
  have HC1 := Lib.hid hc1
  have HO1 := Lib.hid ho1
  clear hc1 ho1
  cases b
  · go_wp2_with fail
    refine (pick_calls g (m + 2) 4 _ HC1.out (by omega) (by omega) (by omega)).mono ?_
    rintro e w2 ⟨x, rfl, hx, hc2, ho2⟩
    have HC2 := Lib.hid hc2
    have HO2 := Lib.hid (HO1.out.trans ho2)
    have x1 : IntKind.i64.wrap (1 + (x : Int)) = 1 + (x : Int) := IntWalk.i64_in _ (by omega)
    clear hc2 ho2
    go_wp2
    clear x1
    go_loopw [3, 4] (fun v i wr => ∃ (z : Int) (n : Nat), n ≤ 4 ∧ v = .int .i64 z ∧ i = .int .i64 n ∧ Cur wr g (m + 4 + 2 * (4 - n)) ∧ Only g (g + 1) w wr) (fun v i _ => (intOf i).toNat)
    case atStart => exact ⟨0, x + 1, by omega, rfl, by go_num, HC2.out.more (by omega), HO2.out⟩
    case round =>
      obtain ⟨z, n, hn, rfl, rfl, hc, ho⟩ := hrel
      have HC := Lib.hid hc
      have HO := Lib.hid ho
      clear hc ho
      by_cases h0 : 0 < n
      · have i0 : (0 : Int) < (n : Int) := by omega
        go_wp2_with fail
        refine (pick_calls g _ 23 _ HC.out (by omega) (by omega) (by omega)).mono ?_
        rintro e w3 ⟨y, rfl, hy, hc3, ho3⟩
        have HC3 := Lib.hid (hc3.more (show _ ≤ m + 4 + 2 * (4 - (n - 1)) by omega))
        have HO3 := Lib.hid (HO.out.trans ho3)
        have y0 : (0 : Int) ≤ (y : Int) := by omega
        clear hc3 ho3
        go_wp2
        go_roundw
        case rel => exact ⟨_, n - 1, by omega, rfl, by go_num, HC3.out, HO3.out⟩
        case measure => simp [intOf]; omega
      · obtain rfl : n = 0 := by omega
        go_wp2
        go_ret
        exact ⟨z, rfl, HC.out.more (by omega), HO.out⟩
  · have hg := HC1.out.1
    have HC := Lib.hid (among_calls g (m + 2) w1.heap.size 9 9 strks _ (HC1.out.alloc (.cells (strks.map (Value.int .i64)).toArray 3)) (by omega) (by decide) (by decide) (by decide) (by omega) (by simp) (fun j t ht => new_at (w := w1) (xs := strks.map (Value.int .i64)) (by simp [ht])))
    have HO := Lib.hid (show Only g (g + 1) w (w1.alloc (.cells (strks.map (Value.int .i64)).toArray 3)) from only_alloc HO1.out _)
    go_wp2_with fail
    refine HC.out.mono ?_
    rintro e w2 ⟨t, rfl, -, hc2, ho2⟩
    have HC2 := Lib.hid hc2
    have HO2 := Lib.hid (HO.out.trans ho2)
    clear hc2 ho2
    go_wp2
    go_ret
    exact ⟨t, rfl, HC2.out.more (by omega), HO2.out⟩

def anys : List Int := [0, -1, 8388608, 8388607, 1, 1099511627776]
set_option maxHeartbeats 2000000 in
theorem anyStroke_calls (g m : Nat) (w : World) (h : Cur w g m) (hm : m ≤ 40000000) : Calls Tryz.prog 132 #[.pointer (some ⟨g, 0, none⟩)] w (DrewInt g (m + 14) w) := by
  go_enter Tryz.func132, Tryz.ntmps132
  go_wp2_with fail
  refine (one_calls g m 12 _ h (by omega) (by omega) (by omega)).mono ?_
  rintro e w1 ⟨b, rfl, hc1, ho1⟩
  have HC1 := Lib.hid hc1
  have HO1 := Lib.hid ho1
  clear hc1 ho1
  cases b
  · go_wp2_with fail
    refine (stroke_calls g (m + 2) _ HC1.out (by omega)).mono ?_
    rintro e w2 ⟨t, rfl, hc2, ho2⟩
    have HC2 := Lib.hid hc2
    have HO2 := Lib.hid (HO1.out.trans ho2)
    clear hc2 ho2
    go_wp2
    go_ret
    exact ⟨t, rfl, HC2.out.more (by omega), HO2.out⟩
  · have hg := HC1.out.1
    have HC := Lib.hid (among_calls g (m + 2) w1.heap.size 6 6 anys _ (HC1.out.alloc (.cells (anys.map (Value.int .i64)).toArray 3)) (by omega) (by decide) (by decide) (by decide) (by omega) (by simp) (fun j t ht => new_at (w := w1) (xs := anys.map (Value.int .i64)) (by simp [ht])))
    have HO := Lib.hid (show Only g (g + 1) w (w1.alloc (.cells (anys.map (Value.int .i64)).toArray 3)) from only_alloc HO1.out _)
    go_wp2_with fail
    refine HC.out.mono ?_
    rintro e w2 ⟨t, rfl, -, hc2, ho2⟩
    have HC2 := Lib.hid hc2
    have HO2 := Lib.hid (HO.out.trans ho2)
    clear hc2 ho2
    go_wp2
    go_ret
    exact ⟨t, rfl, HC2.out.more (by omega), HO2.out⟩

/-- A draw gave a list of at most n numbers. -/
def DrewInts (n g m : Nat) (w : World) (e : Ending) (w' : World) : Prop := ∃ (v : Value) (xs : List Int), e = .returned v ∧ Own w' w.heap.size w'.heap.size 3 1 v xs.length (ints xs) ∧ xs.length ≤ n ∧ Cur w' g m ∧ Only g (g + 1) w w'
theorem ints_snocD (xs : List Int) (t : Int) : ints xs ++ [.int .i64 t] = ints (xs ++ [t]) := by simp [ints]

set_option maxHeartbeats 4000000 in
theorem outline_calls (g m : Nat) (w : World) (h : Cur w g m) (hm : m ≤ 30000000) : Calls Tryz.prog 129 #[.pointer (some ⟨g, 0, none⟩)] w (DrewInts 3 g (m + 50) w) := by
  have hg := h.1
  have own0 : (w.alloc (.cells #[] 3)).ownsRow w.heap.size 3 1 (.slice (some ⟨w.heap.size, 0, none⟩) 0 0) 0 [] := World.ownsRow_made _ _ _ (Nat.le_refl _) (by simp) rfl
  have ho0 : Only g (g + 1) w (w.alloc (.cells #[] 3)) := only_alloc (Only.refl w) _
  go_enter Tryz.func129, Tryz.ntmps129
  go_wp2_with fail
  refine (pick_calls g m 3 _ (h.alloc _) (by omega) (by omega) (by omega)).mono ?_
  rintro e w1 ⟨x, rfl, hx, hc1, ho1⟩
  have own1 := ownsRow_only own0 ho1 (fun g' hg' => by have := (own0.lt g' hg').1; omega)
  have HC1 := Lib.hid hc1
  have HO1 := Lib.hid (ho0.trans ho1)
  have x1 : IntKind.i64.wrap (1 + (x : Int)) = 1 + (x : Int) := IntWalk.i64_in _ (by omega)
  clear hc1 ho1 ho0 own0
  go_wp2
  clear x1
  go_loopw [3, 4] (fun v i wr => ∃ (xs : List Int) (n : Nat), n ≤ 3 ∧ xs.length + n ≤ 3 ∧ i = .int .i64 n ∧ wr.ownsRow w.heap.size 3 1 v xs.length (ints xs) ∧ Cur wr g (m + 2 + 14 * (3 - n)) ∧ Only g (g + 1) w wr) (fun v i _ => (intOf i).toNat)
  case atStart => exact ⟨[], x + 1, by omega, by simp; omega, by go_num, own1, HC1.out.more (by omega), HO1.out⟩
  case round =>
    obtain ⟨xs, n, hn, hxn, rfl, own, hc, ho⟩ := hrel
    obtain ⟨Av, kv, rfl, -, -, -⟩ := (Own.of_row own).slice
    have HC := Lib.hid hc
    have HO := Lib.hid ho
    clear hc ho own1
    by_cases h0 : 0 < n
    · have i0 : (0 : Int) < (n : Int) := by omega
      go_wp2_with fail
      refine (one_calls g _ 5 _ HC.out (by omega) (by omega) (by omega)).mono ?_
      rintro e w3 ⟨b, rfl, hc3, ho3⟩
      have own3 := ownsRow_only own ho3 (fun g' hg' => by have := (own.lt g' hg').1; omega)
      have HC3 := Lib.hid hc3
      have HO3 := Lib.hid (HO.out.trans ho3)
      clear hc3 ho3 own
      cases b
      · go_wp2_with fail
        refine (few_calls g _ _ HC3.out (by omega)).mono ?_
        rintro e w4 ⟨t, rfl, hc4, ho4⟩
        have own4 := ownsRow_only own3 ho4 (fun g' hg' => by have := (own3.lt g' hg').1; omega)
        have HC4 := Lib.hid hc4
        have HO4 := Lib.hid (HO3.out.trans ho4)
        have hz4 := HO4.out.size
        clear hc4 ho4 own3
        go_wp2_with (at_builtin; refine wpList_append_oneA own4 hz4 (.tmp 20) (.tmp 23) 26 Tryz.underlying26 info_int (by omega) (by unfold maxLen; omega) ⟨rfl, rfl, rfl, rfl, rfl, rfl⟩ rfl ?_; intro v5 w5 own5 gr5 at5)
        go_roundw
        case rel =>
          refine ⟨xs ++ [t], n - 1, by omega, by simp; omega, by go_num, ?_, (cur_row HC4.out gr5 (fun b hb => by have := (own4.lt b hb).1; omega)).more (by omega), only_row HO4.out gr5 (fun b hb => (own4.lt b hb).1)⟩
          rw [← ints_snocD, List.length_append]
          exact own5
        case measure => simp [intOf]; omega
      · go_wp2_with fail
        refine (stroke_calls g _ _ HC3.out (by omega)).mono ?_
        rintro e w4 ⟨t, rfl, hc4, ho4⟩
        have own4 := ownsRow_only own3 ho4 (fun g' hg' => by have := (own3.lt g' hg').1; omega)
        have HC4 := Lib.hid hc4
        have HO4 := Lib.hid (HO3.out.trans ho4)
        have hz4 := HO4.out.size
        clear hc4 ho4 own3
        go_wp2_with (at_builtin; refine wpList_append_oneA own4 hz4 (.tmp 15) (.tmp 18) 26 Tryz.underlying26 info_int (by omega) (by unfold maxLen; omega) ⟨rfl, rfl, rfl, rfl, rfl, rfl⟩ rfl ?_; intro v5 w5 own5 gr5 at5)
        go_roundw
        case rel =>
          refine ⟨xs ++ [t], n - 1, by omega, by simp; omega, by go_num, ?_, (cur_row HC4.out gr5 (fun b hb => by have := (own4.lt b hb).1; omega)).more (by omega), only_row HO4.out gr5 (fun b hb => (own4.lt b hb).1)⟩
          rw [← ints_snocD, List.length_append]
          exact own5
        case measure => simp [intOf]; omega
    · obtain rfl : n = 0 := by omega
      go_wp2
      go_ret
      exact ⟨_, xs, rfl, Own.of_row own, by omega, HC.out.more (by omega), HO.out⟩
end Go.Proofs.YtekidodfcanjaaaGreatDoor
namespace Go.Proofs.YtekidodfcanjaaaGreatDoor
open Go.RowKit
set_option linter.unusedVariables false
set_option maxRecDepth 100000

set_option maxHeartbeats 4000000 in
theorem anyOutline_calls (g m : Nat) (w : World) (h : Cur w g m) (hm : m ≤ 20000000) : Calls Tryz.prog 120 #[.pointer (some ⟨g, 0, none⟩)] w (DrewInts 8 g (m + 70) w) := by
  have hg := h.1
  go_enter Tryz.func120, Tryz.ntmps120
  go_wp2_with fail
  refine (pick_calls g m 16 _ h (by omega) (by omega) (by omega)).mono ?_
  rintro e w1 ⟨x, rfl, hx, hc1, ho1⟩
  have HC1 := Lib.hid hc1
  have HO1 := Lib.hid ho1
  have hs1 := ho1.size
  have hg1 := hc1.1
  have own0 : (w1.alloc (.cells #[] 3)).ownsRow w.heap.size 3 1 (.slice (some ⟨w1.heap.size, 0, none⟩) 0 0) 0 [] := World.ownsRow_made _ _ _ hs1 (by simp) rfl
  have ho0 : Only g (g + 1) w (w1.alloc (.cells #[] 3)) := only_alloc ho1 _
  have HC0 := Lib.hid (hc1.alloc (.cells #[] 3))
  clear hc1 ho1
  by_cases h0 : x = 0
  · subst h0
    go_wp2
    go_ret
    exact ⟨_, [], rfl, Own.of_row own0, by simp, HC0.out.more (by omega), ho0⟩
  have i0 : ((x : Int) == 0) = false := by simp; omega
  have j0 : (x == 0) = false := by simp; omega
  by_cases h1 : x = 1
  · subst h1
    go_wp2_with fail
    refine (pick_calls g (m + 2) 2 _ HC0.out (by omega) (by omega) (by omega)).mono ?_
    rintro e w2 ⟨y, rfl, hy, hc2, ho2⟩
    have own2 := ownsRow_only own0 ho2 (fun g' hg' => by have := (own0.lt g' hg').1; omega)
    have HC2 := Lib.hid hc2
    have HO2 := Lib.hid (ho0.trans ho2)
    have x1 : IntKind.i64.wrap (6 + (y : Int)) = 6 + (y : Int) := IntWalk.i64_in _ (by omega)
    clear hc2 ho2 ho0 own0
    go_wp2
    clear x1
    go_loopw [3, 4] (fun v i wr => ∃ (xs : List Int) (n : Nat), n ≤ 7 ∧ xs.length + n ≤ 7 ∧ i = .int .i64 n ∧ wr.ownsRow w.heap.size 3 1 v xs.length (ints xs) ∧ Cur wr g (m + 4 + 2 * (7 - n)) ∧ Only g (g + 1) w wr) (fun v i _ => (intOf i).toNat)
    case atStart => exact ⟨[], y + 6, by omega, by simp; omega, by go_num, own2, HC2.out.more (by omega), HO2.out⟩
    case round =>
      obtain ⟨xs, n, hn, hxn, rfl, own, hc, ho⟩ := hrel
      obtain ⟨Av, kv, rfl, -, -, -⟩ := (Own.of_row own).slice
      have HC := Lib.hid hc
      have HO := Lib.hid ho
      clear hc ho own2
      by_cases h0 : 0 < n
      · have k0 : (0 : Int) < (n : Int) := by omega
        go_wp2_with fail
        refine (few_calls g _ _ HC.out (by omega)).mono ?_
        rintro e w4 ⟨t, rfl, hc4, ho4⟩
        have own4 := ownsRow_only own ho4 (fun g' hg' => by have := (own.lt g' hg').1; omega)
        have HC4 := Lib.hid hc4
        have HO4 := Lib.hid (HO.out.trans ho4)
        have hz4 := HO4.out.size
        clear hc4 ho4 own
        go_wp2_with (at_builtin; refine wpList_append_oneA own4 hz4 (.tmp 20) (.tmp 23) 26 Tryz.underlying26 info_int (by omega) (by unfold maxLen; omega) ⟨rfl, rfl, rfl, rfl, rfl, rfl⟩ rfl ?_; intro v5 w5 own5 gr5 at5)
        go_roundw
        case rel =>
          refine ⟨xs ++ [t], n - 1, by omega, by simp; omega, by go_num, ?_, (cur_row HC4.out gr5 (fun b hb => by have := (own4.lt b hb).1; omega)).more (by omega), only_row HO4.out gr5 (fun b hb => (own4.lt b hb).1)⟩
          rw [← ints_snocD, List.length_append]
          exact own5
        case measure => simp [intOf]; omega
      · obtain rfl : n = 0 := by omega
        go_wp2
        go_ret
        exact ⟨_, xs, rfl, Own.of_row own, by omega, HC.out.more (by omega), HO.out⟩
  have i1 : ((x : Int) == 1) = false := by simp; omega
  have j1 : (x == 1) = false := by simp; omega
  clear own0 ho0 HC0
  by_cases h2 : x = 2
  · subst h2
    go_wp2_with fail
    refine (outline_calls g (m + 2) _ HC1.out (by omega)).mono ?_
    rintro e w2 ⟨v2, xs, rfl, own2, hxl, hc2, ho2⟩
    obtain ⟨Av, kv, rfl, -, -, -⟩ := own2.slice
    have own2' := own2.1.base hs1
    have HC2 := Lib.hid hc2
    have HO2 := Lib.hid (HO1.out.trans ho2)
    clear hc2 ho2 own2
    go_wp2_with fail
    refine (anyStroke_calls g _ _ HC2.out (by omega)).mono ?_
    rintro e w4 ⟨t, rfl, hc4, ho4⟩
    have own4 := ownsRow_only own2' ho4 (fun g' hg' => by have := (own2'.lt g' hg').1; omega)
    have HC4 := Lib.hid hc4
    have HO4 := Lib.hid (HO2.out.trans ho4)
    have hz4 := HO4.out.size
    clear hc4 ho4 own2'
    go_wp2_with (at_builtin; refine wpList_append_oneA own4 hz4 (.tmp 29) (.tmp 32) 26 Tryz.underlying26 info_int (by omega) (by unfold maxLen; omega) ⟨rfl, rfl, rfl, rfl, rfl, rfl⟩ rfl ?_; intro v5 w5 own5 gr5 at5)
    go_ret
    refine ⟨v5, xs ++ [t], rfl, Own.of_row ?_, by simp; omega, (cur_row HC4.out gr5 (fun b hb => by have := (own4.lt b hb).1; omega)).more (by omega), only_row HO4.out gr5 (fun b hb => (own4.lt b hb).1)⟩
    rw [← ints_snocD, List.length_append]
    exact own5
  · have i2 : ((x : Int) == 2) = false := by simp; omega
    have j2 : (x == 2) = false := by simp; omega
    go_wp2_with fail
    refine (outline_calls g (m + 2) _ HC1.out (by omega)).mono ?_
    rintro e w2 ⟨v2, xs, rfl, own2, hxl, hc2, ho2⟩
    have own2' := own2.1.base hs1
    have HC2 := Lib.hid hc2
    have HO2 := Lib.hid (HO1.out.trans ho2)
    clear hc2 ho2 own2
    go_wp2
    go_ret
    exact ⟨v2, xs, rfl, Own.of_row own2', by omega, HC2.out.more (by omega), HO2.out⟩
end Go.Proofs.YtekidodfcanjaaaGreatDoor
namespace Go.Proofs.YtekidodfcanjaaaGreatDoor
open Go.RowKit
set_option linter.unusedVariables false
set_option linter.unusedSimpArgs false
set_option maxRecDepth 100000

/-- A draw gave some short text. -/
def DrewText (n g m : Nat) (w : World) (e : Ending) (w' : World) : Prop := ∃ t : ByteArray, e = .returned (.string t) ∧ t.size ≤ n ∧ Cur w' g m ∧ Only g (g + 1) w w'
theorem of_new (g m : Nat) (ts : List ByteArray) (w : World) (h : Cur w g m) (hm : m ≤ 100000000) (h0 : 1 ≤ ts.length) (h9 : ts.length ≤ 65535) (n : Nat) (hn : ∀ t ∈ ts, t.size ≤ n) :
    Calls Tryz.prog 108 #[.pointer (some ⟨g, 0, none⟩), .slice (some ⟨w.heap.size, 0, none⟩) ts.length ts.length] (w.alloc (.cells (ts.map Value.string).toArray 9)) (DrewText n g (m + 2) w) := by
  have hg := h.1
  refine (of_calls g m w.heap.size ts.length ts _ (h.alloc _) hm h0 h9 (by omega) (by simp) (fun j t ht => new_at (w := w) (xs := ts.map Value.string) (by simp [ht]))).mono ?_
  rintro e w' ⟨t, rfl, ht, hc, ho⟩
  exact ⟨t, rfl, hn t ht, hc, (only_alloc (Only.refl w) _).trans ho⟩
def wordTL : List ByteArray := [⟨#[99, 97, 116]⟩, ⟨#[104, 97, 112, 112, 121]⟩, ⟨#[109, 97, 107, 101]⟩, ⟨#[114, 117, 110]⟩, ⟨#[116, 114, 121]⟩, ⟨#[98, 111, 120]⟩, ⟨#[100, 105, 101]⟩, ⟨#[97]⟩, ⟨#[71, 111]⟩, ⟨#[52, 50]⟩, ⟨#[100, 111, 110, 39, 116]⟩, ⟨#[98, 101, 101]⟩, ⟨#[115]⟩, ⟨#[105, 110, 103]⟩, ⟨#[99, 104, 117, 114, 99, 104]⟩, ⟨#[112, 108, 97, 121]⟩]
theorem wordTL_size : ∀ t ∈ wordTL, t.size ≤ 10 := by
  intro t ht
  simp only [wordTL, List.mem_cons, List.not_mem_nil, or_false] at ht
  rcases ht with rfl | rfl | rfl | rfl | rfl | rfl | rfl | rfl | rfl | rfl | rfl | rfl | rfl | rfl | rfl | rfl <;> decide
def sfxTL : List ByteArray := [⟨#[105, 110, 103]⟩, ⟨#[115]⟩, ⟨#[101, 100]⟩, ⟨#[110, 101, 115, 115]⟩, ⟨#[101, 114]⟩, ⟨#[108, 121]⟩]
theorem sfxTL_size : ∀ t ∈ sfxTL, t.size ≤ 10 := by
  intro t ht
  simp only [sfxTL, List.mem_cons, List.not_mem_nil, or_false] at ht
  rcases ht with rfl | rfl | rfl | rfl | rfl | rfl <;> decide
def pfxTL : List ByteArray := [⟨#[117, 110]⟩, ⟨#[114, 101]⟩, ⟨#[40]⟩]
theorem pfxTL_size : ∀ t ∈ pfxTL, t.size ≤ 10 := by
  intro t ht
  simp only [pfxTL, List.mem_cons, List.not_mem_nil, or_false] at ht
  rcases ht with rfl | rfl | rfl <;> decide
def ifxTL : List ByteArray := [⟨#[45]⟩, ⟨#[47]⟩, ⟨#[39]⟩]
theorem ifxTL_size : ∀ t ∈ ifxTL, t.size ≤ 10 := by
  intro t ht
  simp only [ifxTL, List.mem_cons, List.not_mem_nil, or_false] at ht
  rcases ht with rfl | rfl | rfl <;> decide
def glTL : List ByteArray := [⟨#[97]⟩, ⟨#[98]⟩, ⟨#[55]⟩]
theorem glTL_size : ∀ t ∈ glTL, t.size ≤ 10 := by
  intro t ht
  simp only [glTL, List.mem_cons, List.not_mem_nil, or_false] at ht
  rcases ht with rfl | rfl | rfl <;> decide
def stpTL : List ByteArray := [⟨#[46]⟩, ⟨#[33]⟩, ⟨#[63]⟩]
theorem stpTL_size : ∀ t ∈ stpTL, t.size ≤ 10 := by
  intro t ht
  simp only [stpTL, List.mem_cons, List.not_mem_nil, or_false] at ht
  rcases ht with rfl | rfl | rfl <;> decide
def cmaTL : List ByteArray := [⟨#[44]⟩, ⟨#[59]⟩, ⟨#[58]⟩]
theorem cmaTL_size : ∀ t ∈ cmaTL, t.size ≤ 10 := by
  intro t ht
  simp only [cmaTL, List.mem_cons, List.not_mem_nil, or_false] at ht
  rcases ht with rfl | rfl | rfl <;> decide
set_option maxHeartbeats 1000000 in
theorem wordText_calls (g m : Nat) (w : World) (h : Cur w g m) (hm : m ≤ 60000000) : Calls Tryz.prog 163 #[.pointer (some ⟨g, 0, none⟩)] w (DrewText 10 g (m + 2) w) := by
  have HF := Lib.hid (of_new g m wordTL w h (by omega) (by decide) (by decide) 10 wordTL_size)
  go_enter Tryz.func163, Tryz.ntmps163
  go_wp2_with fail
  refine HF.out.mono ?_
  rintro e w1 ⟨t, rfl, ht, hc, ho⟩
  have HC := Lib.hid hc
  have HO := Lib.hid ho
  clear hc ho
  go_wp2
  go_ret
  exact ⟨t, rfl, ht, HC.out, HO.out⟩

/-- A draw gave some atom. -/
def DrewAtom (g m : Nat) (w : World) (e : Ending) (w' : World) : Prop := ∃ (k : Int) (t : ByteArray), e = .returned (.agg #[.int .i64 k, .string t]) ∧ t.size ≤ 10 ∧ Cur w' g m ∧ Only g (g + 1) w w'
theorem atom_set {g m : Nat} {w wa : World} (k : Int) (t : ByteArray) (hc : Cur wa g m) (ho : Only g (g + 1) w wa) (hg : g < w.heap.size) : Cur ((wa.setCell ⟨w.heap.size, 0, none⟩ (.int .i64 k)).setCell ⟨w.heap.size, 1, none⟩ (.string t)) g m ∧ Only g (g + 1) w ((wa.setCell ⟨w.heap.size, 0, none⟩ (.int .i64 k)).setCell ⟨w.heap.size, 1, none⟩ (.string t)) := by
  have hb : Below w.heap.size wa ((wa.setCell ⟨w.heap.size, 0, none⟩ (.int .i64 k)).setCell ⟨w.heap.size, 1, none⟩ (.string t)) := ((Below.refl _ _).setCell (by exact Nat.le_refl _) _).setCell (by exact Nat.le_refl _) _
  exact ⟨hc.below (hb.mono (by omega)), ⟨hb.os.trans ho.os, hb.tape.trans ho.tape, hb.output.trans ho.output, Nat.le_trans ho.size hb.size, fun k hk hd => (hb.block k hk).trans (ho.block k hk hd)⟩⟩

set_option maxHeartbeats 8000000 in
theorem atom_calls (g m : Nat) (w : World) (h : Cur w g m) (hm : m ≤ 50000000) : Calls Tryz.prog 153 #[.pointer (some ⟨g, 0, none⟩)] w (DrewAtom g (m + 6) w) := by
  have hg := h.1
  obtain ⟨W1, hW1⟩ : ∃ W1, W1 = w.alloc (.cells #[.int .i64 0, .string ⟨#[]⟩] 129) := ⟨_, rfl⟩
  have tw : Two W1 w.heap.size 129 (.int .i64 0) (.string ⟨#[]⟩) := by rw [hW1]; exact Two.new w _ _ _
  have HC0 := Lib.hid (show Cur W1 g m by rw [hW1]; exact h.alloc _)
  have ho0 : Only g (g + 1) w W1 := by rw [hW1]; exact only_alloc (Only.refl w) _
  go_enter Tryz.func153, Tryz.ntmps153
  go_wp2_with fail
  rw [← hW1]
  clear hW1
  refine (pick_calls g m 14 _ HC0.out (by omega) (by omega) (by omega)).mono ?_
  rintro e w1 ⟨x, rfl, hx, hc1, ho1⟩
  have tw1 := tw.only ho1 (.inr (by omega))
  have HC1 := Lib.hid hc1
  have HO1 := Lib.hid (ho0.trans ho1)
  clear hc1 ho1 tw ho0
  by_cases h0 : x = 0
  · subst h0
    have HF := Lib.hid (of_new g (m + 2) sfxTL w1 HC1.out (by omega) (by decide) (by decide) 10 sfxTL_size)
    go_wp2_with fail
    refine HF.out.mono ?_
    rintro e w2 ⟨t, rfl, ht, hc2, ho2⟩
    have tw2 := tw1.only ho2 (.inr (by omega))
    have HC2 := Lib.hid hc2
    have HO2 := Lib.hid (HO1.out.trans ho2)
    have c0 := tw2.cell0
    have c1 := tw2.cell1
    have f0 := tw2.free
    clear hc2 ho2
    go_wp2
    refine bodyPost_ret (v := .agg #[.int .i64 2, .string t]) (by simp [results, go_sem, c0, c1]) rfl ?_
    have HA := atom_set 2 t HC2.out HO2.out hg
    exact ⟨2, t, rfl, ht, HA.1.more (by omega), HA.2⟩
  have i0 : ((x : Int) == 0) = false := by simp; omega
  have j0 : (x == 0) = false := by simp; omega
  by_cases h1 : x = 1
  · subst h1
    have HF := Lib.hid (of_new g (m + 2) sfxTL w1 HC1.out (by omega) (by decide) (by decide) 10 sfxTL_size)
    go_wp2_with fail
    refine HF.out.mono ?_
    rintro e w2 ⟨t, rfl, ht, hc2, ho2⟩
    have tw2 := tw1.only ho2 (.inr (by omega))
    have HC2 := Lib.hid hc2
    have HO2 := Lib.hid (HO1.out.trans ho2)
    have c0 := tw2.cell0
    have c1 := tw2.cell1
    have f0 := tw2.free
    clear hc2 ho2
    go_wp2
    refine bodyPost_ret (v := .agg #[.int .i64 2, .string t]) (by simp [results, go_sem, c0, c1]) rfl ?_
    have HA := atom_set 2 t HC2.out HO2.out hg
    exact ⟨2, t, rfl, ht, HA.1.more (by omega), HA.2⟩
  have i1 : ((x : Int) == 1) = false := by simp; omega
  have j1 : (x == 1) = false := by simp; omega
  by_cases h2 : x = 2
  · subst h2
    have HF := Lib.hid (of_new g (m + 2) pfxTL w1 HC1.out (by omega) (by decide) (by decide) 10 pfxTL_size)
    go_wp2_with fail
    refine HF.out.mono ?_
    rintro e w2 ⟨t, rfl, ht, hc2, ho2⟩
    have tw2 := tw1.only ho2 (.inr (by omega))
    have HC2 := Lib.hid hc2
    have HO2 := Lib.hid (HO1.out.trans ho2)
    have c0 := tw2.cell0
    have c1 := tw2.cell1
    have f0 := tw2.free
    clear hc2 ho2
    go_wp2
    refine bodyPost_ret (v := .agg #[.int .i64 3, .string t]) (by simp [results, go_sem, c0, c1]) rfl ?_
    have HA := atom_set 3 t HC2.out HO2.out hg
    exact ⟨3, t, rfl, ht, HA.1.more (by omega), HA.2⟩
  have i2 : ((x : Int) == 2) = false := by simp; omega
  have j2 : (x == 2) = false := by simp; omega
  by_cases h3 : x = 3
  · subst h3
    have HF := Lib.hid (of_new g (m + 2) ifxTL w1 HC1.out (by omega) (by decide) (by decide) 10 ifxTL_size)
    go_wp2_with fail
    refine HF.out.mono ?_
    rintro e w2 ⟨t, rfl, ht, hc2, ho2⟩
    have tw2 := tw1.only ho2 (.inr (by omega))
    have HC2 := Lib.hid hc2
    have HO2 := Lib.hid (HO1.out.trans ho2)
    have c0 := tw2.cell0
    have c1 := tw2.cell1
    have f0 := tw2.free
    clear hc2 ho2
    go_wp2
    refine bodyPost_ret (v := .agg #[.int .i64 4, .string t]) (by simp [results, go_sem, c0, c1]) rfl ?_
    have HA := atom_set 4 t HC2.out HO2.out hg
    exact ⟨4, t, rfl, ht, HA.1.more (by omega), HA.2⟩
  have i3 : ((x : Int) == 3) = false := by simp; omega
  have j3 : (x == 3) = false := by simp; omega
  by_cases h4 : x = 4
  · subst h4
    have HF := Lib.hid (of_new g (m + 2) glTL w1 HC1.out (by omega) (by decide) (by decide) 10 glTL_size)
    go_wp2_with fail
    refine HF.out.mono ?_
    rintro e w2 ⟨t, rfl, ht, hc2, ho2⟩
    have tw2 := tw1.only ho2 (.inr (by omega))
    have HC2 := Lib.hid hc2
    have HO2 := Lib.hid (HO1.out.trans ho2)
    have c0 := tw2.cell0
    have c1 := tw2.cell1
    have f0 := tw2.free
    clear hc2 ho2
    go_wp2
    refine bodyPost_ret (v := .agg #[.int .i64 5, .string t]) (by simp [results, go_sem, c0, c1]) rfl ?_
    have HA := atom_set 5 t HC2.out HO2.out hg
    exact ⟨5, t, rfl, ht, HA.1.more (by omega), HA.2⟩
  have i4 : ((x : Int) == 4) = false := by simp; omega
  have j4 : (x == 4) = false := by simp; omega
  by_cases h5 : x = 5
  · subst h5
    have HF := Lib.hid (of_new g (m + 2) stpTL w1 HC1.out (by omega) (by decide) (by decide) 10 stpTL_size)
    go_wp2_with fail
    refine HF.out.mono ?_
    rintro e w2 ⟨t, rfl, ht, hc2, ho2⟩
    have tw2 := tw1.only ho2 (.inr (by omega))
    have HC2 := Lib.hid hc2
    have HO2 := Lib.hid (HO1.out.trans ho2)
    have c0 := tw2.cell0
    have c1 := tw2.cell1
    have f0 := tw2.free
    clear hc2 ho2
    go_wp2
    refine bodyPost_ret (v := .agg #[.int .i64 6, .string t]) (by simp [results, go_sem, c0, c1]) rfl ?_
    have HA := atom_set 6 t HC2.out HO2.out hg
    exact ⟨6, t, rfl, ht, HA.1.more (by omega), HA.2⟩
  have i5 : ((x : Int) == 5) = false := by simp; omega
  have j5 : (x == 5) = false := by simp; omega
  by_cases h6 : x = 6
  · subst h6
    have HF := Lib.hid (of_new g (m + 2) cmaTL w1 HC1.out (by omega) (by decide) (by decide) 10 cmaTL_size)
    go_wp2_with fail
    refine HF.out.mono ?_
    rintro e w2 ⟨t, rfl, ht, hc2, ho2⟩
    have tw2 := tw1.only ho2 (.inr (by omega))
    have HC2 := Lib.hid hc2
    have HO2 := Lib.hid (HO1.out.trans ho2)
    have c0 := tw2.cell0
    have c1 := tw2.cell1
    have f0 := tw2.free
    clear hc2 ho2
    go_wp2
    refine bodyPost_ret (v := .agg #[.int .i64 7, .string t]) (by simp [results, go_sem, c0, c1]) rfl ?_
    have HA := atom_set 7 t HC2.out HO2.out hg
    exact ⟨7, t, rfl, ht, HA.1.more (by omega), HA.2⟩
  have i6 : ((x : Int) == 6) = false := by simp; omega
  have j6 : (x == 6) = false := by simp; omega
  by_cases h7 : x = 7
  · subst h7
    go_wp2_with fail
    refine (pick_calls g (m + 2) 3 _ HC1.out (by omega) (by omega) (by omega)).mono ?_
    rintro e w2 ⟨y, rfl, hy, hc2, ho2⟩
    have tw2 := tw1.only ho2 (.inr (by omega))
    have HC2 := Lib.hid hc2
    have HO2 := Lib.hid (HO1.out.trans ho2)
    have c0 := tw2.cell0
    have c1 := tw2.cell1
    have f0 := tw2.free
    have x1 : IntKind.i64.wrap (8 + (y : Int)) = 8 + (y : Int) := IntWalk.i64_in _ (by omega)
    clear hc2 ho2
    go_wp2
    refine bodyPost_ret (v := .agg #[.int .i64 (8 + (y : Int)), .string ⟨#[]⟩]) (by simp [results, go_sem, c0, c1]) rfl ?_
    have HA := atom_set (8 + (y : Int)) ⟨#[]⟩ HC2.out HO2.out hg
    exact ⟨8 + (y : Int), ⟨#[]⟩, rfl, by decide, HA.1.more (by omega), HA.2⟩
  have i7 : ((x : Int) == 7) = false := by simp; omega
  have j7 : (x == 7) = false := by simp; omega
  have HF := Lib.hid (wordText_calls g (m + 2) w1 HC1.out (by omega))
  go_wp2_with fail
  refine HF.out.mono ?_
  rintro e w2 ⟨t, rfl, ht, hc2, ho2⟩
  have tw2 := tw1.only ho2 (.inr (by omega))
  have HC2 := Lib.hid hc2
  have HO2 := Lib.hid (HO1.out.trans ho2)
  have c0 := tw2.cell0
  have c1 := tw2.cell1
  have f0 := tw2.free
  clear hc2 ho2
  go_wp2
  refine bodyPost_ret (v := .agg #[.int .i64 1, .string t]) (by simp [results, go_sem, c0, c1]) rfl ?_
  have HA := atom_set 1 t HC2.out HO2.out hg
  exact ⟨1, t, rfl, ht, HA.1.more (by omega), HA.2⟩
end Go.Proofs.YtekidodfcanjaaaGreatDoor
namespace Go.Proofs.YtekidodfcanjaaaGreatDoor
open Go.RowKit
set_option linter.unusedVariables false
set_option linter.unusedSimpArgs false
set_option maxRecDepth 100000

/-- A draw gave some short atoms. -/
def DrewAtoms (g m : Nat) (w : World) (e : Ending) (w' : World) : Prop := ∃ (v : Value) (ls : List AtomD), e = .returned v ∧ Own w' w.heap.size w'.heap.size 129 2 v ls.length (flat2 (atomsP ls)) ∧ ls.length ≤ 4 ∧ (∀ a ∈ ls, a.2.size ≤ 10) ∧ Cur w' g m ∧ Only g (g + 1) w w'

set_option maxHeartbeats 4000000 in
theorem atoms_calls (g m : Nat) (w : World) (h : Cur w g m) (hm : m ≤ 30000000) : Calls Tryz.prog 139 #[.pointer (some ⟨g, 0, none⟩)] w (DrewAtoms g (m + 30) w) := by
  have hg := h.1
  have own0 : (w.alloc (.cells #[] 129)).ownsRow w.heap.size 129 2 (.slice (some ⟨w.heap.size, 0, none⟩) 0 0) 0 [] := World.ownsRow_made _ _ _ (Nat.le_refl _) (by simp) rfl
  have ho0 : Only g (g + 1) w (w.alloc (.cells #[] 129)) := only_alloc (Only.refl w) _
  go_enter Tryz.func139, Tryz.ntmps139
  go_wp2_with fail
  refine (pick_calls g m 4 _ (h.alloc _) (by omega) (by omega) (by omega)).mono ?_
  rintro e w1 ⟨x, rfl, hx, hc1, ho1⟩
  have own1 := ownsRow_only own0 ho1 (fun g' hg' => by have := (own0.lt g' hg').1; omega)
  have HC1 := Lib.hid hc1
  have HO1 := Lib.hid (ho0.trans ho1)
  have x1 : IntKind.i64.wrap (1 + (x : Int)) = 1 + (x : Int) := IntWalk.i64_in _ (by omega)
  clear hc1 ho1 ho0 own0
  go_wp2
  clear x1
  go_loopw [3, 4] (fun v i wr => ∃ (ls : List AtomD) (n : Nat), n ≤ 4 ∧ ls.length + n ≤ 4 ∧ i = .int .i64 n ∧ (∀ a ∈ ls, a.2.size ≤ 10) ∧ wr.ownsRow w.heap.size 129 2 v ls.length (flat2 (atomsP ls)) ∧ Cur wr g (m + 2 + 6 * (4 - n)) ∧ Only g (g + 1) w wr) (fun v i _ => (intOf i).toNat)
  case atStart => exact ⟨[], x + 1, by omega, by simp; omega, by go_num, by simp, own1, HC1.out.more (by omega), HO1.out⟩
  case round =>
    obtain ⟨ls, n, hn, hxn, rfl, hls, own, hc, ho⟩ := hrel
    obtain ⟨Av, kv, rfl, -, -, -⟩ := (Own.of_row own).slice
    have HC := Lib.hid hc
    have HO := Lib.hid ho
    have HLS := Lib.hid hls
    clear hc ho own1 hls
    by_cases h0 : 0 < n
    · have i0 : (0 : Int) < (n : Int) := by omega
      go_wp2_with fail
      refine (atom_calls g _ _ HC.out (by omega)).mono ?_
      rintro e w4 ⟨k, t, rfl, ht, hc4, ho4⟩
      have own4 := ownsRow_only own ho4 (fun g' hg' => by have := (own.lt g' hg').1; omega)
      have HC4 := Lib.hid hc4
      have HO4 := Lib.hid (HO.out.trans ho4)
      have hz4 := HO4.out.size
      clear hc4 ho4 own
      go_wp2_with (at_builtin; refine wpList_append_twoG own4 hz4 (.tmp 13) (.tmp 16) 114 Tryz.underlying114 info_atom (by omega) (by unfold maxLen; omega) ⟨rfl, rfl, rfl, rfl, rfl, rfl, rfl⟩ rfl ?_; intro v5 w5 own5 gr5)
      go_roundw
      case rel =>
        refine ⟨ls ++ [(k, t)], n - 1, by omega, by simp; omega, by go_num, fun a ha => ?_, ?_, (cur_row HC4.out gr5 (fun b hb => by have := (own4.lt b hb).1; omega)).more (by omega), only_row HO4.out gr5 (fun b hb => (own4.lt b hb).1)⟩
        · rcases List.mem_append.1 ha with h | h
          · exact HLS.out a h
          · obtain rfl := List.mem_singleton.1 h
            exact ht
        · rw [List.length_append, atomsP_snoc, flat2_snoc]
          exact own5
      case measure => simp [intOf]; omega
    · obtain rfl : n = 0 := by omega
      go_wp2
      go_ret
      exact ⟨_, ls, rfl, Own.of_row own, by omega, HLS.out, HC.out.more (by omega), HO.out⟩

set_option maxHeartbeats 4000000 in
theorem l5List_some (A : Option Addr) (cap : Nat) (ls : List AtomD) (w : World) (hr : Reads w w.heap.size 2 A ls.length (flat2 (atomsP ls))) (hn : ls.length ≤ 10) (hg : ∀ a ∈ ls, a.2.size ≤ 10) :
    Calls Tryz.prog 117 #[.slice A ls.length cap] w fun e w' => (∃ b : Bool, e = .returned (.bool b)) ∧ Below w.heap.size w w' := by
  cases hi : inB (ls.length : Int) 1 10
  · go_enter Tryz.func117, Tryz.ntmps117
    go_wp2_with (go_at_call 66; refine (spec_l1In _ _ _ _).mono ?_; rw [hi]; rintro e w' ⟨rfl, rfl⟩)
    go_ret
    exact ⟨⟨_, rfl⟩, Below.refl _ _⟩
  have hi2 := inB_iff.1 hi
  have HG := Lib.hid hg
  clear hg
  go_enter Tryz.func117, Tryz.ntmps117
  go_wp2_with (go_at_call 66; refine (spec_l1In _ _ _ _).mono ?_; rw [hi]; rintro e w' ⟨rfl, rfl⟩)
  clear hi
  go_loopw [3, 4] (fun s i wr => ∃ k m : Nat, k ≤ ls.length ∧ m ≤ 10 + 40 * k ∧ i = .int .i64 k ∧ s = .int .i64 m ∧ Below w.heap.size w wr) (fun _ i _ => ls.length - (intOf i).toNat)
  case atStart => exact ⟨0, ls.length - 1, Nat.zero_le _, by omega, rfl, by go_num, Below.refl _ _⟩
  case round =>
    obtain ⟨k, m, hk, hm, rfl, rfl, hb⟩ := hrel
    by_cases hlt : k < ls.length
    · obtain ⟨b, off, rfl, hb0, hc⟩ := (hr.below hb).2 (by omega)
      obtain ⟨⟨q, t⟩, hx⟩ := some_at ls hlt
      obtain ⟨c1, c2⟩ := flat2_reads (B := 0) hc (atomsP_at hx)
      have hts := HG.out _ (List.mem_of_getElem? hx)
      simp only at c1 c2 hts
      have hns := noteS_size q t
      clear hx hc
      go_wp2_with fail
      refine (spec_l5Good q t _ (by omega)).mono ?_
      generalize atomOk q t.data.toList = ok
      rintro e w1 ⟨rfl, b1⟩
      have B1 := hb.trans (b1.mono hb.size)
      cases ok
      · go_wp2
        go_ret
        exact ⟨⟨_, rfl⟩, B1⟩
      have d1 := (b1.cell (p := ⟨b, off + k * 2, none⟩) (by have := hb.size; show b < _; omega)).trans c1
      have d2 := (b1.cell (p := ⟨b, off + k * 2 + 1, none⟩) (by have := hb.size; show b < _; omega)).trans c2
      clear c1 c2
      go_wp2_with fail
      refine (spec_l5Format q t _ (by omega)).mono ?_
      rintro e w2 ⟨rfl, b2⟩
      have B2 := B1.trans (b2.mono B1.size)
      generalize noteS q t = ns at *
      go_wp2
      go_roundw
      case rel => exact ⟨k + 1, m + ns.size, by omega, by omega, by go_num, by go_num, B2⟩
      case measure => simp [intOf]; omega
    · obtain rfl : k = ls.length := by omega
      go_wp2
      go_ret
      exact ⟨⟨_, rfl⟩, hb⟩
end Go.Proofs.YtekidodfcanjaaaGreatDoor
namespace Go.Proofs.YtekidodfcanjaaaGreatDoor
open Go.RowKit
set_option linter.unusedVariables false
set_option linter.unusedSimpArgs false
set_option maxRecDepth 100000

set_option maxHeartbeats 4000000 in
theorem l5Text_some (A : Option Addr) (cap : Nat) (ls : List AtomD) (w : World) (hr : Reads w w.heap.size 2 A ls.length (flat2 (atomsP ls))) (hn : ls.length ≤ 10) (hg : ∀ a ∈ ls, a.2.size ≤ 10) :
    Calls Tryz.prog 140 #[.slice A ls.length cap] w fun e w' => (∃ t : ByteArray, e = .returned (.string t) ∧ t.size ≤ 400) ∧ Below w.heap.size w w' := by
  have HG := Lib.hid hg
  clear hg
  go_enter Tryz.func140, Tryz.ntmps140
  go_wp2
  go_loopw [3, 4] (fun s i wr => ∃ (k : Nat) (u : ByteArray), k ≤ ls.length ∧ u.size ≤ 40 * k ∧ i = .int .i64 k ∧ s = .string u ∧ Below w.heap.size w wr) (fun _ i _ => ls.length - (intOf i).toNat)
  case atStart => exact ⟨0, ⟨#[]⟩, Nat.zero_le _, by decide, rfl, rfl, Below.refl _ _⟩
  case round =>
    obtain ⟨k, u, hk, hu, rfl, rfl, hb⟩ := hrel
    by_cases hlt : k < ls.length
    · obtain ⟨b, off, rfl, hb0, hc⟩ := (hr.below hb).2 (by omega)
      obtain ⟨⟨q, t⟩, hx⟩ := some_at ls hlt
      obtain ⟨c1, c2⟩ := flat2_reads (B := 0) hc (atomsP_at hx)
      have hts := HG.out _ (List.mem_of_getElem? hx)
      simp only at c1 c2 hts
      have hns := noteS_size q t
      clear hx hc
      by_cases hk0 : 0 < k
      · have i0 : (0 : Int) < (k : Int) := by omega
        go_wp2_with fail
        refine (spec_l5Format q t _ (by omega)).mono ?_
        rintro e w2 ⟨rfl, b2⟩
        have B2 := hb.trans (b2.mono hb.size)
        generalize noteS q t = ns at *
        have s1 : (u ++ ⟨#[32]⟩ : ByteArray).size = u.size + 1 := by rw [ByteArray.size_append]; rfl
        go_wp2
        go_roundw
        case rel => exact ⟨k + 1, u ++ ⟨#[32]⟩ ++ ns, by omega, by rw [ByteArray.size_append, s1]; omega, by go_num, rfl, B2⟩
        case measure => simp [intOf]; omega
      · have i0 : ¬ (0 : Int) < (k : Int) := by omega
        go_wp2_with fail
        refine (spec_l5Format q t _ (by omega)).mono ?_
        rintro e w2 ⟨rfl, b2⟩
        have B2 := hb.trans (b2.mono hb.size)
        generalize noteS q t = ns at *
        go_wp2
        go_roundw
        case rel => exact ⟨k + 1, u ++ ns, by omega, by rw [ByteArray.size_append]; omega, by go_num, rfl, B2⟩
        case measure => simp [intOf]; omega
    · obtain rfl : k = ls.length := by omega
      go_wp2
      go_ret
      exact ⟨⟨u, rfl, by omega⟩, hb⟩

set_option maxHeartbeats 2000000 in
theorem translation_calls (g m : Nat) (w : World) (h : Cur w g m) (hm : m ≤ 30000000) : Calls Tryz.prog 130 #[.pointer (some ⟨g, 0, none⟩)] w (DrewText 400 g (m + 30) w) := by
  have hg := h.1
  go_enter Tryz.func130, Tryz.ntmps130
  go_wp2_with fail
  refine (atoms_calls g m _ h hm).mono ?_
  rintro e w1 ⟨v, ls, rfl, own, hl, hls, hc1, ho1⟩
  obtain ⟨Av, kv, rfl, -, -, -⟩ := own.slice
  have rd := Reads.of_own own.1
  have HLS := Lib.hid hls
  have HC1 := Lib.hid hc1
  have HO1 := Lib.hid ho1
  have hg1 := hc1.1
  clear hls hc1 ho1 own
  go_wp2_with fail
  refine (l5List_some Av kv ls _ rd (by omega) HLS.out).mono ?_
  rintro e w2 ⟨⟨b, rfl⟩, b2⟩
  have HC2 := Lib.hid (HC1.out.below (b2.mono (by omega)))
  have HO2 := Lib.hid (HO1.out.trans (Only.of_below b2))
  cases b
  · go_wp2
    go_ret
    exact ⟨_, rfl, by decide, HC2.out, HO2.out⟩
  · have rd2 := (rd.below b2).more b2.size
    go_wp2_with fail
    refine (l5Text_some Av kv ls _ rd2 (by omega) HLS.out).mono ?_
    rintro e w3 ⟨⟨t, rfl, ht⟩, b3⟩
    have hg2 := HC2.out.1
    have HC3 := Lib.hid (HC2.out.below (b3.mono (by omega)))
    have HO3 := Lib.hid (HO2.out.trans (Only.of_below b3))
    go_wp2
    go_ret
    exact ⟨t, rfl, ht, HC3.out, HO3.out⟩

/-- A draw gave some entry. -/
def DrewEntry (n g m : Nat) (w : World) (e : Ending) (w' : World) : Prop := ∃ (v : Value) (xs : List Int) (t : ByteArray), e = .returned (.agg #[v, .string t]) ∧ Own w' w.heap.size w'.heap.size 3 1 v xs.length (ints xs) ∧ xs.length ≤ n ∧ t.size ≤ 400 ∧ Cur w' g m ∧ Only g (g + 1) w w'
theorem cell_set {g m : Nat} {w wa : World} (a b : Value) (hc : Cur wa g m) (ho : Only g (g + 1) w wa) (hg : g < w.heap.size) : Cur ((wa.setCell ⟨w.heap.size, 0, none⟩ a).setCell ⟨w.heap.size, 1, none⟩ b) g m ∧ Only g (g + 1) w ((wa.setCell ⟨w.heap.size, 0, none⟩ a).setCell ⟨w.heap.size, 1, none⟩ b) := by
  have hb : Below w.heap.size wa ((wa.setCell ⟨w.heap.size, 0, none⟩ a).setCell ⟨w.heap.size, 1, none⟩ b) := ((Below.refl _ _).setCell (by exact Nat.le_refl _) _).setCell (by exact Nat.le_refl _) _
  exact ⟨hc.below (hb.mono (by omega)), ⟨hb.os.trans ho.os, hb.tape.trans ho.tape, hb.output.trans ho.output, Nat.le_trans ho.size hb.size, fun k hk hd => (hb.block k hk).trans (ho.block k hk hd)⟩⟩

set_option maxHeartbeats 4000000 in
theorem entry_calls (g m : Nat) (w : World) (h : Cur w g m) (hm : m ≤ 20000000) : Calls Tryz.prog 119 #[.pointer (some ⟨g, 0, none⟩)] w (DrewEntry 3 g (m + 80) w) := by
  have hg := h.1
  obtain ⟨W1, hW1⟩ : ∃ W1, W1 = w.alloc (.cells #[.slice none 0 0, .string ⟨#[]⟩] 50) := ⟨_, rfl⟩
  have tw : Two W1 w.heap.size 50 (.slice none 0 0) (.string ⟨#[]⟩) := by rw [hW1]; exact Two.new w _ _ _
  have HC0 := Lib.hid (show Cur W1 g m by rw [hW1]; exact h.alloc _)
  have ho0 : Only g (g + 1) w W1 := by rw [hW1]; exact only_alloc (Only.refl w) _
  have hs1 : W1.heap.size = w.heap.size + 1 := by rw [hW1]; simp
  go_enter Tryz.func119, Tryz.ntmps119
  go_wp2_with fail
  rw [← hW1]
  clear hW1
  refine (outline_calls g m _ HC0.out (by omega)).mono ?_
  rintro e w1 ⟨v, xs, rfl, own, hxl, hc1, ho1⟩
  obtain ⟨Av, kv, rfl, -, -, -⟩ := own.slice
  have own1 := own.1
  rw [hs1] at own1
  have tw1 := tw.only ho1 (.inr (by omega))
  have HC1 := Lib.hid hc1
  have HO1 := Lib.hid (ho0.trans ho1)
  clear hc1 ho1 tw ho0 own hs1
  go_wp2_with fail
  refine (translation_calls g (m + 50) _ HC1.out (by omega)).mono ?_
  rintro e w2 ⟨t, rfl, ht, hc2, ho2⟩
  have own2 := ownsRow_only own1 ho2 (fun g' hg' => by have := (own1.lt g' hg').1; omega)
  have tw2 := tw1.only ho2 (.inr (by omega))
  have HC2 := Lib.hid hc2
  have HO2 := Lib.hid (HO1.out.trans ho2)
  have c0 := tw2.cell0
  have c1 := tw2.cell1
  have f0 := tw2.free
  clear hc2 ho2 own1 tw1
  go_wp2
  refine bodyPost_ret (v := .agg #[.slice Av xs.length kv, .string t]) (by simp [results, go_sem, c0, c1]) rfl ?_
  have HA := cell_set (.slice Av xs.length kv) (.string t) HC2.out HO2.out hg
  have own3 := ownsRow_setCell_below (ownsRow_setCell_below own2 (a := ⟨w.heap.size, 0, none⟩) (Nat.lt_succ_self _) (.slice Av xs.length kv)) (a := ⟨w.heap.size, 1, none⟩) (Nat.lt_succ_self _) (.string t)
  exact ⟨_, xs, t, rfl, Own.of_row (own3.base (Nat.le_succ _)), hxl, ht, HA.1.more (by omega), HA.2⟩
end Go.Proofs.YtekidodfcanjaaaGreatDoor
