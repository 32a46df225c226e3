/-
  The library's Grow of a nil slice and Concat of two slices of integers.
-/
import Derived.Test.YtekidodfcanjaaaGreatDoorAtS
import Derived.Lib.AppendZerosOnto
namespace Go.Proofs.YtekidodfcanjaaaGreatDoor
open Go.RowKit
set_option linter.unusedVariables false
set_option linter.unusedSimpArgs false
set_option maxRecDepth 100000

set_option maxHeartbeats 2000000 in
theorem Grow_nil (n : Nat) (h0 : 0 < n) (hn : n ≤ 4194304) (w : World) : Calls Tryz.prog 88 #[.slice none 0 0, .int .i64 (n : Int)] w fun e w' => ∃ G, e = .returned (.slice (some ⟨w.heap.size, 0, none⟩) 0 G) ∧ w'.ownsRow w.heap.size 3 1 (.slice (some ⟨w.heap.size, 0, none⟩) 0 G) 0 [] ∧ Below w.heap.size w w' := by
  obtain ⟨i0, hi0, hz0, hs0, hb0⟩ := info_parts info_int
  have hfit : Builtin.nextslicecap (0 + n) 0 * i0.bytes ≤ 281474976710656 := growslice_fits (by omega) (by rw [hb0]; omega)
  have hrz : ∀ ty, (Builtin.append_ #[26, 3] ty #[.slice none 0 0, .int .i64 (n : Int)]).run Tryz.prog w =
      .ok (.slice (some ⟨w.heap.size, 0, none⟩) (0 + n) (grownCap w (0 + n) 0 3)) (w.drew.alloc (.cells (([] : List Value).toArray ++ Builtin.zeroCells (Value.int .i64 0).cells n ++ Builtin.zeroCells (Value.int .i64 0).cells (grownCap w (0 + n) 0 3 - (0 + n))) 3)) := fun ty =>
    Lib.run_append_grow_zeros w 26 3 ty 3 i0 (.int .i64 0) .i64 .i64 Tryz.underlying26 Tryz.underlying3 hi0 hz0 none 0 0 [] (run_firstCells_none w.drew i0.size 0 0 0) n h0 (by omega) (by omega) (by omega) (by rw [hb0]; omega) hfit
  have hGn : 0 + n ≤ grownCap w (0 + n) 0 3 := grownCap_ge w _ _ _
  have hGm := grownCap_le_maxLen w (0 + n) 0 3 (by unfold maxLen; omega)
  obtain ⟨G, hG⟩ : ∃ G, G = grownCap w (0 + n) 0 3 := ⟨_, rfl⟩
  rw [← hG] at hrz hGn hGm
  rw [Nat.zero_add] at hrz hGn
  have own : (w.drew.alloc (.cells (([] : List Value).toArray ++ Builtin.zeroCells (Value.int .i64 0).cells n ++ Builtin.zeroCells (Value.int .i64 0).cells (G - n)) 3)).ownsRow w.heap.size 3 1 (.slice (some ⟨w.heap.size, 0, none⟩) 0 G) 0 [] :=
    World.ownsRow_made w.drew _ G (Nat.le_refl _) hGm (by simp [Builtin.zeroCells, Value.cells]; try omega)
  have bel : Below w.heap.size w (w.drew.alloc (.cells (([] : List Value).toArray ++ Builtin.zeroCells (Value.int .i64 0).cells n ++ Builtin.zeroCells (Value.int .i64 0).cells (G - n)) 3)) := (below_drewN (Below.refl _ _) 1).alloc (Nat.le_refl _) _
  have hG63 : G ≤ 9223372036854775807 := by unfold maxLen at hGm; omega
  clear hfit hi0 hz0 hs0 hb0 hG hGm
  generalize hX : (([] : List Value).toArray ++ Builtin.zeroCells (Value.int .i64 0).cells n ++ Builtin.zeroCells (Value.int .i64 0).cells (G - n)) = X at *
  clear hX
  go_enter Tryz.func88, Tryz.ntmps88
  go_wp2_with (at_builtin; refine Lib.wpList_append_run _ rfl _ _ _ _ rfl _ _ rfl rfl _ _ (hrz _) ?_)
  all_goals (go_ret; exact ⟨G, rfl, own, bel⟩)

def Cat1 (n m : Nat) (s i : Value) : Prop := (s = .int .i64 0 ∧ i = .int .i64 0) ∨ (s = .int .i64 n ∧ i = .int .i64 1) ∨ (s = .int .i64 ((n : Int) + m) ∧ i = .int .i64 2)
def Cat2 (xs ys : List Int) (B : Nat) (wr : World) (v i : Value) : Prop :=
  (i = .int .i64 0 ∧ wr.ownsRow B 3 1 v 0 []) ∨ (i = .int .i64 1 ∧ wr.ownsRow B 3 1 v xs.length (ints xs)) ∨ (i = .int .i64 2 ∧ wr.ownsRow B 3 1 v (xs.length + ys.length) (ints xs ++ ints ys))
set_option maxHeartbeats 2000000 in
theorem impl_Concat (A B : Option Addr) (ca cb g : Nat) (xs ys : List Int) (w : World) (hg : Two w g 26 (.slice A xs.length ca) (.slice B ys.length cb)) (hx : Reads w w.heap.size 1 A xs.length (ints xs)) (hy : Reads w w.heap.size 1 B ys.length (ints ys)) (hn : xs.length ≤ 1048576) (hm : ys.length ≤ 1048576) (h0 : 0 < xs.length + ys.length) :
    Calls Tryz.prog 50 #[.slice (some ⟨g, 0, none⟩) 2 2] w (Joined xs ys w) := by
  have c0 := hg.cell0
  have c1 := hg.cell1
  have hgl := hg.lt
  have h1 : ∀ zs : List Int, ∀ u ∈ ints zs, u.oneCell' = true := fun zs u hu => by obtain ⟨z, _, rfl⟩ := List.mem_map.1 hu; rfl
  have H1 := Lib.hid h1
  have HX := Lib.hid hx
  have HY := Lib.hid hy
  have HG := Lib.hid hg
  clear h1 hx hy hg
  go_enter Tryz.func50, Tryz.ntmps50
  go_wp2
  go_loop [3, 11] (fun s i => Cat1 xs.length ys.length s i) (fun _ i => 2 - (intOf i).toNat)
  case atStart => exact .inl ⟨rfl, rfl⟩
  case round =>
    have HR := Lib.hid hrel
    clear hrel
    rcases HR.out with ⟨rfl, rfl⟩ | ⟨rfl, rfl⟩ | ⟨rfl, rfl⟩
    · clear HR
      have x1 : ¬ (xs.length : Int) < 0 := by omega
      go_wp2
      go_round
      case rel => exact .inr (.inl ⟨by go_num, rfl⟩)
      case measure => simp [intOf]
    · clear HR
      have x1 : ¬ (xs.length : Int) + (ys.length : Int) < 0 := by omega
      go_wp2
      go_round
      case rel => exact .inr (.inr ⟨by go_num, rfl⟩)
      case measure => simp [intOf]
    · clear HR
      have x1 : ¬ (xs.length : Int) + (ys.length : Int) < 0 := by omega
      have HGR := Lib.hid (Grow_nil (xs.length + ys.length) h0 (by omega) w)
      rw [Int.natCast_add] at HGR
      go_wp2_with fail
      refine HGR.out.mono ?_
      rintro e w2 ⟨G, rfl, own2, b2⟩
      have d0 := (b2.cell (p := ⟨g, 0, none⟩) hgl).trans c0
      have d1 := (b2.cell (p := ⟨g, 1, none⟩) hgl).trans c1
      go_wp2
      go_loopw [6, 27] (fun v i wr => Cat2 xs ys w.heap.size wr v i ∧ Below w.heap.size w wr) (fun _ i _ => 2 - (intOf i).toNat)
      case atStart => exact ⟨.inl ⟨rfl, own2⟩, b2⟩
      case round =>
        obtain ⟨hcat, hb⟩ := hrel
        have e0 := (hb.cell (p := ⟨g, 0, none⟩) hgl).trans c0
        have e1 := (hb.cell (p := ⟨g, 1, none⟩) hgl).trans c1
        have HR := Lib.hid hcat
        clear hcat own2 d0 d1 c0 c1
        rcases HR.out with ⟨rfl, own3⟩ | ⟨rfl, own3⟩ | ⟨rfl, own3⟩
        · clear HR
          have hx3 := HX.out.below hb
          go_wp2_with (at_builtin; refine wpList_append_src own3 hb.size hx3 (H1.out xs) (.tmp 31) (.tmp 32) 26 Tryz.underlying26 info_int (by omega) (by unfold maxLen; omega) ⟨rfl, rfl, rfl, rfl, rfl, by decide⟩ ?_; intro v4 w4 own4 b4)
          go_roundw
          case rel => exact ⟨.inr (.inl ⟨rfl, by simpa using own4⟩), hb.trans b4⟩
          case measure => simp [intOf]
        · clear HR
          have hy3 := HY.out.below hb
          go_wp2_with (at_builtin; refine wpList_append_src own3 hb.size hy3 (H1.out ys) (.tmp 31) (.tmp 32) 26 Tryz.underlying26 info_int (by omega) (by unfold maxLen; omega) ⟨rfl, rfl, rfl, rfl, rfl, by decide⟩ ?_; intro v4 w4 own4 b4)
          go_roundw
          case rel => exact ⟨.inr (.inr ⟨rfl, own4⟩), hb.trans b4⟩
          case measure => simp [intOf]
        · clear HR
          go_wp2
          go_ret
          refine ⟨_, rfl, ?_, hb⟩
          have e1 : ints (xs ++ ys) = ints xs ++ ints ys := by simp [ints]
          rw [e1, List.length_append]
          exact Own.of_row own3
end Go.Proofs.YtekidodfcanjaaaGreatDoor
