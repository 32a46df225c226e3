/-
  What the program's StrokeFrequencies calls over its row of strokes: a copy, slices.Sort, slices.Compact, slices.SortStableFunc.
-/
import Derived.Test.YtfgfbnmcihjfmaaStabS
import Derived.Test.YtfgfbnmcihjfmaaFreqN
import Derived.Test.YtfgfbnmcihjfmaaFreqC
import Derived.Test.YtfgfbnmcihjfmaaShelf
import Derived.Test.YtfgfbnmcihjfmaaBase
import Derived.Lib.OwnBridge
import Derived.Lib.AppendIntMem
namespace Go.Proofs.Ytfgfbnmcihjfmaa
open Go.RowKit
set_option linter.unusedVariables false
set_option linter.unusedSimpArgs false
set_option maxRecDepth 100000

theorem impl_copyOfF (A : Option Addr) (ca : Nat) (xs : List Int) (w : World) (hx : Reads w w.heap.size 1 A xs.length (ints xs)) (hn : xs.length ≤ 1048576) :
    Calls Try.prog 20 #[.slice A xs.length ca] w fun e w' => ∃ v, e = .returned v ∧ w'.ownsRow w.heap.size 3 1 v xs.length (ints xs) ∧ Below w.heap.size w w' := by
  have ba := (Below.refl w.heap.size w).alloc (Nat.le_refl _) (.cells #[] 3)
  have own0 : (w.alloc (.cells #[] 3)).ownsRow w.heap.size 3 1 (.slice (some ⟨w.heap.size, 0, none⟩) 0 0) 0 [] := World.ownsRow_made _ _ _ (Nat.le_refl _) (by simp) rfl
  have hzx : w.heap.size ≤ (w.alloc (.cells #[] 3)).heap.size := by simp
  have hx1 := hx.below ba
  have h1 : ∀ u ∈ ints xs, u.oneCell' = true := fun u hu => by obtain ⟨z, _, rfl⟩ := List.mem_map.1 hu; rfl
  have H1 := Lib.hid h1
  clear h1
  go_enter Try.func20, Try.ntmps20
  go_wp2_with (at_builtin; refine wpList_append_src own0 hzx hx1 H1.out (.tmp 3) (.tmp 4) 22 Try.underlying22 info_int (by omega) (by unfold maxLen; omega) ⟨rfl, rfl, rfl, rfl, rfl, by decide⟩ ?_; intro v2 w2 own2 b2)
  go_ret
  simp only [Nat.zero_add, List.nil_append] at own2
  exact ⟨v2, rfl, own2, ba.trans b2⟩
theorem only_putZ (w : World) (g q off : Nat) (d : Array Int) : Only g (g + 1) w (Go.Sort.putRow (Value.int .i64) (Go.Sort.ahead w q) g off d) :=
  ⟨rfl, rfl, rfl, by simp [Go.Sort.putRow, Go.Sort.mapBlock, Go.Sort.ahead], fun k hk hd => by simp [Go.Sort.putRow, Go.Sort.mapBlock, Go.Sort.ahead, Array.getElem?_modify, show g ≠ k by omega]⟩
theorem sortZ_own {lo g n c : Nat} (l : List Int) (w : World) (h : w.ownsRow lo 3 1 (.slice (some ⟨g, 0, none⟩) n c) n (ints l)) (hn : n ≤ 1048576) :
    Calls Try.prog 21 #[.slice (some ⟨g, 0, none⟩) n c] w fun e w' => e = .returned (.tuple #[]) ∧ w'.ownsRow lo 3 1 (.slice (some ⟨g, 0, none⟩) n c) n (ints (l.mergeSort fun x y => decide (x ≤ y))) ∧ Only g (g + 1) w w' := by
  unfold ints at h
  obtain ⟨g', cap, hv, h1, h2, h3, h4, h5, hH⟩ := Lib.holds_of_ownsRow h (by intro e; cases e)
  injection hv with hv _ hc
  injection hv with hv
  injection hv with hv _ _
  subst hv hc
  subst h5
  refine (Try.slices_Sort_int g 0 c l w hH h2 (by omega)).mono ?_
  rintro e w' ⟨rfl, q, os, rfl⟩
  have hs : (l.mergeSort fun x y => decide (x ≤ y)).length = l.length := List.length_mergeSort _
  have ho := Lib.ownsRow_putRow (q := q) h hs (Nat.le_refl _)
  rw [List.take_of_length_le (by omega)] at ho
  have hg := Lib.ownsRow_grow ho 0 os
  exact ⟨rfl, hg, (only_putZ w g q 0 _).trans (Only.of_below (Lib.below_grow _ _ (Nat.le_refl _) 0 os))⟩
theorem compactZ_own {lo g n c : Nat} (l : List Int) (w : World) (h : w.ownsRow lo 3 1 (.slice (some ⟨g, 0, none⟩) n c) n (ints l)) (hn : n ≤ 1048576) :
    Calls Try.prog 22 #[.slice (some ⟨g, 0, none⟩) n c] w fun e w' => e = .returned (.slice (some ⟨g, 0, none⟩) (Lib.compact l).length c) ∧ w'.ownsRow lo 3 1 (.slice (some ⟨g, 0, none⟩) (Lib.compact l).length c) (Lib.compact l).length (ints (Lib.compact l)) ∧ Only g (g + 1) w w' := by
  unfold ints at h
  obtain ⟨g', cap, hv, h1, h2, h3, h4, h5, hH⟩ := Lib.holds_of_ownsRow h (by intro e; cases e)
  injection hv with hv _ hc
  injection hv with hv
  injection hv with hv _ _
  subst hv hc
  subst h5
  refine (Try.slices_Compact_int g 0 c l w hH (by omega) h3).mono ?_
  rintro e w' ⟨rfl, q, rfl⟩
  have hl : (Lib.compact l).length ≤ l.length := compactZ_le _
  have hs : (Lib.compact l ++ List.replicate (l.length - (Lib.compact l).length) (0 : Int)).length = l.length := by simp; omega
  have ho := Lib.ownsRow_putRow (q := q) h hs hl
  rw [List.take_left'] at ho
  · exact ⟨rfl, ho, only_putZ w g q 0 _⟩
  · rfl
theorem cmpOk_of {W : World} {g gb bm : Nat} {l : List Int} (hb : Box W gb 37 (.map (some bm))) (hm : CntMap W bm l) (h1 : gb ≠ g) (h2 : bm ≠ g) : CmpOk W g gb (cntS l) := by
  intro w ho x y hx hy
  exact freqCmp_calls gb bm l w (hb.only ho (by omega)).cell (hm.only ho (by omega)) x y hx hy
set_option maxHeartbeats 2000000 in
theorem sortStable_calls (lo g cap n gb : Nat) (c : Int → Int) (O : List Int) (W w : World) (h : RowZ W w lo g cap n O) (hasc : O.Pairwise (· < ·)) (hc : CmpOk W g gb c) (hn : n ≤ 1000000) :
    Calls Try.prog 23 #[.slice (some ⟨g, 0, none⟩) n cap, .func (.func 24) #[] #[.pointer (some ⟨gb, 0, none⟩)]] w fun e w' => e = .returned (.tuple #[]) ∧ ∃ ys, ys.Perm O ∧ ys.Pairwise (Bef c) ∧ RowZ W w' lo g cap n ys := by
  have HC := Lib.hid (stable_calls lo g cap n gb c O W w h hasc hc hn)
  clear h hasc hc
  go_enter Try.func23, Try.ntmps23
  go_wp2_with fail
  refine HC.out.mono ?_
  rintro e w1 ⟨rfl, hys⟩
  have HY := Lib.hid hys
  clear hys
  go_wp2
  go_end0
  exact ⟨rfl, HY.out⟩
set_option maxHeartbeats 2000000 in
/-- Of nothing the insertion sort does nothing, whatever the slice. -/
theorem insertion_none (v F : Value) (w : World) : Calls Try.prog 59 #[v, .int .i64 0, .int .i64 0, F] w fun e w' => e = .returned (.tuple #[]) ∧ w = w' := by
  go_enter Try.func59, Try.ntmps59
  go_wp2
  refine wp_loop_rounds 1 ?_
  rw [rounds_succ]
  go_wp2
  go_end0
  exact ⟨rfl, rfl⟩
set_option maxHeartbeats 2000000 in
theorem stable_none (v F : Value) (w : World) : Calls Try.prog 40 #[v, .int .i64 0, F] w fun e w' => e = .returned (.tuple #[]) ∧ w = w' := by
  go_enter Try.func40, Try.ntmps40
  go_wp2
  refine wp_loop_rounds 1 ?_
  rw [rounds_succ]
  go_wp2_with (go_at_call 59; refine (insertion_none _ _ _).mono ?_; rintro e w' ⟨rfl, rfl⟩)
  refine wp_loop_rounds 1 ?_
  rw [rounds_succ]
  go_wp2
  go_end0
  exact ⟨rfl, rfl⟩
set_option maxHeartbeats 2000000 in
theorem sortStable_none (A : Option Addr) (cap : Nat) (F : Value) (w : World) : Calls Try.prog 23 #[.slice A 0 cap, F] w fun e w' => e = .returned (.tuple #[]) ∧ w = w' := by
  go_enter Try.func23, Try.ntmps23
  go_wp2_with (go_at_call 40; refine (stable_none _ _ _).mono ?_; rintro e w' ⟨rfl, rfl⟩)
  go_end0
  exact ⟨rfl, rfl⟩
end Go.Proofs.Ytfgfbnmcihjfmaa
