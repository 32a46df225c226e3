/-
  Contracts of the reference's l2Keys and the program's keysOf: the pressed keys of a stroke; of both KeyUsage.
-/
import Derived.Test.YtfgfbnmcihjfmaaStrokes
import Derived.Test.YtfgfbnmcihjfmaaKeysPl
namespace Go.Proofs.Ytfgfbnmcihjfmaa
open Go.RowKit
set_option linter.unusedVariables false

set_option maxHeartbeats 1000000 in
theorem spec_l2Keys (s : Int) (w : World) (h0 : 0 ≤ s) (h1 : s ≤ 8388607) :
    Calls Try.prog 33 #[.int .i64 s] w (Copied (keysL s) w) := by
  go_enter Try.func33, Try.ntmps33
  go_wp2
  go_loopw [3, 4] (fun v i wr => ∃ k : Nat, k ≤ 23 ∧ i = .int .i64 k ∧ wr.ownsRow w.heap.size 3 1 v (keysTo s k).length (ints (keysTo s k)) ∧ Below w.heap.size w wr) (fun _ i _ => 23 - (intOf i).toNat)
  case atStart => exact ⟨0, Nat.zero_le _, rfl, World.ownsRow_made _ _ _ (Nat.le_refl _) (by simp) rfl, (Below.refl _ _).alloc (Nat.le_refl _) _⟩
  case round =>
    obtain ⟨k, hk, rfl, hown, hb⟩ := hrel
    have hn := keysTo_le s k
    have hsz := hb.size
    by_cases hlt : k < 23
    · by_cases hbit : (bits .and .i64 (s / 2 ^ k) 1 == 1) = true
      · go_wp2_with (at_builtin; refine wpList_append_one hown hsz (.tmp 16) (.tmp 18) 22 Try.underlying22 info_int (by omega) (by unfold maxLen; omega) ⟨rfl, rfl, rfl, rfl, rfl, rfl⟩ (by simp) ?_; intro v1 w1 hown1 hb1 _)
        go_roundw
        case rel => exact ⟨k + 1, by omega, by go_num, by rw [keysTo_succ_yes hbit]; simpa [ints] using hown1, hb.trans hb1⟩
        case measure => simp [intOf]; omega
      · have hbit' : (bits .and .i64 (s / 2 ^ k) 1 == 1) = false := by simpa using hbit
        clear hbit
        go_wp2
        go_roundw
        case rel => exact ⟨k + 1, by omega, by go_num, by rw [keysTo_succ_no hbit']; exact hown, hb⟩
        case measure => simp [intOf]; omega
    · obtain rfl : k = 23 := by omega
      go_wp2
      go_ret
      exact ⟨_, rfl, Own.of_row hown, hb⟩

set_option maxHeartbeats 1000000 in
theorem impl_keysOf (s : Int) (w : World) (h0 : 0 ≤ s) (h1 : s ≤ 8388607) :
    Calls Try.prog 43 #[.int .i64 s] w (Copied (keysL s) w) := by
  go_enter Try.func43, Try.ntmps43
  go_wp2
  go_loopw [3, 6] (fun v i wr => ∃ k : Nat, k ≤ 23 ∧ i = .int .i64 k ∧ wr.ownsRow w.heap.size 3 1 v (keysTo s k).length (ints (keysTo s k)) ∧ Below w.heap.size w wr) (fun _ i _ => 23 - (intOf i).toNat)
  case atStart => exact ⟨0, Nat.zero_le _, rfl, World.ownsRow_made _ _ _ (Nat.le_refl _) (by simp) rfl, (Below.refl _ _).alloc (Nat.le_refl _) _⟩
  case round =>
    obtain ⟨k, hk, rfl, hown, hb⟩ := hrel
    have hn := keysTo_le s k
    have hsz := hb.size
    by_cases hlt : k < 23
    · by_cases hbit : (bits .and .i64 (s / 2 ^ k) 1 == 1) = true
      · go_wp2_with (at_builtin; refine wpList_append_one hown hsz (.tmp 14) (.tmp 16) 22 Try.underlying22 info_int (by omega) (by unfold maxLen; omega) ⟨rfl, rfl, rfl, rfl, rfl, rfl⟩ (by simp) ?_; intro v1 w1 hown1 hb1 _)
        go_roundw
        case rel => exact ⟨k + 1, by omega, by go_num, by rw [keysTo_succ_yes hbit]; simpa [ints] using hown1, hb.trans hb1⟩
        case measure => simp [intOf]; omega
      · have hbit' : (bits .and .i64 (s / 2 ^ k) 1 == 1) = false := by simpa using hbit
        clear hbit
        go_wp2
        go_roundw
        case rel => exact ⟨k + 1, by omega, by go_num, by rw [keysTo_succ_no hbit']; exact hown, hb⟩
        case measure => simp [intOf]; omega
    · obtain rfl : k = 23 := by omega
      go_wp2
      go_ret
      exact ⟨_, rfl, Own.of_row hown, hb⟩

theorem hmk23 : ∀ w : World, (Instr.makeSlice 22 (.int .i64 23) (.int .i64 23)).run Try.prog w = .ok (.slice (some ⟨w.heap.size, 0, none⟩) 23 23) (w.alloc (.cells (madeCells #[.int .i64 0] 23) 3)) := fun w =>
  run_make_rowN (P := Try.prog) 22 3 Try.underlying22 info_int .i64 .i64 23 23 (Nat.le_refl _) (by omega) (by omega) w
theorem made23 (w : World) : Own (w.alloc (.cells (madeCells #[Value.int .i64 0] 23) 3)) w.heap.size (w.heap.size + 1) 3 1 (.slice (some ⟨w.heap.size, 0, none⟩) 23 23) 23 (ints (List.replicate 23 0)) := by
  refine ⟨?_, fun g hg => by simp [Value.ownBlock] at hg; omega⟩
  have h := World.ownsRow_lit (base := w.heap.size) (e := 3) (size := 1) w (madeCells #[Value.int .i64 0] 23) 23 (Nat.le_refl _) (by unfold maxLen; omega) (by simp [madeCells])
  have e : ints (List.replicate 23 0) = (madeCells #[Value.int .i64 0] 23).toList := by rw [toList_madeCells_one]; simp [ints]
  rw [e]
  exact h

theorem ints_bump {u : List Int} {n : Nat} {y : Int} (h : u[n]? = some y) : (ints u).set n (.int .i64 (y + 1)) = ints (bump u (n : Int)) := by
  simp [bump, ints, h, List.map_set]

set_option maxHeartbeats 2000000 in
theorem impl_usage (A : Option Addr) (cap : Nat) (zs : List Int) (w : World) (hr : Reads w w.heap.size 1 A zs.length (ints zs)) (hn : zs.length ≤ 60) (hg : goodB zs = true) :
    Calls Try.prog 32 #[.slice A zs.length cap] w (Copied (usageL zs) w) := by
  have hmk := hmk23
  have HG := Lib.hid hg
  clear hg
  go_enter Try.func32, Try.ntmps32
  go_wp2
  go_loopw [11] (fun i wr => ∃ k : Nat, k ≤ zs.length ∧ i = .int .i64 k ∧ Own wr w.heap.size (w.heap.size + 1) 3 1 (.slice (some ⟨w.heap.size, 0, none⟩) 23 23) 23 (ints (usageL (zs.take k))) ∧ Below w.heap.size w wr ∧ w.heap.size < wr.heap.size)
    (fun i _ => zs.length - (intOf i).toNat)
  case atStart => exact ⟨0, Nat.zero_le _, rfl, by simpa [usageL, usageFrom] using made23 w, (Below.refl _ _).alloc (Nat.le_refl _) _, by simp⟩
  case round =>
    obtain ⟨k, hk, rfl, hown, hb, hsz⟩ := hrel
    obtain ⟨wo, rfl⟩ : ∃ wo : World, wo = wr := ⟨_, rfl⟩
    by_cases hlt : k < zs.length
    · obtain ⟨b, off, rfl, hb0, hc⟩ := hr.2 (by omega)
      obtain ⟨s, hs⟩ := some_at zs hlt
      have cx : wo.cell? ⟨b, off + k, none⟩ = some (.int .i64 s) := (hb.cell hb0).trans (hc k _ (ints_at zs hs))
      have hgs : inB s 1 8388607 = true := by have := List.all_eq_true.1 HG.out s (List.mem_of_getElem? hs); exact this
      have hs1 : 1 ≤ s ∧ s ≤ 8388607 := by simpa [inB] using hgs
      have HS := Lib.hid hs
      clear hs hc hgs
      obtain ⟨hs1, hs2⟩ := hs1
      go_wp2_with fail
      refine (impl_keysOf s _ (by omega) hs2).mono ?_
      rintro e w1 ⟨kv, rfl, hkv, hb1⟩
      obtain ⟨A2, cap2, rfl, hrk, hc1, hc2⟩ := hkv.slice
      have hown1 := hown.below hb1
      have hkl := keysL_le s
      have hub := usageL_bd (zs.take k)
      rw [List.length_take] at hub
      have hsz1 := hb1.size
      have HB := Lib.hid hub
      clear hub
      go_wp2
      go_loopw [18] (fun j wr => ∃ m : Nat, m ≤ (keysL s).length ∧ j = .int .i64 m ∧ Own wr w.heap.size (w.heap.size + 1) 3 1 (.slice (some ⟨w.heap.size, 0, none⟩) 23 23) 23 (ints (bumps (usageL (zs.take k)) ((keysL s).take m))) ∧ Only w.heap.size (w.heap.size + 1) w1 wr)
        (fun j _ => (keysL s).length - (intOf j).toNat)
      case atStart => exact ⟨0, Nat.zero_le _, rfl, by simpa [bumps] using hown1, Only.refl _⟩
      case round =>
        obtain ⟨m, hm, rfl, hown2, ho⟩ := hrel
        by_cases hlt2 : m < (keysL s).length
        · obtain ⟨b2, off2, rfl, hb2, hcc⟩ := (Reads.of_own (hkv.only ho (.inr (by omega))).1).2 (by omega)
          obtain ⟨x, hx⟩ := some_at (keysL s) hlt2
          obtain ⟨hx2, hx3⟩ := keysL_at hx
          obtain ⟨n, rfl⟩ := Int.eq_ofNat_of_zero_le hx2
          have c1 : wr.cell? ⟨b2, off2 + m, none⟩ = some (.int .i64 (n : Int)) := hcc m _ (ints_at _ hx)
          have hbb := bumps_bd ((keysL s).take m) _ _ (by omega) HB.out
          obtain ⟨y, hy⟩ := some_at (bumps (usageL (zs.take k)) ((keysL s).take m)) (show n < _ by rw [bumps_length, usageL_length]; omega)
          have hyb := hbb.at_ hy
          rw [List.length_take] at hyb
          obtain ⟨hy1, hy2⟩ := hyb
          have c2 : wr.cell? ⟨w.heap.size, n, none⟩ = some (.int .i64 y) := (hown2.1.cellAt n (by omega)).trans (ints_at _ hy)
          have cf : wr.frozen? ⟨w.heap.size, n, none⟩ = false := hown2.1.frozenAt n
          have HX := Lib.hid hx
          have HY := Lib.hid hy
          have HBB := Lib.hid hbb
          clear hx hy hbb hcc
          go_wp2
          go_roundw
          case rel => exact ⟨m + 1, by omega, by go_num, by
            have h1 := hown2.set_ n (.int .i64 (y + 1))
            rw [bumps_take_succ HX.out]
            rwa [ints_bump HY.out] at h1, ho.setCell (Nat.le_refl _) (Nat.lt_succ_self _) _⟩
          case measure => simp [intOf]; omega
        · obtain rfl : m = (keysL s).length := by omega
          go_wp2
          go_roundw
          case rel => exact ⟨k + 1, by omega, by go_num, by rw [usage_take_succ HS.out]; rwa [take_all] at hown2, (hb.trans (hb1.mono (by omega))).trans (ho.below (Nat.le_refl _) (by omega)), by have := ho.size; omega⟩
          case measure => simp [intOf]; omega
    · obtain rfl : k = zs.length := by omega
      go_wp2
      go_ret
      refine ⟨_, rfl, ?_, hb⟩
      rw [take_all] at hown
      exact ⟨by rw [usageL_length]; exact hown.1, fun g hg => by have := hown.2 g hg; omega⟩

def usedL (zs : List Int) : List Int := if strokesB zs then usageL zs else []
theorem usedL_le (zs : List Int) : (usedL zs).length ≤ 23 := by unfold usedL; split <;> simp [usageL_length]
/-- The results of KeyUsage. -/
def Used (zs : List Int) (w : World) (e : Ending) (w' : World) : Prop :=
  ∃ v, e = .returned (.tuple #[v, .bool (strokesB zs)]) ∧ Own w' w.heap.size w'.heap.size 3 1 v (usedL zs).length (ints (usedL zs)) ∧ Below w.heap.size w w'
theorem used_no {zs : List Int} {w w' : World} (h : strokesB zs = false) (hb : Below w.heap.size w w') : Used zs w (.returned (.tuple #[.slice none 0 0, .bool false])) w' :=
  ⟨_, by rw [h], by simp [usedL, h]; exact Own.none_, hb⟩
theorem used_yes {zs : List Int} {w w' : World} {v : Value} (h : strokesB zs = true) (ho : Own w' w.heap.size w'.heap.size 3 1 v (usageL zs).length (ints (usageL zs))) (hb : Below w.heap.size w w') : Used zs w (.returned (.tuple #[v, .bool true])) w' :=
  ⟨_, by rw [h], by simpa [usedL, h] using ho, hb⟩

set_option maxHeartbeats 2000000 in
theorem spec_KeyUsage (A : Option Addr) (cap : Nat) (zs : List Int) (w : World) (hr : Reads w w.heap.size 1 A zs.length (ints zs)) (hn0 : zs.length ≤ 1048576) :
    Calls Try.prog 14 #[.slice A zs.length cap] w (Used zs w) := by
  cases hsb : strokesB zs
  · go_enter Try.func14, Try.ntmps14
    go_wp2_with (go_at_call 18; refine (spec_l7Strokes A cap zs _ hr hn0).mono ?_; rintro e w' ⟨rfl, rfl⟩)
    go_ret2
    exact used_no hsb (Below.refl _ _)
  have hsb' := hsb
  simp only [strokesB, Bool.and_eq_true, decide_eq_true_eq] at hsb'
  obtain ⟨hn, hg⟩ := hsb'
  have hmk := hmk23
  have HG := Lib.hid hg
  clear hg
  go_enter Try.func14, Try.ntmps14
  go_wp2_with (go_at_call 18; refine (spec_l7Strokes A cap zs _ hr hn0).mono ?_; rintro e w' ⟨rfl, rfl⟩)
  have HSB := Lib.hid hsb
  clear hsb
  go_loopw [5] (fun i wr => ∃ k : Nat, k ≤ zs.length ∧ i = .int .i64 k ∧ Own wr w.heap.size (w.heap.size + 1) 3 1 (.slice (some ⟨w.heap.size, 0, none⟩) 23 23) 23 (ints (usageL (zs.take k))) ∧ Below w.heap.size w wr ∧ w.heap.size < wr.heap.size)
    (fun i _ => zs.length - (intOf i).toNat)
  case atStart => exact ⟨0, Nat.zero_le _, rfl, by simpa [usageL, usageFrom] using made23 w, (Below.refl _ _).alloc (Nat.le_refl _) _, by simp⟩
  case round =>
    obtain ⟨k, hk, rfl, hown, hb, hsz⟩ := hrel
    obtain ⟨wo, rfl⟩ : ∃ wo : World, wo = wr := ⟨_, rfl⟩
    by_cases hlt : k < zs.length
    · obtain ⟨b, off, rfl, hb0, hc⟩ := hr.2 (by omega)
      obtain ⟨s, hs⟩ := some_at zs hlt
      have cx : wo.cell? ⟨b, off + k, none⟩ = some (.int .i64 s) := (hb.cell hb0).trans (hc k _ (ints_at zs hs))
      have hgs : inB s 1 8388607 = true := by have := List.all_eq_true.1 HG.out s (List.mem_of_getElem? hs); exact this
      have hs1 : 1 ≤ s ∧ s ≤ 8388607 := by simpa [inB] using hgs
      have HS := Lib.hid hs
      clear hs hc hgs
      obtain ⟨hs1, hs2⟩ := hs1
      go_wp2_with fail
      refine (spec_l2Keys s _ (by omega) hs2).mono ?_
      rintro e w1 ⟨kv, rfl, hkv, hb1⟩
      obtain ⟨A2, cap2, rfl, hrk, hc1, hc2⟩ := hkv.slice
      have hown1 := hown.below hb1
      have hkl := keysL_le s
      have hub := usageL_bd (zs.take k)
      rw [List.length_take] at hub
      have hsz1 := hb1.size
      have HB := Lib.hid hub
      clear hub
      go_wp2
      go_loopw [7] (fun j wr => ∃ m : Nat, m ≤ (keysL s).length ∧ j = .int .i64 m ∧ Own wr w.heap.size (w.heap.size + 1) 3 1 (.slice (some ⟨w.heap.size, 0, none⟩) 23 23) 23 (ints (bumps (usageL (zs.take k)) ((keysL s).take m))) ∧ Only w.heap.size (w.heap.size + 1) w1 wr)
        (fun j _ => (keysL s).length - (intOf j).toNat)
      case atStart => exact ⟨0, Nat.zero_le _, rfl, by simpa [bumps] using hown1, Only.refl _⟩
      case round =>
        obtain ⟨m, hm, rfl, hown2, ho⟩ := hrel
        by_cases hlt2 : m < (keysL s).length
        · obtain ⟨b2, off2, rfl, hb2, hcc⟩ := (Reads.of_own (hkv.only ho (.inr (by omega))).1).2 (by omega)
          obtain ⟨x, hx⟩ := some_at (keysL s) hlt2
          obtain ⟨hx2, hx3⟩ := keysL_at hx
          obtain ⟨n, rfl⟩ := Int.eq_ofNat_of_zero_le hx2
          have c1 : wr.cell? ⟨b2, off2 + m, none⟩ = some (.int .i64 (n : Int)) := hcc m _ (ints_at _ hx)
          have hbb := bumps_bd ((keysL s).take m) _ _ (by omega) HB.out
          obtain ⟨y, hy⟩ := some_at (bumps (usageL (zs.take k)) ((keysL s).take m)) (show n < _ by rw [bumps_length, usageL_length]; omega)
          have hyb := hbb.at_ hy
          rw [List.length_take] at hyb
          obtain ⟨hy1, hy2⟩ := hyb
          have c2 : wr.cell? ⟨w.heap.size, n, none⟩ = some (.int .i64 y) := (hown2.1.cellAt n (by omega)).trans (ints_at _ hy)
          have cf : wr.frozen? ⟨w.heap.size, n, none⟩ = false := hown2.1.frozenAt n
          have HX := Lib.hid hx
          have HY := Lib.hid hy
          have HBB := Lib.hid hbb
          clear hx hy hbb hcc
          go_wp2
          go_roundw
          case rel => exact ⟨m + 1, by omega, by go_num, by
            have h1 := hown2.set_ n (.int .i64 (y + 1))
            rw [bumps_take_succ HX.out]
            rwa [ints_bump HY.out] at h1, ho.setCell (Nat.le_refl _) (Nat.lt_succ_self _) _⟩
          case measure => simp [intOf]; omega
        · obtain rfl : m = (keysL s).length := by omega
          go_wp2
          go_roundw
          case rel => exact ⟨k + 1, by omega, by go_num, by rw [usage_take_succ HS.out]; rwa [take_all] at hown2, (hb.trans (hb1.mono (by omega))).trans (ho.below (Nat.le_refl _) (by omega)), by have := ho.size; omega⟩
          case measure => simp [intOf]; omega
    · obtain rfl : k = zs.length := by omega
      go_wp2
      go_ret2
      rw [take_all] at hown
      exact used_yes HSB.out ⟨by rw [usageL_length]; exact hown.1, fun g hg => by have := hown.2 g hg; omega⟩ hb

set_option maxHeartbeats 1000000 in
theorem impl_KeyUsage (A : Option Addr) (cap : Nat) (zs : List Int) (w : World) (hr : Reads w w.heap.size 1 A zs.length (ints zs)) (hn0 : zs.length ≤ 1048576) :
    Calls Try.prog 13 #[.slice A zs.length cap] w (Used zs w) := by
  cases hsb : strokesB zs
  · go_enter Try.func13, Try.ntmps13
    go_wp2_with fail
    refine (impl_isStrokeList A cap zs _ hr hn0).mono ?_
    rintro e w1 ⟨rfl, hb⟩
    go_wp2
    go_ret2
    exact used_no hsb hb
  have hsb' := hsb
  simp only [strokesB, Bool.and_eq_true, decide_eq_true_eq] at hsb'
  obtain ⟨hn, hg⟩ := hsb'
  have HG := Lib.hid hg
  clear hg
  go_enter Try.func13, Try.ntmps13
  go_wp2_with fail
  refine (impl_isStrokeList A cap zs _ hr hn0).mono ?_
  rintro e w1 ⟨rfl, hb⟩
  go_wp2_with fail
  refine (impl_usage A cap zs _ ((hr.below hb).more hb.size) hn HG.out).mono ?_
  rintro e w2 ⟨v, rfl, hv, hb2⟩
  go_wp2
  go_ret2
  exact used_yes hsb ⟨hv.1.base hb.size, hv.2⟩ (hb.trans (hb2.mono hb.size))
end Go.Proofs.Ytfgfbnmcihjfmaa
