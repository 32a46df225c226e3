/-
  Contracts of both HandBalance; the law FnExactHandBalance returns true: its walk.
-/
import Derived.Test.YtfgfbnmcihjfmaaKeys
namespace Go.Proofs.Ytfgfbnmcihjfmaa
open Go.RowKit
set_option linter.unusedVariables false

set_option maxHeartbeats 1000000 in
theorem impl_sum (A : Option Addr) (cap : Nat) (zs : List Int) (w : World) (B : Int) (hr : Reads w w.heap.size 1 A zs.length (ints zs)) (hn : zs.length ≤ 1048576) (hB : 0 ≤ B) (hBB : B ≤ 1048576) (hbd : Bd zs B) :
    Calls Try.prog 34 #[.slice A zs.length cap] w fun e w' => e = .returned (.int .i64 zs.sum) ∧ w = w' := by
  go_enter Try.func34, Try.ntmps34
  go_wp2
  go_loop [3, 8] (fun t i => ∃ k : Nat, k ≤ zs.length ∧ i = .int .i64 k ∧ t = .int .i64 (zs.take k).sum) (fun _ i => zs.length - (intOf i).toNat)
  case atStart => exact ⟨0, Nat.zero_le _, rfl, rfl⟩
  case round =>
    obtain ⟨k, hk, rfl, rfl⟩ := hrel
    have hs := sum_bd (zs.take k) hB (bd_take hbd k)
    have hm : B * ((zs.take k).length : Int) ≤ 1048576 * 1048576 := by
      have := List.length_take_le k zs
      exact Int.mul_le_mul hBB (by omega) (by omega) (by omega)
    obtain ⟨hs1, hs2⟩ := hs
    have hs3 : (zs.take k).sum ≤ 1048576 * 1048576 := by omega
    clear hm hs2
    by_cases hlt : k < zs.length
    · obtain ⟨b, off, rfl, hb0, hc⟩ := hr.2 (by omega)
      obtain ⟨x, hx⟩ := some_at zs hlt
      have cx : w.cell? ⟨b, off + k, none⟩ = some (.int .i64 x) := hc k _ (ints_at zs hx)
      obtain ⟨hx1, hx2⟩ := hbd.at_ hx
      have HX := Lib.hid hx
      clear hx hc
      go_wp2
      go_round
      case rel => exact ⟨k + 1, by omega, by go_num, by rw [sum_snoc _ HX.out]⟩
      case measure => simp [intOf]; omega
    · obtain rfl : k = zs.length := by omega
      go_wp2
      go_ret
      exact ⟨rfl, rfl⟩

theorem impl_sum_n (A : Option Addr) (cap n : Nat) (zs : List Int) (w : World) (B : Int) (hr : Reads w w.heap.size 1 A n (ints zs)) (hl : zs.length = n) (hn : n ≤ 1048576) (hB : 0 ≤ B) (hBB : B ≤ 1048576) (hbd : Bd zs B) :
    Calls Try.prog 34 #[.slice A n cap] w fun e w' => e = .returned (.int .i64 zs.sum) ∧ w = w' := by
  subst hl
  exact impl_sum A cap zs w B hr hn hB hBB hbd

/-- A part of a row reads. -/
theorem reads_part {w : World} {g n : Nat} {xs : List Value} (hg : g < w.heap.size) (hl : xs.length = n) (h : ∀ j, j < n * 1 → w.cell? ⟨g, j, none⟩ = xs[j]?) (i m : Nat) (him : i + m ≤ n) :
    Reads w w.heap.size 1 (some ⟨g, i, none⟩) m ((xs.drop i).take m) := by
  refine ⟨by simp; omega, fun _ => ⟨g, i, rfl, hg, fun j u hj => ?_⟩⟩
  rw [List.getElem?_take] at hj
  split at hj
  · rw [List.getElem?_drop] at hj
    rw [h (i + j) (by omega)]
    exact hj
  · cases hj

/-- The results of HandBalance. -/
def Handed (zs : List Int) (w : World) (e : Ending) (w' : World) : Prop :=
  e = .returned (if strokesB zs then .tuple #[.int .i64 (leftL (usageL zs)).sum, .int .i64 (midL (usageL zs)).sum, .int .i64 (rightL (usageL zs)).sum, .bool true] else .tuple #[.int .i64 0, .int .i64 0, .int .i64 0, .bool false]) ∧ Below w.heap.size w w'

set_option maxHeartbeats 1000000 in
theorem impl_HandBalance (A : Option Addr) (cap : Nat) (zs : List Int) (w : World) (hr : Reads w w.heap.size 1 A zs.length (ints zs)) (hn0 : zs.length ≤ 1048576) :
    Calls Try.prog 15 #[.slice A zs.length cap] w (Handed zs w) := by
  cases hsb : strokesB zs
  · go_enter Try.func15, Try.ntmps15
    go_wp2_with fail
    refine (impl_isStrokeList A cap zs _ hr hn0).mono ?_
    rintro e w1 ⟨rfl, hb⟩
    go_wp2
    refine bodyPost_ret (results_tmp4 rfl _ _ _) rfl ?_
    exact ⟨by rw [hsb]; rfl, hb⟩
  have hsb' := hsb
  simp only [strokesB, Bool.and_eq_true, decide_eq_true_eq] at hsb'
  obtain ⟨hn, hg⟩ := hsb'
  have HG := Lib.hid hg
  clear hg
  go_enter Try.func15, Try.ntmps15
  go_wp2_with fail
  refine (impl_isStrokeList A cap zs _ hr hn0).mono ?_
  rintro e w1 ⟨rfl, hb⟩
  go_wp2_with fail
  have HSB := Lib.hid hsb
  clear hsb
  refine (impl_usage A cap zs _ ((hr.below hb).more hb.size) hn HG.out).mono ?_
  rintro e w2 ⟨v, rfl, hv, hb2⟩
  have hul := usageL_length zs
  have hbd := usageL_bd zs
  rw [hul] at hv
  obtain ⟨g, c, rfl, hg1, hg2, hg3, hcc, hcm, hcell, -⟩ := hv.open_ (by omega)
  have hil : (ints (usageL zs)).length = 23 := by rw [ints_length, hul]
  have r1 := reads_part hg3 hil hcell 0 8 (by omega)
  have r2 := reads_part hg3 hil hcell 8 5 (by omega)
  have r3 := reads_part hg3 hil hcell 13 10 (by omega)
  have e1 : ((ints (usageL zs)).drop 0).take 8 = ints (leftL (usageL zs)) := by simp [ints, leftL]
  have e2 : ((ints (usageL zs)).drop 8).take 5 = ints (midL (usageL zs)) := by simp [ints, midL]
  have e3 : ((ints (usageL zs)).drop 13).take 10 = ints (rightL (usageL zs)) := by rw [List.take_of_length_le (by simp [ints, hul])]; simp [ints, rightL]
  rw [e1] at r1
  rw [e2] at r2
  rw [e3] at r3
  have k1 := fun N => impl_sum_n (some ⟨g, 0, none⟩) c 8 _ (w2.drewN N) _ (r1.drewN N) (by simp [leftL, hul]) (by omega) (by omega) (by omega) (bd_take hbd 8)
  have k2 := fun N => impl_sum_n (some ⟨g, 8, none⟩) (c - 8) 5 _ (w2.drewN N) _ (r2.drewN N) (by simp [midL, hul]) (by omega) (by omega) (by omega) (bd_take (bd_drop hbd 8) 5)
  have k3 := fun N => impl_sum_n (some ⟨g, 13, none⟩) (c - 13) 10 _ (w2.drewN N) _ (r3.drewN N) (by simp [rightL, hul]) (by omega) (by omega) (by omega) (bd_drop hbd 13)
  have K1 := Lib.hid k1
  have K2 := Lib.hid k2
  have K3 := Lib.hid k3
  clear k1 k2 k3 e1 e2 e3 hil hul
  have HC := Lib.hid hcell
  unfold maxLen at hcm
  have c1 : ¬ (8 : Nat) = c := by omega
  have c2 : ¬ (13 : Nat) = c := by omega
  have c0 : (8 : Int) ≤ (c : Int) := by omega
  have c3 : (13 : Int) ≤ (c : Int) := by omega
  have c4 : (23 : Int) ≤ (c : Int) := by omega
  clear hcell
  go_wp2
  go_quiet ((go_at_call 34; first | (with_reducible exact quiet_left (K1.out _)) | (with_reducible exact quiet_left (K2.out _)) | (with_reducible exact quiet_left (K3.out _))))
  go_wp2
  refine bodyPost_ret (results_tmp4 rfl _ _ _) rfl ?_
  exact ⟨by rw [HSB.out]; rfl, below_drewN (hb.trans (hb2.mono hb.size)) _⟩

theorem part_l {u : List Int} {k : Nat} {x : Int} (h : u[k]? = some x) (hk : k ≤ 7) : ((leftL u).take (k + 1)).sum = ((leftL u).take k).sum + x ∧ ((midL u).take (k + 1 - 8)).sum = ((midL u).take (k - 8)).sum ∧ ((rightL u).take (k + 1 - 13)).sum = ((rightL u).take (k - 13)).sum := by
  refine ⟨sum_snoc _ (by unfold leftL; rw [List.getElem?_take_of_lt (by omega)]; exact h), ?_, ?_⟩
  · rw [show k + 1 - 8 = k - 8 by omega]
  · rw [show k + 1 - 13 = k - 13 by omega]
theorem part_m {u : List Int} {k : Nat} {x : Int} (h : u[k]? = some x) (hk : ¬ k ≤ 7) (hk2 : k ≤ 12) : ((leftL u).take (k + 1)).sum = ((leftL u).take k).sum ∧ ((midL u).take (k + 1 - 8)).sum = ((midL u).take (k - 8)).sum + x ∧ ((rightL u).take (k + 1 - 13)).sum = ((rightL u).take (k - 13)).sum := by
  refine ⟨?_, ?_, ?_⟩
  · unfold leftL; rw [List.take_take, List.take_take, show min (k + 1) 8 = min k 8 by omega]
  · rw [show k + 1 - 8 = (k - 8) + 1 by omega]
    refine sum_snoc _ ?_
    unfold midL
    rw [List.getElem?_take_of_lt (by omega), List.getElem?_drop, show 8 + (k - 8) = k by omega]
    exact h
  · rw [show k + 1 - 13 = k - 13 by omega]
theorem part_r {u : List Int} {k : Nat} {x : Int} (h : u[k]? = some x) (hk2 : ¬ k ≤ 12) : ((leftL u).take (k + 1)).sum = ((leftL u).take k).sum ∧ ((midL u).take (k + 1 - 8)).sum = ((midL u).take (k - 8)).sum ∧ ((rightL u).take (k + 1 - 13)).sum = ((rightL u).take (k - 13)).sum + x := by
  refine ⟨?_, ?_, ?_⟩
  · unfold leftL; rw [List.take_take, List.take_take, show min (k + 1) 8 = min k 8 by omega]
  · unfold midL; rw [List.take_take, List.take_take, show min (k + 1 - 8) 5 = min (k - 8) 5 by omega]
  · rw [show k + 1 - 13 = (k - 13) + 1 by omega]
    refine sum_snoc _ ?_
    unfold rightL
    rw [List.getElem?_drop, show 13 + (k - 13) = k by omega]
    exact h
theorem part_bd {u : List Int} (hu : Bd u 1380) (hl : u.length = 23) (k j i : Nat) : (0 ≤ ((leftL u).take k).sum ∧ ((leftL u).take k).sum ≤ 31740) ∧ (0 ≤ ((midL u).take j).sum ∧ ((midL u).take j).sum ≤ 31740) ∧ (0 ≤ ((rightL u).take i).sum ∧ ((rightL u).take i).sum ≤ 31740) := by
  have h1 := sum_take_bd (leftL u) (by omega) (bd_take hu 8) k
  have h2 := sum_take_bd (midL u) (by omega) (bd_take (bd_drop hu 8) 5) j
  have h3 := sum_take_bd (rightL u) (by omega) (bd_drop hu 13) i
  have e1 : (leftL u).length ≤ 23 := by simp [leftL]; omega
  have e2 : (midL u).length ≤ 23 := by simp [midL]; omega
  have e3 : (rightL u).length ≤ 23 := by simp [rightL]; omega
  omega

end Go.Proofs.Ytfgfbnmcihjfmaa
