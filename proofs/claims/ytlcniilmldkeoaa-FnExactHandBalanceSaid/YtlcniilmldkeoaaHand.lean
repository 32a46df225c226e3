/-
  Contracts of both HandBalance; the law FnExactHandBalance returns true: its walk.
-/
import Derived.Test.YtlcniilmldkeoaaKeys
namespace Go.Proofs.Ytlcniilmldkeoaa
open Go.RowKit
set_option linter.unusedVariables false

set_option maxHeartbeats 1000000 in
theorem impl_sum (A : Option Addr) (cap : Nat) (zs : List Int) (w : World) (B : Int) (hr : Reads w w.heap.size 1 A zs.length (ints zs)) (hn : zs.length ≤ 1048576) (hB : 0 ≤ B) (hBB : B ≤ 1048576) (hbd : Bd zs B) :
    Calls Try.prog 25 #[.slice A zs.length cap] w fun e w' => e = .returned (.int .i64 zs.sum) ∧ w = w' := by
  go_enter Try.func25, Try.ntmps25
  go_wp2
  go_loop [3, 8] (fun t i => ∃ k : Nat, k ≤ zs.length ∧ i = .int .i64 k ∧ t = .int .i64 (zs.take k).sum) (fun _ i => zs.length - (intOf i).toNat)
  case atStart => exact ⟨0, Nat.zero_le _, rfl, rfl⟩
  case round =>
    obtain ⟨k, hk, rfl, rfl⟩ := hrel
    have hs := sum_bd (zs.take k) hB (bd_take hbd k)
    have hm : B * ((zs.take k).length : Int) ≤ 1048576 * 1048576 := by
      have := List.length_take_le k zs
      exact Int.mul_le_mul hBB (by omega) (by omega) (by omega)
    obtain ⟨hs1, hs2⟩ := hs
    have hs3 : (zs.take k).sum ≤ 1048576 * 1048576 := by omega
    clear hm hs2
    by_cases hlt : k < zs.length
    · obtain ⟨b, off, rfl, hb0, hc⟩ := hr.2 (by omega)
      obtain ⟨x, hx⟩ := some_at zs hlt
      have cx : w.cell? ⟨b, off + k, none⟩ = some (.int .i64 x) := hc k _ (ints_at zs hx)
      obtain ⟨hx1, hx2⟩ := hbd.at_ hx
      have HX := Lib.hid hx
      clear hx hc
      go_wp2
      go_round
      case rel => exact ⟨k + 1, by omega, by go_num, by rw [sum_snoc _ HX.out]⟩
      case measure => simp [intOf]; omega
    · obtain rfl : k = zs.length := by omega
      go_wp2
      go_ret
      exact ⟨rfl, rfl⟩

theorem impl_sum_n (A : Option Addr) (cap n : Nat) (zs : List Int) (w : World) (B : Int) (hr : Reads w w.heap.size 1 A n (ints zs)) (hl : zs.length = n) (hn : n ≤ 1048576) (hB : 0 ≤ B) (hBB : B ≤ 1048576) (hbd : Bd zs B) :
    Calls Try.prog 25 #[.slice A n cap] w fun e w' => e = .returned (.int .i64 zs.sum) ∧ w = w' := by
  subst hl
  exact impl_sum A cap zs w B hr hn hB hBB hbd

/-- A part of a row reads. -/
theorem reads_part {w : World} {g n : Nat} {xs : List Value} (hg : g < w.heap.size) (hl : xs.length = n) (h : ∀ j, j < n * 1 → w.cell? ⟨g, j, none⟩ = xs[j]?) (i m : Nat) (him : i + m ≤ n) :
    Reads w w.heap.size 1 (some ⟨g, i, none⟩) m ((xs.drop i).take m) := by
  refine ⟨by simp; omega, fun _ => ⟨g, i, rfl, hg, fun j u hj => ?_⟩⟩
  rw [List.getElem?_take] at hj
  split at hj
  · rw [List.getElem?_drop] at hj
    rw [h (i + j) (by omega)]
    exact hj
  · cases hj

/-- The results of HandBalance. -/
def Handed (zs : List Int) (w : World) (e : Ending) (w' : World) : Prop :=
  e = .returned (if strokesB zs then .tuple #[.int .i64 (leftL (usageL zs)).sum, .int .i64 (midL (usageL zs)).sum, .int .i64 (rightL (usageL zs)).sum, .bool true] else .tuple #[.int .i64 0, .int .i64 0, .int .i64 0, .bool false]) ∧ Below w.heap.size w w'

set_option maxHeartbeats 1000000 in
theorem impl_HandBalance (A : Option Addr) (cap : Nat) (zs : List Int) (w : World) (hr : Reads w w.heap.size 1 A zs.length (ints zs)) (hn0 : zs.length ≤ 1048576) :
    Calls Try.prog 18 #[.slice A zs.length cap] w (Handed zs w) := by
  cases hsb : strokesB zs
  · go_enter Try.func18, Try.ntmps18
    go_wp2_with fail
    refine (impl_isStrokeList A cap zs _ hr hn0).mono ?_
    rintro e w1 ⟨rfl, hb⟩
    go_wp2
    refine bodyPost_ret (results_tmp4 rfl _ _ _) rfl ?_
    exact ⟨by rw [hsb]; rfl, hb⟩
  have hsb' := hsb
  simp only [strokesB, Bool.and_eq_true, decide_eq_true_eq] at hsb'
  obtain ⟨hn, hg⟩ := hsb'
  have HG := Lib.hid hg
  clear hg
  go_enter Try.func18, Try.ntmps18
  go_wp2_with fail
  refine (impl_isStrokeList A cap zs _ hr hn0).mono ?_
  rintro e w1 ⟨rfl, hb⟩
  go_wp2_with fail
  have HSB := Lib.hid hsb
  clear hsb
  refine (impl_usage A cap zs _ ((hr.below hb).more hb.size) hn HG.out).mono ?_
  rintro e w2 ⟨v, rfl, hv, hb2⟩
  have hul := usageL_length zs
  have hbd := usageL_bd zs
  rw [hul] at hv
  obtain ⟨g, c, rfl, hg1, hg2, hg3, hcc, hcm, hcell, -⟩ := hv.open_ (by omega)
  have hil : (ints (usageL zs)).length = 23 := by rw [ints_length, hul]
  have r1 := reads_part hg3 hil hcell 0 8 (by omega)
  have r2 := reads_part hg3 hil hcell 8 5 (by omega)
  have r3 := reads_part hg3 hil hcell 13 10 (by omega)
  have e1 : ((ints (usageL zs)).drop 0).take 8 = ints (leftL (usageL zs)) := by simp [ints, leftL]
  have e2 : ((ints (usageL zs)).drop 8).take 5 = ints (midL (usageL zs)) := by simp [ints, midL]
  have e3 : ((ints (usageL zs)).drop 13).take 10 = ints (rightL (usageL zs)) := by rw [List.take_of_length_le (by simp [ints, hul])]; simp [ints, rightL]
  rw [e1] at r1
  rw [e2] at r2
  rw [e3] at r3
  have k1 := fun N => impl_sum_n (some ⟨g, 0, none⟩) c 8 _ (w2.drewN N) _ (r1.drewN N) (by simp [leftL, hul]) (by omega) (by omega) (by omega) (bd_take hbd 8)
  have k2 := fun N => impl_sum_n (some ⟨g, 8, none⟩) (c - 8) 5 _ (w2.drewN N) _ (r2.drewN N) (by simp [midL, hul]) (by omega) (by omega) (by omega) (bd_take (bd_drop hbd 8) 5)
  have k3 := fun N => impl_sum_n (some ⟨g, 13, none⟩) (c - 13) 10 _ (w2.drewN N) _ (r3.drewN N) (by simp [rightL, hul]) (by omega) (by omega) (by omega) (bd_drop hbd 13)
  have K1 := Lib.hid k1
  have K2 := Lib.hid k2
  have K3 := Lib.hid k3
  clear k1 k2 k3 e1 e2 e3 hil hul
  have HC := Lib.hid hcell
  unfold maxLen at hcm
  have c1 : ¬ (8 : Nat) = c := by omega
  have c2 : ¬ (13 : Nat) = c := by omega
  have c0 : (8 : Int) ≤ (c : Int) := by omega
  have c3 : (13 : Int) ≤ (c : Int) := by omega
  have c4 : (23 : Int) ≤ (c : Int) := by omega
  clear hcell
  go_wp2
  go_quiet ((go_at_call 25; first | (with_reducible exact quiet_left (K1.out _)) | (with_reducible exact quiet_left (K2.out _)) | (with_reducible exact quiet_left (K3.out _))))
  go_wp2
  refine bodyPost_ret (results_tmp4 rfl _ _ _) rfl ?_
  exact ⟨by rw [HSB.out]; rfl, below_drewN (hb.trans (hb2.mono hb.size)) _⟩

theorem part_l {u : List Int} {k : Nat} {x : Int} (h : u[k]? = some x) (hk : k ≤ 7) : ((leftL u).take (k + 1)).sum = ((leftL u).take k).sum + x ∧ ((midL u).take (k + 1 - 8)).sum = ((midL u).take (k - 8)).sum ∧ ((rightL u).take (k + 1 - 13)).sum = ((rightL u).take (k - 13)).sum := by
  refine ⟨sum_snoc _ (by unfold leftL; rw [List.getElem?_take_of_lt (by omega)]; exact h), ?_, ?_⟩
  · rw [show k + 1 - 8 = k - 8 by omega]
  · rw [show k + 1 - 13 = k - 13 by omega]
theorem part_m {u : List Int} {k : Nat} {x : Int} (h : u[k]? = some x) (hk : ¬ k ≤ 7) (hk2 : k ≤ 12) : ((leftL u).take (k + 1)).sum = ((leftL u).take k).sum ∧ ((midL u).take (k + 1 - 8)).sum = ((midL u).take (k - 8)).sum + x ∧ ((rightL u).take (k + 1 - 13)).sum = ((rightL u).take (k - 13)).sum := by
  refine ⟨?_, ?_, ?_⟩
  · unfold leftL; rw [List.take_take, List.take_take, show min (k + 1) 8 = min k 8 by omega]
  · rw [show k + 1 - 8 = (k - 8) + 1 by omega]
    refine sum_snoc _ ?_
    unfold midL
    rw [List.getElem?_take_of_lt (by omega), List.getElem?_drop, show 8 + (k - 8) = k by omega]
    exact h
  · rw [show k + 1 - 13 = k - 13 by omega]
theorem part_r {u : List Int} {k : Nat} {x : Int} (h : u[k]? = some x) (hk2 : ¬ k ≤ 12) : ((leftL u).take (k + 1)).sum = ((leftL u).take k).sum ∧ ((midL u).take (k + 1 - 8)).sum = ((midL u).take (k - 8)).sum ∧ ((rightL u).take (k + 1 - 13)).sum = ((rightL u).take (k - 13)).sum + x := by
  refine ⟨?_, ?_, ?_⟩
  · unfold leftL; rw [List.take_take, List.take_take, show min (k + 1) 8 = min k 8 by omega]
  · unfold midL; rw [List.take_take, List.take_take, show min (k + 1 - 8) 5 = min (k - 8) 5 by omega]
  · rw [show k + 1 - 13 = (k - 13) + 1 by omega]
    refine sum_snoc _ ?_
    unfold rightL
    rw [List.getElem?_drop, show 13 + (k - 13) = k by omega]
    exact h
theorem part_bd {u : List Int} (hu : Bd u 1380) (hl : u.length = 23) (k j i : Nat) : (0 ≤ ((leftL u).take k).sum ∧ ((leftL u).take k).sum ≤ 31740) ∧ (0 ≤ ((midL u).take j).sum ∧ ((midL u).take j).sum ≤ 31740) ∧ (0 ≤ ((rightL u).take i).sum ∧ ((rightL u).take i).sum ≤ 31740) := by
  have h1 := sum_take_bd (leftL u) (by omega) (bd_take hu 8) k
  have h2 := sum_take_bd (midL u) (by omega) (bd_take (bd_drop hu 8) 5) j
  have h3 := sum_take_bd (rightL u) (by omega) (bd_drop hu 13) i
  have e1 : (leftL u).length ≤ 23 := by simp [leftL]; omega
  have e2 : (midL u).length ≤ 23 := by simp [midL]; omega
  have e3 : (rightL u).length ≤ 23 := by simp [rightL]; omega
  omega

set_option maxHeartbeats 2000000 in
theorem spec_HandBalance (A : Option Addr) (cap : Nat) (zs : List Int) (w : World) (hr : Reads w w.heap.size 1 A zs.length (ints zs)) (hn0 : zs.length ≤ 1048576) :
    Calls Try.prog 17 #[.slice A zs.length cap] w (Handed zs w) := by
  cases hsb : strokesB zs
  · go_enter Try.func17, Try.ntmps17
    go_wp2_with fail
    refine (spec_KeyUsage A cap zs _ hr hn0).mono ?_
    rintro e w1 ⟨v, rfl, hv, hb⟩
    go_wp2
    refine bodyPost_ret (results_tmp4 rfl _ _ _) rfl ?_
    exact ⟨by rw [hsb]; rfl, hb⟩
  have hsb' := hsb
  simp only [strokesB, Bool.and_eq_true, decide_eq_true_eq] at hsb'
  obtain ⟨hn, -⟩ := hsb'
  go_enter Try.func17, Try.ntmps17
  go_wp2_with fail
  refine (spec_KeyUsage A cap zs _ hr hn0).mono ?_
  rintro e w1 ⟨v, rfl, hv, hb⟩
  have hul := usageL_length zs
  have hbd : Bd (usageL zs) 1380 := fun x hx => by have := usageL_bd zs x hx; omega
  rw [show usedL zs = usageL zs by simp [usedL, hsb], hul] at hv
  obtain ⟨g, c, rfl, hg1, hg2, hg3, hcc, hcm, hcell, -⟩ := hv.open_ (by omega)
  have HV := Lib.hid hv
  have HU := Lib.hid hul
  have HC := Lib.hid hcell
  have HB := Lib.hid hbd
  clear hv hul hcell hbd
  go_wp2
  have HSB := Lib.hid hsb
  clear hsb
  go_loop [8, 9, 10, 11] (fun l m r i => ∃ k : Nat, k ≤ 23 ∧ i = .int .i64 k ∧ l = .int .i64 ((leftL (usageL zs)).take k).sum ∧ m = .int .i64 ((midL (usageL zs)).take (k - 8)).sum ∧ r = .int .i64 ((rightL (usageL zs)).take (k - 13)).sum) (fun _ _ _ i => 23 - (intOf i).toNat)
  case atStart => exact ⟨0, by omega, rfl, rfl, rfl, rfl⟩
  case round =>
    obtain ⟨k, hk, rfl, rfl, rfl, rfl⟩ := hrel
    obtain ⟨⟨p1, p2⟩, ⟨p3, p4⟩, ⟨p5, p6⟩⟩ := part_bd HB.out HU.out k (k - 8) (k - 13)
    by_cases hlt : k < 23
    · obtain ⟨x, hx⟩ := some_at (usageL zs) (show k < _ by rw [HU.out]; exact hlt)
      have cx : w1.cell? ⟨g, k, none⟩ = some (.int .i64 x) := (HC.out k (by omega)).trans (ints_at _ hx)
      obtain ⟨hx1, hx2⟩ := HB.out.at_ hx
      have HX := Lib.hid hx
      clear hx
      by_cases h7 : k ≤ 7
      · go_wp2
        go_round
        case rel => exact ⟨k + 1, by omega, by go_num, by rw [(part_l HX.out h7).1], by rw [(part_l HX.out h7).2.1], by rw [(part_l HX.out h7).2.2]⟩
        case measure => simp [intOf]; omega
      by_cases h12 : k ≤ 12
      · go_wp2
        go_round
        case rel => exact ⟨k + 1, by omega, by go_num, by rw [(part_m HX.out h7 h12).1], by rw [(part_m HX.out h7 h12).2.1], by rw [(part_m HX.out h7 h12).2.2]⟩
        case measure => simp [intOf]; omega
      · go_wp2
        go_round
        case rel => exact ⟨k + 1, by omega, by go_num, by rw [(part_r HX.out h12).1], by rw [(part_r HX.out h12).2.1], by rw [(part_r HX.out h12).2.2]⟩
        case measure => simp [intOf]; omega
    · obtain rfl : k = 23 := by omega
      go_wp2
      refine bodyPost_ret (results_tmp4 rfl _ _ _) rfl ?_
      refine ⟨?_, hb⟩
      rw [HSB.out]
      have q1 : (leftL (usageL zs)).take 23 = leftL (usageL zs) := List.take_of_length_le (by simp [leftL]; omega)
      have q2 : (midL (usageL zs)).take (23 - 8) = midL (usageL zs) := List.take_of_length_le (by simp [midL]; omega)
      have q3 : (rightL (usageL zs)).take (23 - 13) = rightL (usageL zs) := List.take_of_length_le (by have := HU.out; simp [rightL]; omega)
      rw [q1, q2, q3]
      rfl

set_option maxHeartbeats 2000000 in
theorem law_HandBalance (a0 : Option Addr) (len0 cap0 : Nat) (z0 : List Int) (W : World) (w0 : Ints .i64 W a0 len0 cap0 z0) :
    Calls Try.prog 6 #[.slice a0 len0 cap0] W fun e W' => e = .returned (.bool true) ∧ Below W.heap.size W W' := by
  obtain ⟨hr, hlc, hcm, rfl, -⟩ := w0
  unfold maxLen at hcm
  by_cases hn : z0.length ≤ 1048576
  · have hr0 : Reads W W.heap.size 1 a0 z0.length (ints z0) := hr
    clear hr
    obtain ⟨R, hR⟩ : ∃ R, R = (if strokesB z0 then Value.tuple #[.int .i64 (leftL (usageL z0)).sum, .int .i64 (midL (usageL z0)).sum, .int .i64 (rightL (usageL z0)).sum, .bool true] else .tuple #[.int .i64 0, .int .i64 0, .int .i64 0, .bool false]) := ⟨_, rfl⟩
    obtain ⟨x1, x2, x3, x4, hX⟩ : ∃ (x1 x2 x3 : Int) (x4 : Bool), R = .tuple #[.int .i64 x1, .int .i64 x2, .int .i64 x3, .bool x4] := by
      rw [hR]; split <;> exact ⟨_, _, _, _, rfl⟩
    have HX := Lib.hid (hR.symm.trans hX)
    clear hR hX R
    go_enter Try.func6, Try.ntmps6
    go_wp2_with fail
    refine (toIntS_calls a0 cap0 z0 _ hr0 hn).mono ?_
    rintro e w1 ⟨v1, rfl, o1, b1⟩
    obtain ⟨A1, c1, rfl, r1, -, -⟩ := o1.slice
    go_wp2_with fail
    refine (spec_HandBalance A1 c1 z0 _ r1 hn).mono ?_
    rintro e w2 ⟨he2, b2⟩
    rw [HX.out] at he2
    subst he2
    have s1 := b1.size
    have s2 := b2.size
    have B2 : Below W.heap.size W w2 := b1.trans (b2.mono s1)
    go_wp2_with fail
    refine (toIntS_calls a0 cap0 z0 _ ((hr0.below B2).more (by omega)) hn).mono ?_
    rintro e w3 ⟨v3, rfl, ox, b3⟩
    obtain ⟨Ax, cx, rfl, rx, -, -⟩ := ox.slice
    have s3 := b3.size
    go_wp2_with fail
    refine (impl_HandBalance Ax cx z0 _ rx hn).mono ?_
    rintro e w4 ⟨he4, b4⟩
    rw [HX.out] at he4
    subst he4
    have s4 := b4.size
    have ox4 := ox.below b4
    have B4 : Below W.heap.size W w4 := ((B2.trans (b3.mono (by omega))).trans (b4.mono (by omega)))
    go_wp2_with fail
    refine (toIntS_calls a0 cap0 z0 _ ((hr0.below B4).more (by omega)) hn).mono ?_
    rintro e w6 ⟨v6, rfl, oc, b6⟩
    obtain ⟨Ac, cc, rfl, rc, -, -⟩ := oc.slice
    have s6 := b6.size
    have ox6 := ox4.below b6
    go_wp2_with fail
    refine (eqIntS_calls Ax Ac cx cc _ _ _ (Reads.of_own ox6.1) (Reads.of_own oc.1) (by omega)).mono ?_
    rintro e w7 ⟨rfl, b7⟩
    go_wp2
    go_ret
    exact ⟨rfl, (B4.trans (b6.mono (by omega))).trans (b7.mono (by omega))⟩
  · clear hr
    go_enter Try.func6, Try.ntmps6
    go_wp2
    go_ret
    exact ⟨rfl, Below.refl _ _⟩
end Go.Proofs.Ytlcniilmldkeoaa
