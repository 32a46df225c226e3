/-
  A merge of two sorted runs of which the second is one element, as the library's stable sort does it, walked.
-/
import Derived.Test.YtfgfbnmcihjfmaaStabM
namespace Go.Proofs.Ytfgfbnmcihjfmaa
open Go.RowKit
set_option linter.unusedVariables false
set_option linter.unusedSimpArgs false
set_option maxRecDepth 100000

set_option maxHeartbeats 8000000 in
theorem symMerge_last (lo g cap n a m b gb : Nat) (c : Int → Int) (xs P A B S : List Int) (W w : World) (h : RowZ W w lo g cap n xs) (hr : Runs c xs a m b P A B S) (hc : CmpOk W g gb c) (hm : b = m + 1) (ham : a + 1 < m) (hn : n ≤ 1000000) :
    Calls Try.prog 60 #[.slice (some ⟨g, 0, none⟩) n cap, .int .i64 a, .int .i64 m, .int .i64 b, .func (.func 24) #[] #[.pointer (some ⟨gb, 0, none⟩)]] w (MergeRes W lo g cap n c P A B S) := by
  have hin : ∀ args W, (callFunc 24 args).run Try.prog W = .ok (.enter 24 args) W := fun args W => run_enter Try.func24 (by kernel_rfl) rfl args W
  have hbn : b ≤ n := by have := hr.len; have := h.len; omega
  obtain ⟨x, rfl⟩ : ∃ x, B = [x] := List.length_eq_one_iff.1 (by have := hr.bl; omega)
  have hxm : xs[m]? = some x := by rw [hr.atB (Nat.le_refl _) (by omega), Nat.sub_self]; rfl
  have H0 := Lib.hid h
  have HR := Lib.hid hr
  have HC := Lib.hid hc
  have HXM := Lib.hid hxm
  have HM := Lib.hid hm
  have HAM := Lib.hid ham
  obtain ⟨d, hd⟩ : ∃ d, d = m - a := ⟨_, rfl⟩
  have e0 : IntKind.i64.wrap ((m : Int) - (a : Int)) = (d : Int) := by rw [IntKind.wrap_i64]; omega
  have i0 : ((d : Int) == 1) = false := by simp; omega
  have e1 : IntKind.i64.wrap ((b : Int) - (m : Int)) = 1 := by rw [IntKind.wrap_i64]; omega
  have j0 : ((1 : Int) == 1) = true := rfl
  have mn : (m : Int) < (n : Int) := by omega
  clear h hr hc hm hxm ham hd
  go_enter Try.func60, Try.ntmps60
  go_wp2
  clear e0 e1 i0
  go_loopw [14, 15] (fun vi vj wr => ∃ i j : Nat, vi = .int .i64 i ∧ vj = .int .i64 j ∧ a ≤ i ∧ i ≤ j ∧ j ≤ m ∧ Seek1 c xs a m x i j ∧ RowZ W wr lo g cap n xs) (fun vi vj _ => (intOf vj).toNat - (intOf vi).toNat)
  case atStart => exact ⟨a, m, rfl, rfl, Nat.le_refl _, by have := HAM.out; omega, Nat.le_refl _, seek1_start, H0.out⟩
  case round =>
    obtain ⟨i, j, rfl, rfl, hai, hij, hjm, hsk, hro⟩ := hrel
    have HSK := Lib.hid hsk
    have HRO := Lib.hid hro
    clear hsk hro
    by_cases hlt : i < j
    · obtain ⟨k, hk⟩ : ∃ k, k = (i + j) / 2 := ⟨_, rfl⟩
      obtain ⟨y, hy⟩ : ∃ y, xs[k]? = some y := ⟨_, List.getElem?_eq_getElem (by have := H0.out.len; omega)⟩
      have ck := HRO.out.cell hy
      have cm := HRO.out.cell HXM.out
      have eh : ((i : Int) + (j : Int)) / 2 = (k : Int) := by omega
      have ik0 : i ≤ k := by omega
      have ik1 : k < j := by omega
      have i1 : (i : Int) < (j : Int) := by omega
      have i2 : (k : Int) < (n : Int) := by omega
      have hcq := HC.out.at_ HRO.out.only (HRO.out.wf HXM.out) (HRO.out.wf hy)
      have HY := Lib.hid hy
      have hlow : y < x := HR.out.lowAB (show a ≤ k by omega) (by omega) (Nat.le_refl _) (by have := HM.out; omega) hy HXM.out
      have HLW := Lib.hid hlow
      clear hy hk hlow
      by_cases hyx : c y < c x
      · have hz := cmpZ_yes hyx
        have hz2 : decide (cmpZ c x y < 0) = true := decide_eq_true hz
        have HN := Lib.hid (HR.out.seek2_down HSK.out (by omega) (by omega) HY.out ((bef_high HLW.out).2 hyx))
        clear hyx
        go_wp2_with fail
        go_big_quiet (first | (go_at_call 24; exact hcq _))
        go_wp2
        go_roundw
        case rel => exact ⟨i, k, rfl, rfl, hai, by omega, by omega, HN.out, HRO.out.drewN _⟩
        case measure => simp [intOf]; omega
      · have hz := cmpZ_no hyx
        have hz2 : decide (cmpZ c x y < 0) = false := decide_eq_false hz
        have HN := Lib.hid (HR.out.seek2_up HSK.out (by omega) (by omega) HY.out ((bef_low HLW.out).2 hyx))
        clear hyx
        go_wp2_with fail
        go_big_quiet (first | (go_at_call 24; exact hcq _))
        go_wp2
        go_roundw
        case rel => exact ⟨k + 1, j, by go_num, rfl, by omega, by omega, hjm, HN.out, HRO.out.drewN _⟩
        case measure => simp [intOf]; omega
    · obtain rfl : j = i := by omega
      have hdn := HR.out.wand2_done HSK.out hai hjm
      have HDN := Lib.hid hdn
      have hr0 : RowZ W wr lo g cap n (wand1 P A S x A.length) := by rw [← wand2_start HR.out]; exact HRO.out
      have HR0 := Lib.hid hr0
      obtain ⟨s, hs⟩ : ∃ s, s = j - a := ⟨_, rfl⟩
      rw [← hs] at HDN
      have hal := HR.out.al
      have HAL := Lib.hid hal
      have hsa : s ≤ A.length := by omega
      have HS := Lib.hid hs
      clear hdn hr0 hs hal
      go_wp2
      go_loopw [17] (fun vk w2 => ∃ t : Nat, s ≤ t ∧ t ≤ A.length ∧ vk = .int .i64 ((a + t : Nat) : Int) ∧ RowZ W w2 lo g cap n (wand1 P A S x t)) (fun vk _ => (intOf vk).toNat)
      case atStart => exact ⟨A.length, hsa, Nat.le_refl _, by rw [HAL.out], HR0.out⟩
      case round =>
        obtain ⟨t, hst, htl, rfl, hr3⟩ := hrel
        have HR3 := Lib.hid hr3
        clear hr3
        obtain ⟨q, hq⟩ : ∃ q, q = a + t := ⟨_, rfl⟩
        rw [← hq]
        by_cases hlt2 : s < t
        · obtain ⟨t, rfl⟩ : ∃ u, t = u + 1 := ⟨t - 1, by omega⟩
          have htb : t < A.length := by omega
          obtain ⟨y, hy⟩ := some_at A htb
          have hw := wand2_at (P := P) (S := S) (e := x) htb
          have hwn := wand2_next (P := P) (S := S) (e := x) htb
          obtain ⟨p, hp⟩ : ∃ p, p = a + t := ⟨_, rfl⟩
          have hq' : q = p + 1 := by omega
          rw [hy, HR.out.pl, ← hp, ← hq'] at hw
          rw [HR.out.pl, ← hp, ← hq'] at hwn
          have cq := HR3.out.cell hw.1
          have cp := HR3.out.cell hw.2
          have fp := HR3.out.free p
          have fq := HR3.out.free q
          have hex := (HR3.out.exch hw.1 hw.2).drew
          rw [hwn] at hex
          have HEX := Lib.hid hex
          have i1 : (j : Int) < (q : Int) := by have := HS.out; omega
          have i3 : (q : Int) < (n : Int) := by have := HAL.out; omega
          have i2 : (p : Int) < (n : Int) := by omega
          have eq1 : IntKind.i64.wrap ((q : Int) - 1) = (p : Int) := by rw [IntKind.wrap_i64]; omega
          have i4 : p ≠ q := by omega
          have i6 : (1 : Int) ≤ (q : Int) := by omega
          have HP := Lib.hid hp
          have HQ := Lib.hid hq'
          clear hw hwn hex hy hp hq hq'
          go_wp2
          go_region
          all_goals go_wp2
          go_roundw
          case rel => exact ⟨t, by omega, by omega, by have h1 := HP.out; have h2 := HQ.out; go_num, HEX.out⟩
          case measure => have := HP.out; have := HQ.out; simp [intOf]; omega
        · obtain rfl : t = s := by omega
          have i1 : ¬ (j : Int) < (q : Int) := by have := HS.out; omega
          clear hq
          go_wp2
          go_end0
          exact ⟨rfl, _, HDN.out, HR3.out⟩
end Go.Proofs.Ytfgfbnmcihjfmaa
