/-
  A merge of two sorted runs of which the first or the second is one element, as the library's stable sort does it, walked.
-/
import Derived.Test.YtfgfbnmcihjfmaaStabI
namespace Go.Proofs.Ytfgfbnmcihjfmaa
open Go.RowKit
set_option linter.unusedVariables false
set_option linter.unusedSimpArgs false
set_option maxRecDepth 100000

def MergeRes (W : World) (lo g cap n : Nat) (c : Int → Int) (P A B S : List Int) (e : Ending) (w' : World) : Prop := e = .returned (.tuple #[]) ∧ ∃ ys, Merged c ys P A B S ∧ RowZ W w' lo g cap n ys

set_option maxHeartbeats 8000000 in
theorem symMerge_one (lo g cap n a m b gb : Nat) (c : Int → Int) (xs P A B S : List Int) (W w : World) (h : RowZ W w lo g cap n xs) (hr : Runs c xs a m b P A B S) (hc : CmpOk W g gb c) (hm : m = a + 1) (hmb : m < b) (hn : n ≤ 1000000) :
    Calls Try.prog 60 #[.slice (some ⟨g, 0, none⟩) n cap, .int .i64 a, .int .i64 m, .int .i64 b, .func (.func 24) #[] #[.pointer (some ⟨gb, 0, none⟩)]] w (MergeRes W lo g cap n c P A B S) := by
  have hin : ∀ args W, (callFunc 24 args).run Try.prog W = .ok (.enter 24 args) W := fun args W => run_enter Try.func24 (by kernel_rfl) rfl args W
  have hbn : b ≤ n := by have := hr.len; have := h.len; omega
  obtain ⟨x, rfl⟩ : ∃ x, A = [x] := List.length_eq_one_iff.1 (by have := hr.al; omega)
  have hxa : xs[a]? = some x := by rw [hr.atA (Nat.le_refl _) (by omega), Nat.sub_self]; rfl
  have H0 := Lib.hid h
  have HR := Lib.hid hr
  have HC := Lib.hid hc
  have HXA := Lib.hid hxa
  have ca := h.cell hxa
  have HM := Lib.hid hm
  have i0 : ((1 : Int) == 1) = true := rfl
  have e0 : IntKind.i64.wrap ((m : Int) - (a : Int)) = 1 := by rw [IntKind.wrap_i64]; omega
  have an : (a : Int) < (n : Int) := by omega
  clear h hr hc hm hxa ca
  go_enter Try.func60, Try.ntmps60
  go_wp2
  clear e0
  go_loopw [10, 11] (fun vi vj wr => ∃ i j : Nat, vi = .int .i64 i ∧ vj = .int .i64 j ∧ m ≤ i ∧ i ≤ j ∧ j ≤ b ∧ Seek1 c xs m b x i j ∧ RowZ W wr lo g cap n xs) (fun vi vj _ => (intOf vj).toNat - (intOf vi).toNat)
  case atStart => exact ⟨m, b, rfl, rfl, Nat.le_refl _, by omega, Nat.le_refl _, seek1_start, H0.out⟩
  case round =>
    obtain ⟨i, j, rfl, rfl, hmi, hij, hjb, hsk, hro⟩ := hrel
    have HSK := Lib.hid hsk
    have HRO := Lib.hid hro
    clear hsk hro
    by_cases hlt : i < j
    · obtain ⟨k, hk⟩ : ∃ k, k = (i + j) / 2 := ⟨_, rfl⟩
      obtain ⟨y, hy⟩ : ∃ y, xs[k]? = some y := ⟨_, List.getElem?_eq_getElem (by have := H0.out.len; omega)⟩
      have ck := HRO.out.cell hy
      have ca := HRO.out.cell HXA.out
      have eh : ((i : Int) + (j : Int)) / 2 = (k : Int) := by omega
      have ik0 : i ≤ k := by omega
      have ik1 : k < j := by omega
      have i1 : (i : Int) < (j : Int) := by omega
      have i2 : (k : Int) < (n : Int) := by omega
      have hcq := HC.out.at_ HRO.out.only (HRO.out.wf hy) (HRO.out.wf HXA.out)
      have HY := Lib.hid hy
      clear hy hk
      by_cases hyx : c x < c y
      · have hz := cmpZ_yes hyx
        have HN := Lib.hid (HR.out.seek1_up HSK.out (by omega) (by omega) HY.out ((bef_high (HR.out.lowAB (Nat.le_refl _) (by have := HM.out; omega) (by omega) (by omega) HXA.out HY.out)).2 hyx))
        clear hyx
        go_wp2_with fail
        go_big_quiet (first | (go_at_call 24; exact hcq _))
        go_wp2
        go_roundw
        case rel => exact ⟨k + 1, j, by go_num, rfl, by omega, by omega, hjb, HN.out, HRO.out.drewN _⟩
        case measure => simp [intOf]; omega
      · have hz := cmpZ_no hyx
        have HN := Lib.hid (HR.out.seek1_down HSK.out (by omega) (by omega) HY.out ((bef_low (HR.out.lowAB (Nat.le_refl _) (by have := HM.out; omega) (by omega) (by omega) HXA.out HY.out)).2 hyx))
        clear hyx
        go_wp2_with fail
        go_big_quiet (first | (go_at_call 24; exact hcq _))
        go_wp2
        go_roundw
        case rel => exact ⟨i, k, rfl, rfl, hmi, by omega, by omega, HN.out, HRO.out.drewN _⟩
        case measure => simp [intOf]; omega
    · obtain rfl : j = i := by omega
      have hdn := HR.out.wand1_done HSK.out hmi hjb
      have HDN := Lib.hid hdn
      have hr0 : RowZ W wr lo g cap n (wand1 P B S x 0) := by rw [← wand1_zero HR.out]; exact HRO.out
      have HR0 := Lib.hid hr0
      obtain ⟨s, hs⟩ : ∃ s, s = j - m := ⟨_, rfl⟩
      rw [← hs] at HDN
      have hsb : s ≤ B.length := by have := HR.out.bl; omega
      have HS := Lib.hid hs
      have e1 : IntKind.i64.wrap ((j : Int) - 1) = ((a + s : Nat) : Int) := by have := HM.out; rw [IntKind.wrap_i64]; omega
      obtain ⟨z, hz⟩ : ∃ z, z = a + s := ⟨_, rfl⟩
      rw [← hz] at e1
      have HZ := Lib.hid hz
      have i6 : (1 : Int) ≤ (j : Int) := by have := HM.out; omega
      clear hdn hr0 hs hz
      go_wp2
      go_loopw [13] (fun vk w2 => ∃ t : Nat, t ≤ s ∧ vk = .int .i64 ((a + t : Nat) : Int) ∧ RowZ W w2 lo g cap n (wand1 P B S x t)) (fun vk _ => a + s - (intOf vk).toNat)
      case atStart => exact ⟨0, Nat.zero_le _, rfl, HR0.out⟩
      case round =>
        obtain ⟨t, hts, rfl, hr3⟩ := hrel
        have HR3 := Lib.hid hr3
        clear hr3
        obtain ⟨p, hp⟩ : ∃ p, p = a + t := ⟨_, rfl⟩
        rw [← hp]
        by_cases hlt2 : t < s
        · have htb : t < B.length := by omega
          obtain ⟨y, hy⟩ := some_at B htb
          have hw := wand1_at (P := P) (S := S) (e := x) htb
          have hwn := wand1_next (P := P) (S := S) (e := x) htb
          obtain ⟨q, hq⟩ : ∃ q, q = p + 1 := ⟨_, rfl⟩
          rw [hy, HR.out.pl, ← hp, ← hq] at hw
          rw [HR.out.pl, ← hp, ← hq] at hwn
          have cp := HR3.out.cell hw.1
          have cq := HR3.out.cell hw.2
          have fp := HR3.out.free p
          have fq := HR3.out.free q
          have hex := (HR3.out.exch hw.1 hw.2).drew
          rw [hwn] at hex
          have HEX := Lib.hid hex
          have eq1 : IntKind.i64.wrap ((p : Int) + 1) = (q : Int) := by have := HM.out; have := HS.out; rw [IntKind.wrap_i64]; omega
          have i1 : (p : Int) < (z : Int) := by have := HZ.out; omega
          have i2 : (p : Int) < (n : Int) := by have := HM.out; have := HS.out; omega
          have i3 : (q : Int) < (n : Int) := by have := HM.out; have := HS.out; omega
          have i4 : p ≠ q := by omega
          have HP := Lib.hid hp
          have HQ := Lib.hid hq
          clear hw hwn hex hy hp hq
          go_wp2
          go_region
          all_goals go_wp2
          go_roundw
          case rel => exact ⟨t + 1, by omega, by have h1 := HP.out; have h2 := HQ.out; go_num, HEX.out⟩
          case measure => have := HP.out; have := HQ.out; simp [intOf]; omega
        · obtain rfl : t = s := by omega
          have i1 : ¬ (p : Int) < (z : Int) := by have := HZ.out; omega
          clear hp
          go_wp2
          go_end0
          exact ⟨rfl, _, HDN.out, HR3.out⟩
end Go.Proofs.Ytfgfbnmcihjfmaa
