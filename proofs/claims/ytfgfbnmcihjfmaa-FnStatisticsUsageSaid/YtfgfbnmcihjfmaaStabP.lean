/-
  A merge of two sorted runs, as the library's stable sort does it, walked: the general case, and all cases by induction.
-/
import Derived.Test.YtfgfbnmcihjfmaaStabO
namespace Go.Proofs.Ytfgfbnmcihjfmaa
open Go.RowKit
set_option linter.unusedVariables false
set_option linter.unusedSimpArgs false
set_option maxRecDepth 100000

set_option maxHeartbeats 16000000 in
theorem symMerge_many (lo g cap n a m b gb : Nat) (c : Int → Int) (xs P A B S : List Int) (W w : World) (h : RowZ W w lo g cap n xs) (hr : Runs c xs a m b P A B S) (hc : CmpOk W g gb c) (ham : a + 1 < m) (hmb : m + 1 < b) (hn : n ≤ 1000000)
    (ih : ∀ (a' m' b' : Nat) (xs P A B S : List Int) (w : World), b' - a' < b - a → a' < m' → m' < b' → RowZ W w lo g cap n xs → Runs c xs a' m' b' P A B S →
      Calls Try.prog 60 #[.slice (some ⟨g, 0, none⟩) n cap, .int .i64 a', .int .i64 m', .int .i64 b', .func (.func 24) #[] #[.pointer (some ⟨gb, 0, none⟩)]] w (MergeRes W lo g cap n c P A B S)) :
    Calls Try.prog 60 #[.slice (some ⟨g, 0, none⟩) n cap, .int .i64 a, .int .i64 m, .int .i64 b, .func (.func 24) #[] #[.pointer (some ⟨gb, 0, none⟩)]] w (MergeRes W lo g cap n c P A B S) := by
  have hin : ∀ args W, (callFunc 24 args).run Try.prog W = .ok (.enter 24 args) W := fun args W => run_enter Try.func24 (by kernel_rfl) rfl args W
  have hbn : b ≤ n := by have := hr.len; have := h.len; omega
  have H0 := Lib.hid h
  have HR := Lib.hid hr
  have HC := Lib.hid hc
  have IH := Lib.hid ih
  obtain ⟨d1, hd1⟩ : ∃ d, d = m - a := ⟨_, rfl⟩
  obtain ⟨d2, hd2⟩ : ∃ d, d = b - m := ⟨_, rfl⟩
  have e1 : IntKind.i64.wrap ((m : Int) - (a : Int)) = (d1 : Int) := by rw [IntKind.wrap_i64]; omega
  have j1 : ((d1 : Int) == 1) = false := by simp; omega
  have e2 : IntKind.i64.wrap ((b : Int) - (m : Int)) = (d2 : Int) := by rw [IntKind.wrap_i64]; omega
  have j2 : ((d2 : Int) == 1) = false := by simp; omega
  obtain ⟨mid, hmid⟩ : ∃ mid, mid = (a + b) / 2 := ⟨_, rfl⟩
  have eh : ((a : Int) + (b : Int)) / 2 = (mid : Int) := by omega
  have m1 : a < mid := by omega
  have m2 : mid < b := by omega
  obtain ⟨nn, hnn⟩ : ∃ nn, nn = mid + m := ⟨_, rfl⟩
  have e3 : IntKind.i64.wrap ((mid : Int) + (m : Int)) = (nn : Int) := by rw [IntKind.wrap_i64]; omega
  obtain ⟨p, hp⟩ : ∃ p, p = nn - 1 := ⟨_, rfl⟩
  have e4 : IntKind.i64.wrap ((nn : Int) - 1) = (p : Int) := by rw [IntKind.wrap_i64]; omega
  obtain ⟨l0, h0, hrg⟩ : ∃ l0 h0, Range a m b mid p l0 h0 := by
    by_cases hmm : mid < m
    · exact ⟨mid + m - b, mid, by omega, by omega, hmid, by omega, .inl ⟨hmm, by omega, rfl⟩⟩
    · exact ⟨a, m, by omega, by omega, hmid, by omega, .inr ⟨by omega, rfl, rfl⟩⟩
  have HRG := Lib.hid hrg
  have HNN := Lib.hid hnn
  have HPP := Lib.hid hp
  have HMID := Lib.hid hmid
  have i7 : (1 : Int) ≤ (nn : Int) := by omega
  clear h hr hc ih hd1 hd2 hmid hnn hp hrg
  go_enter Try.func60, Try.ntmps60
  go_upto_if 140 with fail
  clear e1 e2 j1 j2 e3
  go_cut [20, 21] from 25 to 219 (fun vs vr wx => vs = .int .i64 l0 ∧ vr = .int .i64 h0 ∧ wx = w)
  case first =>
    by_cases hmm : mid < m
    · have k1 : (mid : Int) < (m : Int) := by omega
      have k2 : IntKind.i64.wrap ((nn : Int) - (b : Int)) = (l0 : Int) := by have := HRG.out.hlo; have := HNN.out; rw [IntKind.wrap_i64]; omega
      go_wp2
      go_meet
      exact ⟨rfl, by have := HRG.out.hlo; congr 1; omega, rfl⟩
    · have k1 : ¬ (mid : Int) < (m : Int) := by omega
      go_wp2
      go_meet
      exact ⟨by have := HRG.out.hlo; congr 1; omega, by have := HRG.out.hlo; congr 1; omega, rfl⟩
  case rest =>
  obtain ⟨rfl, rfl, hwc⟩ := hcut
  subst wc
  have hl1 : l0 ≤ h0 := by have := HRG.out.hlo; have := HMID.out; omega
  have HL := Lib.hid hl1
  clear hl1
  go_wp2
  go_loopw [20, 21] (fun vs vr wr => ∃ s r : Nat, vs = .int .i64 s ∧ vr = .int .i64 r ∧ l0 ≤ s ∧ s ≤ r ∧ r ≤ h0 ∧ Seek3 c xs p l0 h0 s r ∧ RowZ W wr lo g cap n xs) (fun vs vr _ => (intOf vr).toNat - (intOf vs).toNat)
  case atStart => exact ⟨l0, h0, rfl, rfl, Nat.le_refl _, HL.out, Nat.le_refl _, seek3_start, H0.out⟩
  case round =>
    obtain ⟨s, r, rfl, rfl, hls, hsr, hrh, hsk, hro⟩ := hrel
    have HSK := Lib.hid hsk
    have HRO := Lib.hid hro
    clear hsk hro
    by_cases hlt : s < r
    · obtain ⟨k, hk⟩ : ∃ k, k = (s + r) / 2 := ⟨_, rfl⟩
      have ik0 : s ≤ k := by omega
      have ik1 : k < r := by omega
      have gk := HRG.out.in_ (show l0 ≤ k by omega) (show k < h0 by omega)
      obtain ⟨q, hq⟩ : ∃ q, q = p - k := ⟨_, rfl⟩
      obtain ⟨x, hx⟩ : ∃ x, xs[k]? = some x := ⟨_, List.getElem?_eq_getElem (by have := H0.out.len; omega)⟩
      obtain ⟨y, hy⟩ : ∃ y, xs[q]? = some y := ⟨_, List.getElem?_eq_getElem (by have := H0.out.len; omega)⟩
      have ck := HRO.out.cell hx
      have cq := HRO.out.cell hy
      have eh : ((s : Int) + (r : Int)) / 2 = (k : Int) := by omega
      have eq1 : IntKind.i64.wrap ((p : Int) - (k : Int)) = (q : Int) := by rw [IntKind.wrap_i64]; omega
      have i1 : (s : Int) < (r : Int) := by omega
      have i2 : (k : Int) < (n : Int) := by omega
      have i3 : (q : Int) < (n : Int) := by omega
      have i4 : (k : Int) ≤ (p : Int) := by omega
      have hcq := HC.out.at_ HRO.out.only (HRO.out.wf hy) (HRO.out.wf hx)
      have hlow : x < y := HR.out.lowAB gk.1 gk.2.1 (show m ≤ q by omega) (by omega) hx hy
      have HLW := Lib.hid hlow
      have HX := Lib.hid hx
      have HY := Lib.hid (show xs[p - k]? = some y by rw [← hq]; exact hy)
      clear hx hy hk hq hlow gk
      by_cases hyx : c x < c y
      · have hz := cmpZ_yes hyx
        have hz2 : decide (cmpZ c y x < 0) = true := decide_eq_true hz
        have HN := Lib.hid (HR.out.seek3_down HRG.out HSK.out (by omega) (by omega) HX.out HY.out ((bef_high HLW.out).2 hyx))
        clear hyx
        go_wp2_with fail
        go_big_quiet (first | (go_at_call 24; exact hcq _))
        go_wp2
        go_roundw
        case rel => exact ⟨s, k, rfl, rfl, hls, by omega, by omega, HN.out, HRO.out.drewN _⟩
        case measure => simp [intOf]; omega
      · have hz := cmpZ_no hyx
        have hz2 : decide (cmpZ c y x < 0) = false := decide_eq_false hz
        have HN := Lib.hid (HR.out.seek3_up HRG.out HSK.out (by omega) (by omega) HX.out HY.out ((bef_low HLW.out).2 hyx))
        clear hyx
        go_wp2_with fail
        go_big_quiet (first | (go_at_call 24; exact hcq _))
        go_wp2
        go_roundw
        case rel => exact ⟨k + 1, r, by go_num, rfl, by omega, by omega, hrh, HN.out, HRO.out.drewN _⟩
        case measure => simp [intOf]; omega
    · obtain rfl : r = s := by omega
      have hh := HR.out.halves HRG.out HSK.out hls hrh
      obtain ⟨e, he⟩ : ∃ e, e = mid + m - r := ⟨_, rfl⟩
      rw [← he] at hh
      have HH := Lib.hid hh
      have k1 := hh.as_
      have k2 := hh.sm
      have k3 := hh.me
      have k4 := hh.eb
      have k5 := hh.sum
      have e5 : IntKind.i64.wrap ((nn : Int) - (r : Int)) = (e : Int) := by have := HNN.out; rw [IntKind.wrap_i64]; omega
      have i1 : ¬ (r : Int) < (r : Int) := by omega
      have HK5 := Lib.hid k5
      clear hh he k5
      go_upto_region 38 with fail
      obtain ⟨w0, hw0⟩ : ∃ w0, w0 = wr := ⟨_, rfl⟩
      have HW0 := Lib.hid hw0
      clear hw0
      go_cut [24] from 25 to 219 (fun x wx => x = .int .i64 e ∧ wx = w0)
      case first =>
        go_wp2
        go_meet
        exact ⟨rfl, HW0.out.symm⟩
      case rest =>
      obtain ⟨rfl, hwc⟩ := hcut
      rw [HW0.out] at hwc
      subst wc
      refine ‹∀ (a : Act) (w : World), Code.wp Try.prog _ (bodyPost _ _ _) a w → _› _ _ ?_
      exact merge_tail39 lo g cap n a m b gb mid r e c P A B S W _ hn k1 k2 k3 k4 hbn ⟨m1, m2⟩ xs HR HH HRO IH _ _ _ _ _ _ _ _ _ _ _ _ _ _ _ _ _ _ _ _ _ _ _ _ _ _ _ _ _ _ _ _ _ _ _ _ _ _ _ _ _ _ _ _ _ _ _ _ _ _ _ _ _ _ _ _ _ _ _ _ _ _ _ _ _ _ _ _ _ _ _ _ _ _ _ _ _ _ _ _ _ _ _ _ _ _ _ _ _ _ _ _ _ _ _ _ _ _ _ _ _ _ _ _ _ _ _ _ _ _ _ _ _ _ _ _ _ _ _ _ _ _ _ _ _ _ _ _ _ _ _ _ _ _ _ _ _ _ _ _ _ _ _ _ _ _ _ _ _ _ _ _ _ _ _ _ _ _ _ _ _ _ _ _ _ _ _ _ _ _ _ _ _ _ _ _ _ _ _ _ _ _ _ _ _ _ _ _ _ _ _ _ _ _ _ _ _ _ _ _ _ _ _ _ _ _ _ _ _ _ _ _

theorem symMerge_calls (lo g cap n gb : Nat) (c : Int → Int) (W : World) (hc : CmpOk W g gb c) (hn : n ≤ 1000000) : ∀ (d a m b : Nat) (xs P A B S : List Int) (w : World), b - a ≤ d → a < m → m < b → RowZ W w lo g cap n xs → Runs c xs a m b P A B S →
    Calls Try.prog 60 #[.slice (some ⟨g, 0, none⟩) n cap, .int .i64 a, .int .i64 m, .int .i64 b, .func (.func 24) #[] #[.pointer (some ⟨gb, 0, none⟩)]] w (MergeRes W lo g cap n c P A B S)
  | 0, a, m, b, _, _, _, _, _, _, hd, ham, hmb, _, _ => by omega
  | d + 1, a, m, b, xs, P, A, B, S, w, hd, ham, hmb, h, hr => by
    by_cases h1 : m = a + 1
    · exact symMerge_one lo g cap n a m b gb c xs P A B S W w h hr hc h1 hmb hn
    by_cases h2 : b = m + 1
    · exact symMerge_last lo g cap n a m b gb c xs P A B S W w h hr hc h2 (by omega) hn
    exact symMerge_many lo g cap n a m b gb c xs P A B S W w h hr hc (by omega) (by omega) hn (fun a' m' b' xs' P' A' B' S' w' hlt h3 h4 h5 h6 => symMerge_calls lo g cap n gb c W hc hn d a' m' b' xs' P' A' B' S' w' (by omega) h3 h4 h5 h6)
end Go.Proofs.Ytfgfbnmcihjfmaa
