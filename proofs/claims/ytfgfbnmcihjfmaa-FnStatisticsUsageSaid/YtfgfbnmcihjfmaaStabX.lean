/-
  Rotation of a row, as the library's stable sort does it, walked.
-/
import Derived.Test.YtfgfbnmcihjfmaaStabW
namespace Go.Proofs.Ytfgfbnmcihjfmaa
open Go.RowKit
set_option linter.unusedVariables false
set_option linter.unusedSimpArgs false
set_option maxRecDepth 100000

set_option maxHeartbeats 4000000 in
theorem rotate_calls (lo g cap n a m b : Nat) (F : Value) (xs T P u v S : List Int) (W w : World) (h : RowZ W w lo g cap n xs) (hr : Rot xs T m (m - a) (b - m) P u v S) (ham : a < m) (hmb : m < b) (hb : b ≤ n) (hn : n ≤ 1000000) :
    Calls Try.prog 67 #[.slice (some ⟨g, 0, none⟩) n cap, .int .i64 a, .int .i64 m, .int .i64 b, F] w fun e w' => e = .returned (.tuple #[]) ∧ RowZ W w' lo g cap n T := by
  have H0 := Lib.hid h
  have HR := Lib.hid hr
  clear h hr
  have e1 : IntKind.i64.wrap ((m : Int) - (a : Int)) = ((m - a : Nat) : Int) := by rw [IntKind.wrap_i64]; omega
  have e2 : IntKind.i64.wrap ((b : Int) - (m : Int)) = ((b - m : Nat) : Int) := by rw [IntKind.wrap_i64]; omega
  obtain ⟨i0, hi0⟩ : ∃ i0, i0 = m - a := ⟨_, rfl⟩
  obtain ⟨j0, hj0⟩ : ∃ j0, j0 = b - m := ⟨_, rfl⟩
  rw [← hi0] at e1 HR
  rw [← hj0] at e2 HR
  have hi1 : 0 < i0 ∧ a + i0 ≤ m := by omega
  have hj1 : 0 < j0 ∧ m + j0 ≤ b := by omega
  clear hi0 hj0
  go_enter Try.func67, Try.ntmps67
  go_wp2
  clear e1 e2
  go_loopw [10, 11] (fun i j wr => ∃ (p q : Nat) (ys P u v S : List Int), i = .int .i64 p ∧ j = .int .i64 q ∧ 0 < p ∧ 0 < q ∧ a + p ≤ m ∧ m + q ≤ b ∧ Rot ys T m p q P u v S ∧ RowZ W wr lo g cap n ys) (fun i j _ => (intOf i).toNat + (intOf j).toNat)
  case atStart => exact ⟨i0, j0, xs, P, u, v, S, rfl, rfl, hi1.1, hj1.1, hi1.2, hj1.2, HR.out, H0.out⟩
  case round =>
    obtain ⟨p, q, ys, P, u, v, S, rfl, rfl, hp, hq, hap, hqb, hrt, hro⟩ := hrel
    have HRT := Lib.hid hrt
    have HRO := Lib.hid hro
    clear hrt hro
    rcases Nat.lt_trichotomy p q with hpq | hpq | hpq
    · obtain ⟨s, hs⟩ : ∃ s, s = m - p := ⟨_, rfl⟩
      obtain ⟨t, ht⟩ : ∃ t, t = m + q - p := ⟨_, rfl⟩
      have i1 : ((p : Int) != (q : Int)) = true := by simp; omega
      have i2 : ¬ (q : Int) < (p : Int) := by omega
      have es : IntKind.i64.wrap ((m : Int) - (p : Int)) = (s : Int) := by rw [IntKind.wrap_i64]; omega
      have et0 : IntKind.i64.wrap ((m : Int) + (q : Int)) = (m : Int) + (q : Int) := by rw [IntKind.wrap_i64]; omega
      have et : IntKind.i64.wrap ((m : Int) + (q : Int) - (p : Int)) = (t : Int) := by rw [IntKind.wrap_i64]; omega
      have hc := swapRange_calls lo g cap n s t p F ys W wr HRO.out (by omega) (by omega) hn
      have HC := Lib.hid hc
      have HS := Lib.hid hs
      have HTT := Lib.hid ht
      clear hc hs ht
      go_wp2_with fail
      refine HC.out.mono ?_
      rintro e w1 ⟨rfl, zs, hsw, hr1⟩
      rw [HS.out, HTT.out] at hsw
      have HN := Lib.hid (HRT.out.right hpq hsw)
      have HR1 := Lib.hid hr1
      clear hsw hr1 es et et0
      go_wp2
      go_roundw
      case rel => exact ⟨p, q - p, zs, _, _, _, _, rfl, by go_num, hp, by omega, hap, by omega, HN.out, HR1.out⟩
      case measure => simp [intOf]; omega
    · subst hpq
      obtain ⟨s, hs⟩ : ∃ s, s = m - p := ⟨_, rfl⟩
      have i1 : ((p : Int) != (p : Int)) = false := by simp
      have es : IntKind.i64.wrap ((m : Int) - (p : Int)) = (s : Int) := by rw [IntKind.wrap_i64]; omega
      have HC := Lib.hid (swapRange_calls lo g cap n s m p F ys W wr HRO.out (by omega) (by omega) hn)
      have HS := Lib.hid hs
      clear hs
      go_wp2_with fail
      refine HC.out.mono ?_
      rintro e w1 ⟨rfl, zs, hsw, hr1⟩
      rw [HS.out] at hsw
      have HN := Lib.hid (HRT.out.done hsw)
      have HR1 := Lib.hid hr1
      clear hsw hr1 es
      go_wp2
      go_end0
      exact ⟨rfl, by rw [← HN.out]; exact HR1.out⟩
    · obtain ⟨s, hs⟩ : ∃ s, s = m - p := ⟨_, rfl⟩
      have i1 : ((p : Int) != (q : Int)) = true := by simp; omega
      have i2 : (q : Int) < (p : Int) := by omega
      have es : IntKind.i64.wrap ((m : Int) - (p : Int)) = (s : Int) := by rw [IntKind.wrap_i64]; omega
      have HC := Lib.hid (swapRange_calls lo g cap n s m q F ys W wr HRO.out (by omega) (by omega) hn)
      have HS := Lib.hid hs
      clear hs
      go_wp2_with fail
      refine HC.out.mono ?_
      rintro e w1 ⟨rfl, zs, hsw, hr1⟩
      rw [HS.out] at hsw
      have HN := Lib.hid (HRT.out.left hpq hsw)
      have HR1 := Lib.hid hr1
      clear hsw hr1 es
      go_wp2
      go_roundw
      case rel => exact ⟨p - q, q, zs, _, _, _, _, by go_num, rfl, by omega, hq, by omega, hqb, HN.out, HR1.out⟩
      case measure => simp [intOf]; omega
end Go.Proofs.Ytfgfbnmcihjfmaa
