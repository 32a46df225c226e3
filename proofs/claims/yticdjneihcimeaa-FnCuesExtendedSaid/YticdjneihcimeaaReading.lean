/-
  Contracts of l1Most, l1Least and of both ReadingTime.
-/
import Derived.Test.YticdjneihcimeaaCap
namespace Go.Proofs.Yticdjneihcimeaa
open Go.RowKit
set_option linter.unusedVariables false

def mostI (a b : Int) : Int := if b < a then a else b
def leastI (a b : Int) : Int := if a < b then a else b
theorem spec_l1Most (a b : Int) (w : World) : Calls Try.prog 61 #[.int .i64 a, .int .i64 b] w fun e w' => e = .returned (.int .i64 (mostI a b)) ∧ w = w' := by
  by_cases h : b < a
  · have H := Lib.hid (show mostI a b = a from if_pos h)
    go_enter Try.func61, Try.ntmps61
    go_wp2
    go_ret
    exact ⟨ret_int H.out.symm, rfl⟩
  · have H := Lib.hid (show mostI a b = b from if_neg h)
    go_enter Try.func61, Try.ntmps61
    go_wp2
    go_ret
    exact ⟨ret_int H.out.symm, rfl⟩
theorem spec_l1Least (a b : Int) (w : World) : Calls Try.prog 59 #[.int .i64 a, .int .i64 b] w fun e w' => e = .returned (.int .i64 (leastI a b)) ∧ w = w' := by
  by_cases h : a < b
  · have H := Lib.hid (show leastI a b = a from if_pos h)
    go_enter Try.func59, Try.ntmps59
    go_wp2
    go_ret
    exact ⟨ret_int H.out.symm, rfl⟩
  · have H := Lib.hid (show leastI a b = b from if_neg h)
    go_enter Try.func59, Try.ntmps59
    go_wp2
    go_ret
    exact ⟨ret_int H.out.symm, rfl⟩

/-- How long a text must be shown. -/
def readT (t : ByteArray) : Int := if captionB t then mostI 1000 (60 * t.size) else 0
theorem readT_yes {t : ByteArray} (h : captionB t = true) : readT t = mostI 1000 (60 * t.size) := by rw [readT, if_pos h]
theorem readT_no {t : ByteArray} (h : captionB t = false) : readT t = 0 := by rw [readT, h]; rfl
theorem caption_size {t : ByteArray} (h : captionB t = true) : 1 ≤ (t.size : Int) ∧ (t.size : Int) ≤ 120 := by
  simp only [captionB, Bool.and_eq_true] at h
  exact inB_iff.1 h.1
theorem readT_bd (t : ByteArray) : 0 ≤ readT t ∧ readT t ≤ 7200 := by
  cases h : captionB t
  · rw [readT_no h]; omega
  · rw [readT_yes h]
    have := caption_size h
    unfold mostI
    split <;> omega

theorem spec_ReadingTime (t : ByteArray) (w : World) (ht : t.size ≤ maxLen) :
    Calls Try.prog 60 #[.string t] w fun e w' => e = .returned (.int .i64 (readT t)) ∧ w = w' := by
  cases hc : captionB t
  · have H := Lib.hid (readT_no hc)
    go_enter Try.func60, Try.ntmps60
    go_wp2_with (go_at_call 43; refine (spec_l20Caption _ _ ht).mono ?_; rintro e w' ⟨rfl, rfl⟩)
    go_ret
    exact ⟨ret_int H.out.symm, rfl⟩
  · have H := Lib.hid (readT_yes hc)
    obtain ⟨h1, h2⟩ := caption_size hc
    go_enter Try.func60, Try.ntmps60
    go_wp2_with (first | (go_at_call 43; refine (spec_l20Caption _ _ ht).mono ?_; rintro e w' ⟨rfl, rfl⟩) | (go_at_call 61; refine (spec_l1Most _ _ _).mono ?_; rintro e w' ⟨rfl, rfl⟩))
    go_ret
    exact ⟨ret_int H.out.symm, rfl⟩
theorem impl_ReadingTime (t : ByteArray) (w : World) (ht : t.size ≤ maxLen) :
    Calls Try.prog 37 #[.string t] w fun e w' => e = .returned (.int .i64 (readT t)) ∧ w = w' := by
  cases hc : captionB t
  · have H := Lib.hid (readT_no hc)
    go_enter Try.func37, Try.ntmps37
    go_wp2_with (go_at_call 48; refine (impl_isCaption _ _ ht).mono ?_; rintro e w' ⟨rfl, rfl⟩)
    go_ret
    exact ⟨ret_int H.out.symm, rfl⟩
  · have hrt := readT_yes hc
    obtain ⟨h1, h2⟩ := caption_size hc
    by_cases h : 60 * (t.size : Int) < 1000
    · rw [show mostI 1000 (60 * t.size) = 1000 from if_pos h] at hrt
      have H := Lib.hid hrt
      clear hrt
      go_enter Try.func37, Try.ntmps37
      go_wp2_with (go_at_call 48; refine (impl_isCaption _ _ ht).mono ?_; rintro e w' ⟨rfl, rfl⟩)
      go_ret
      exact ⟨ret_int H.out.symm, rfl⟩
    · rw [show mostI 1000 (60 * t.size) = 60 * t.size from if_neg h] at hrt
      have H := Lib.hid hrt
      clear hrt
      go_enter Try.func37, Try.ntmps37
      go_wp2_with (go_at_call 48; refine (impl_isCaption _ _ ht).mono ?_; rintro e w' ⟨rfl, rfl⟩)
      go_ret
      exact ⟨ret_int H.out.symm, rfl⟩
end Go.Proofs.Yticdjneihcimeaa
