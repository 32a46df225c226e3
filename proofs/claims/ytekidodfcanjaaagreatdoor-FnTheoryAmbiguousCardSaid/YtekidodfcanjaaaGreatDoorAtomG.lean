/-
  The reference's atoms: validity and notation.
-/
import Derived.Test.YtekidodfcanjaaaGreatDoorAtomS
namespace Go.Proofs.YtekidodfcanjaaaGreatDoor
open Go.RowKit
set_option linter.unusedVariables false
set_option maxRecDepth 100000

theorem toList_data (t : ByteArray) : t.data.toList = t.toList := (ByteArray.toList_eq t).symm
theorem ret_str {a b : ByteArray} (h : a = b) : Ending.returned (.string a) = .returned (.string b) := by rw [h]

theorem spec_l5Good (k : Int) (t : ByteArray) (w : World) (hs : t.size ≤ 1048576) :
    Calls Tryz.prog 127 #[.agg #[.int .i64 k, .string t]] w fun e w' => e = .returned (.bool (atomOk k t.data.toList)) ∧ Below w.heap.size w w' := by
  have hb : Below w.heap.size w (w.alloc (.cells #[.int .i64 k, .string t] 129)) := (Below.refl _ _).alloc (Nat.le_refl _) _
  rcases (show k = 1 ∨ k = 2 ∨ k = 3 ∨ k = 4 ∨ k = 5 ∨ k = 6 ∨ k = 7 ∨ k = 8 ∨ k = 9 ∨ k = 10 ∨ (k < 1 ∨ 10 < k) by omega) with rfl | rfl | rfl | rfl | rfl | rfl | rfl | rfl | rfl | rfl | hk
  · go_enter Tryz.func127, Tryz.ntmps127
    go_wp2_with (go_at_call 137; refine (spec_l5Word t _ hs).mono ?_; rintro e w' ⟨rfl, rfl⟩)
    go_ret
    exact ⟨ret_bool (by simp [atomOk]), hb⟩
  · go_enter Tryz.func127, Tryz.ntmps127
    go_wp2_with (go_at_call 137; refine (spec_l5Word t _ hs).mono ?_; rintro e w' ⟨rfl, rfl⟩)
    go_ret
    exact ⟨ret_bool (by simp [atomOk]), hb⟩
  · go_enter Tryz.func127, Tryz.ntmps127
    go_wp2_with (go_at_call 137; refine (spec_l5Word t _ hs).mono ?_; rintro e w' ⟨rfl, rfl⟩)
    go_ret
    exact ⟨ret_bool (by simp [atomOk]), hb⟩
  · go_enter Tryz.func127, Tryz.ntmps127
    go_wp2_with (go_at_call 137; refine (spec_l5Word t _ hs).mono ?_; rintro e w' ⟨rfl, rfl⟩)
    go_ret
    exact ⟨ret_bool (by simp [atomOk]), hb⟩
  · go_enter Tryz.func127, Tryz.ntmps127
    go_wp2_with (go_at_call 137; refine (spec_l5Word t _ hs).mono ?_; rintro e w' ⟨rfl, rfl⟩)
    go_ret
    exact ⟨ret_bool (by simp [atomOk]), hb⟩
  · go_enter Tryz.func127, Tryz.ntmps127
    go_wp2
    all_goals
      go_ret
      exact ⟨ret_bool (by rw [toList_data, Bool.eq_iff_iff]; simp_all [atomOk]), hb⟩
  · go_enter Tryz.func127, Tryz.ntmps127
    go_wp2
    all_goals
      go_ret
      exact ⟨ret_bool (by rw [toList_data, Bool.eq_iff_iff]; simp_all [atomOk]), hb⟩
  · go_enter Tryz.func127, Tryz.ntmps127
    go_wp2
    all_goals
      go_ret
      exact ⟨ret_bool (by rw [toList_data, Bool.eq_iff_iff]; simp_all [atomOk]), hb⟩
  · go_enter Tryz.func127, Tryz.ntmps127
    go_wp2
    all_goals
      go_ret
      exact ⟨ret_bool (by rw [toList_data, Bool.eq_iff_iff]; simp_all [atomOk]), hb⟩
  · go_enter Tryz.func127, Tryz.ntmps127
    go_wp2
    all_goals
      go_ret
      exact ⟨ret_bool (by rw [toList_data, Bool.eq_iff_iff]; simp_all [atomOk]), hb⟩
  · rcases hk with hk | hk
    all_goals
      have HK := Lib.hid (show atomOk k t.data.toList = false by rw [atomOk, if_neg (by omega), if_neg (by omega), if_neg (by omega)]; simp; omega)
      go_enter Tryz.func127, Tryz.ntmps127
      go_wp2
      go_ret
      exact ⟨ret_bool HK.out.symm, hb⟩

def noteS (k : Int) (t : ByteArray) : ByteArray := ⟨(noteL k t.data.toList).toArray⟩
theorem noteS_size (k : Int) (t : ByteArray) : (noteS k t).size ≤ t.size + 5 := by
  have h : (noteS k t).size = (noteL k t.data.toList).length := by simp [noteS, ByteArray.size]
  have h2 : t.data.toList.length = t.size := by simp
  rw [h]
  unfold noteL
  repeat' split
  all_goals simp at h2 ⊢
  all_goals omega
theorem note_wrap (a b t : ByteArray) (l : List UInt8) (h : l = a.data.toList ++ t.data.toList ++ b.data.toList) : a ++ t ++ b = ⟨l.toArray⟩ := by
  apply ByteArray.ext
  rw [h]
  simp [ByteArray.data_append]
theorem spec_l5Format (k : Int) (t : ByteArray) (w : World) (hs : t.size ≤ 1048576) :
    Calls Tryz.prog 128 #[.agg #[.int .i64 k, .string t]] w fun e w' => e = .returned (.string (noteS k t)) ∧ Below w.heap.size w w' := by
  have hb : Below w.heap.size w (w.alloc (.cells #[.int .i64 k, .string t] 129)) := (Below.refl _ _).alloc (Nat.le_refl _) _
  rcases (show k = 1 ∨ k = 2 ∨ k = 3 ∨ k = 4 ∨ k = 5 ∨ k = 8 ∨ k = 9 ∨ k = 10 ∨ (k ≠ 1 ∧ k ≠ 2 ∧ k ≠ 3 ∧ k ≠ 4 ∧ k ≠ 5 ∧ k ≠ 8 ∧ k ≠ 9 ∧ k ≠ 10) by omega) with rfl | rfl | rfl | rfl | rfl | rfl | rfl | rfl | ⟨k1, k2, k3, k4, k5, k8, k9, k10⟩
  · go_enter Tryz.func128, Tryz.ntmps128
    go_wp2
    go_ret
    exact ⟨ret_str (by simp [noteS, noteL]), hb⟩
  · go_enter Tryz.func128, Tryz.ntmps128
    go_wp2
    go_ret
    exact ⟨ret_str (note_wrap _ _ t _ (by simp [noteL])), hb⟩
  · go_enter Tryz.func128, Tryz.ntmps128
    go_wp2
    go_ret
    exact ⟨ret_str (note_wrap _ _ t _ (by simp [noteL])), hb⟩
  · go_enter Tryz.func128, Tryz.ntmps128
    go_wp2
    go_ret
    exact ⟨ret_str (note_wrap _ _ t _ (by simp [noteL])), hb⟩
  · go_enter Tryz.func128, Tryz.ntmps128
    go_wp2
    go_ret
    exact ⟨ret_str (note_wrap _ _ t _ (by simp [noteL])), hb⟩
  · go_enter Tryz.func128, Tryz.ntmps128
    go_wp2
    go_ret
    exact ⟨ret_str (by simp [noteS, noteL]), hb⟩
  · go_enter Tryz.func128, Tryz.ntmps128
    go_wp2
    go_ret
    exact ⟨ret_str (by simp [noteS, noteL]), hb⟩
  · go_enter Tryz.func128, Tryz.ntmps128
    go_wp2
    go_ret
    exact ⟨ret_str (by simp [noteS, noteL]), hb⟩
  · have HN := Lib.hid (show noteL k t.data.toList = [123] ++ t.data.toList ++ [125] by simp [noteL, k1, k2, k3, k4, k5, k8, k9, k10])
    go_enter Tryz.func128, Tryz.ntmps128
    go_wp2
    go_ret
    exact ⟨ret_str (note_wrap _ _ t _ (by rw [HN.out])), hb⟩
end Go.Proofs.YtekidodfcanjaaaGreatDoor
