/-
  The program's atoms: word text, validity, notation.
-/
import Derived.Test.YtekidodfcanjaaaGreatDoorAtomG
import Derived.Test.YtekidodfcanjaaaGreatDoorShelf
namespace Go.Proofs.YtekidodfcanjaaaGreatDoor
open Go.RowKit
set_option linter.unusedVariables false
set_option maxRecDepth 100000
set_option linter.unusedSimpArgs false

theorem signs_byte (c : UInt8) : (decide (0 ≤ Lib.indexByte signs c)) = signs.contains c := has_byte signs c
theorem wordC_test {c : UInt8} (h1 : (33 : Int) ≤ (c.toNat : Int)) (h2 : (c.toNat : Int) ≤ 126) : wordC c = !(signs.contains c) := by
  have a1 : 33 ≤ c.toNat := by omega
  have a2 : c.toNat ≤ 126 := by omega
  simp [wordC, a1, a2]
theorem byte_back (c : UInt8) : ((c.toNat : Int).toNat.toUInt8) = c := by simp
theorem impl_IndexSigns (c : UInt8) (w : World) : Calls Tryz.prog 171 #[.string ⟨#[123, 125, 94, 38, 35, 62]⟩, .int .u8 (c.toNat : Int)] w fun e w' => (∃ i : Int, e = .returned (.int .i64 i) ∧ decide (0 ≤ i) = signs.contains c) ∧ w = w' :=
  (Tryz.strings_IndexByte ⟨#[123, 125, 94, 38, 35, 62]⟩ (c.toNat : Int) w).mono fun e w' ⟨he, hw⟩ => ⟨⟨_, he, by rw [byte_back]; exact signs_byte c⟩, hw.symm⟩
set_option maxHeartbeats 4000000 in
theorem impl_isWordText (s : ByteArray) (w : World) (hs : s.size ≤ 1048576) :
    Calls Tryz.prog 161 #[.string s] w fun e w' => e = .returned (.bool (wordL s.data.toList)) ∧ w = w' := by
  go_enter Tryz.func161, Tryz.ntmps161
  go_wp2
  go_loop [6] (fun i => ∃ k : Nat, k ≤ s.size ∧ i = .int .i64 k ∧ ∀ j (hj : j < s.size), j < k → wordC s[j] = true) (fun i => s.size - (intOf i).toNat)
  case atStart => exact ⟨0, Nat.zero_le _, rfl, fun j _ hj => absurd hj (Nat.not_lt_zero _)⟩
  case round =>
    obtain ⟨k, hk, rfl, hall⟩ := hrel
    have HA := Lib.hid hall
    clear hall
    by_cases hlt : k < s.size
    · have HN := Lib.hid (fun h : wordC s[k] = false => wordL_no hlt h)
      by_cases h1 : (33 : Int) ≤ (s[k].toNat : Int)
      · by_cases h2 : (s[k].toNat : Int) ≤ 126
        · have HT := Lib.hid (wordC_test h1 h2)
          cases hc : signs.contains s[k]
          · have HC := Lib.hid hc
            clear hc
            go_wp2_with (go_at_call 171; refine (impl_IndexSigns s[k] _).mono ?_; rw [HC.out]; rintro e w' ⟨⟨i, rfl, hi⟩, rfl⟩; have hi2 : i < 0 := by (have := of_decide_eq_false hi; omega))
            go_round
            case rel => exact ⟨k + 1, by omega, by go_num, fun j hj hjk => by
              rcases Nat.lt_or_ge j k with h | h
              · exact HA.out j hj h
              · obtain rfl : j = k := by omega
                rw [HT.out, HC.out]; rfl⟩
            case measure => simp [intOf]; omega
          · have HC := Lib.hid hc
            have HW := Lib.hid (HN.out (by rw [HT.out, hc]; rfl))
            clear hc
            go_wp2_with (go_at_call 171; refine (impl_IndexSigns s[k] _).mono ?_; rw [HC.out]; rintro e w' ⟨⟨i, rfl, hi⟩, rfl⟩; have hi2 : 0 ≤ i := of_decide_eq_true hi)
            go_ret
            exact ⟨ret_bool HW.out.symm, rfl⟩
        · have HW := Lib.hid (HN.out (by cases hw : wordC s[k] with | false => rfl | true => exact absurd ((wordC_iff _).1 hw).2.1 h2))
          go_wp2
          go_ret
          exact ⟨ret_bool HW.out.symm, rfl⟩
      · have HW := Lib.hid (HN.out (by cases hw : wordC s[k] with | false => rfl | true => exact absurd ((wordC_iff _).1 hw).1 h1))
        go_wp2
        go_ret
        exact ⟨ret_bool HW.out.symm, rfl⟩
    · obtain rfl : k = s.size := by omega
      have HP := Lib.hid (wordL_yes fun j hj => HA.out j hj hj)
      go_wp2_with (go_at_call 96; refine (impl_in _ _ _ _).mono ?_; rintro e w' ⟨rfl, rfl⟩)
      go_ret
      exact ⟨ret_bool HP.out.symm, rfl⟩

theorem impl_notation (k : Int) (t : ByteArray) (w : World) (hs : t.size ≤ 1048576) :
    Calls Tryz.prog 152 #[.agg #[.int .i64 k, .string t]] w fun e w' => e = .returned (.string (noteS k t)) ∧ Below w.heap.size w w' := by
  have hb : Below w.heap.size w (w.alloc (.cells #[.int .i64 k, .string t] 129)) := (Below.refl _ _).alloc (Nat.le_refl _) _
  rcases (show k = 1 ∨ k = 2 ∨ k = 3 ∨ k = 4 ∨ k = 5 ∨ k = 8 ∨ k = 9 ∨ k = 10 ∨ (k ≠ 1 ∧ k ≠ 2 ∧ k ≠ 3 ∧ k ≠ 4 ∧ k ≠ 5 ∧ k ≠ 8 ∧ k ≠ 9 ∧ k ≠ 10) by omega) with rfl | rfl | rfl | rfl | rfl | rfl | rfl | rfl | ⟨k1, k2, k3, k4, k5, k8, k9, k10⟩
  · go_enter Tryz.func152, Tryz.ntmps152
    go_wp2
    go_ret
    exact ⟨ret_str (by simp [noteS, noteL]), hb⟩
  · go_enter Tryz.func152, Tryz.ntmps152
    go_wp2
    go_ret
    exact ⟨ret_str (note_wrap _ _ t _ (by simp [noteL])), hb⟩
  · go_enter Tryz.func152, Tryz.ntmps152
    go_wp2
    go_ret
    exact ⟨ret_str (note_wrap _ _ t _ (by simp [noteL])), hb⟩
  · go_enter Tryz.func152, Tryz.ntmps152
    go_wp2
    go_ret
    exact ⟨ret_str (note_wrap _ _ t _ (by simp [noteL])), hb⟩
  · go_enter Tryz.func152, Tryz.ntmps152
    go_wp2
    go_ret
    exact ⟨ret_str (note_wrap _ _ t _ (by simp [noteL])), hb⟩
  · go_enter Tryz.func152, Tryz.ntmps152
    go_wp2
    go_ret
    exact ⟨ret_str (by simp [noteS, noteL]), hb⟩
  · go_enter Tryz.func152, Tryz.ntmps152
    go_wp2
    go_ret
    exact ⟨ret_str (by simp [noteS, noteL]), hb⟩
  · go_enter Tryz.func152, Tryz.ntmps152
    go_wp2
    go_ret
    exact ⟨ret_str (by simp [noteS, noteL]), hb⟩
  · have HN := Lib.hid (show noteL k t.data.toList = [123] ++ t.data.toList ++ [125] by simp [noteL, k1, k2, k3, k4, k5, k8, k9, k10])
    go_enter Tryz.func152, Tryz.ntmps152
    go_wp2
    go_ret
    exact ⟨ret_str (note_wrap _ _ t _ (by rw [HN.out])), hb⟩

theorem one_char {t : ByteArray} (h : t.size = 1) : ∃ c, t = ⟨#[c]⟩ := by
  obtain ⟨⟨l⟩⟩ := t
  have hl : l.length = 1 := by simpa [ByteArray.size] using h
  obtain ⟨c, rfl⟩ := List.length_eq_one_iff.1 hl
  exact ⟨c, rfl⟩
theorem atom6 (c : UInt8) : decide (0 ≤ Lib.indexByte [46, 33, 63] c) = atomOk 6 [c] := by rw [has_byte]; simp [atomOk, eq_comm]
theorem atom7 (c : UInt8) : decide (0 ≤ Lib.indexByte [44, 59, 58] c) = atomOk 7 [c] := by rw [has_byte]; simp [atomOk, eq_comm]
theorem atom_len {k : Int} {t : ByteArray} (hk : k = 6 ∨ k = 7) (h : t.size ≠ 1) : atomOk k t.data.toList = false := by
  have hl : t.data.toList.length = t.size := by simp
  cases ha : atomOk k t.data.toList with
  | false => rfl
  | true =>
    rcases hk with rfl | rfl
    all_goals
      simp [atomOk] at ha
      rcases ha with ha | ha | ha <;> (rw [ha] at hl; simp at hl; omega)
set_option maxHeartbeats 2000000 in
theorem impl_IsValidAtom (k : Int) (t : ByteArray) (w : World) (hs : t.size ≤ 1048576) :
    Calls Tryz.prog 151 #[.agg #[.int .i64 k, .string t]] w fun e w' => e = .returned (.bool (atomOk k t.data.toList)) ∧ Below w.heap.size w w' := by
  have hb : Below w.heap.size w (w.alloc (.cells #[.int .i64 k, .string t] 129)) := (Below.refl _ _).alloc (Nat.le_refl _) _
  rcases (show k = 1 ∨ k = 2 ∨ k = 3 ∨ k = 4 ∨ k = 5 ∨ k = 6 ∨ k = 7 ∨ (8 ≤ k ∧ k ≤ 10) ∨ (k < 1 ∨ 10 < k) by omega) with rfl | rfl | rfl | rfl | rfl | rfl | rfl | hk | hk
  · go_enter Tryz.func151, Tryz.ntmps151
    go_wp2_with (go_at_call 161; refine (impl_isWordText t _ hs).mono ?_; rintro e w' ⟨rfl, rfl⟩)
    go_ret
    exact ⟨ret_bool (by simp [atomOk]), hb⟩
  · go_enter Tryz.func151, Tryz.ntmps151
    go_wp2_with (go_at_call 161; refine (impl_isWordText t _ hs).mono ?_; rintro e w' ⟨rfl, rfl⟩)
    go_ret
    exact ⟨ret_bool (by simp [atomOk]), hb⟩
  · go_enter Tryz.func151, Tryz.ntmps151
    go_wp2_with (go_at_call 161; refine (impl_isWordText t _ hs).mono ?_; rintro e w' ⟨rfl, rfl⟩)
    go_ret
    exact ⟨ret_bool (by simp [atomOk]), hb⟩
  · go_enter Tryz.func151, Tryz.ntmps151
    go_wp2_with (go_at_call 161; refine (impl_isWordText t _ hs).mono ?_; rintro e w' ⟨rfl, rfl⟩)
    go_ret
    exact ⟨ret_bool (by simp [atomOk]), hb⟩
  · go_enter Tryz.func151, Tryz.ntmps151
    go_wp2_with (go_at_call 161; refine (impl_isWordText t _ hs).mono ?_; rintro e w' ⟨rfl, rfl⟩)
    go_ret
    exact ⟨ret_bool (by simp [atomOk]), hb⟩
  · by_cases h1 : t.size = 1
    · obtain ⟨c, rfl⟩ := one_char h1
      have HA := Lib.hid (atom6 c)
      clear h1
      go_enter Tryz.func151, Tryz.ntmps151
      go_wp2_with (go_at_call 162; refine (Tryz.strings_Contains_one ⟨#[46, 33, 63]⟩ c _).mono ?_; rintro e w' ⟨rfl, rfl⟩)
      go_ret
      exact ⟨ret_bool (by have := HA.out; simpa using this), hb⟩
    · have HA := Lib.hid (atom_len (t := t) (k := 6) (by omega) h1)
      have i1 : ¬ (t.size : Int) = 1 := by omega
      have i2 : ((t.size : Int) == 1) = false := by simpa using i1
      have i3 : (t.size == 1) = false := by simpa using h1
      clear i1
      go_enter Tryz.func151, Tryz.ntmps151
      go_wp2
      go_ret
      exact ⟨ret_bool HA.out.symm, hb⟩
  · by_cases h1 : t.size = 1
    · obtain ⟨c, rfl⟩ := one_char h1
      have HA := Lib.hid (atom7 c)
      clear h1
      go_enter Tryz.func151, Tryz.ntmps151
      go_wp2_with (go_at_call 162; refine (Tryz.strings_Contains_one ⟨#[44, 59, 58]⟩ c _).mono ?_; rintro e w' ⟨rfl, rfl⟩)
      go_ret
      exact ⟨ret_bool (by have := HA.out; simpa using this), hb⟩
    · have HA := Lib.hid (atom_len (t := t) (k := 7) (by omega) h1)
      have i1 : ¬ (t.size : Int) = 1 := by omega
      have i2 : ((t.size : Int) == 1) = false := by simpa using i1
      have i3 : (t.size == 1) = false := by simpa using h1
      clear i1
      go_enter Tryz.func151, Tryz.ntmps151
      go_wp2
      go_ret
      exact ⟨ret_bool HA.out.symm, hb⟩
  · have HI := Lib.hid (inB_yes hk.1 hk.2)
    obtain ⟨k1, k2⟩ := hk
    have HK := Lib.hid (show atomOk k t.data.toList = decide (t.data.toList = []) by rw [atomOk, if_neg (by omega), if_neg (by omega), if_neg (by omega)]; simp [k1, k2])
    go_enter Tryz.func151, Tryz.ntmps151
    go_wp2_with (go_at_call 96; refine (impl_in _ _ _ _).mono ?_; rw [HI.out]; rintro e w' ⟨rfl, rfl⟩)
    all_goals
      go_ret
      exact ⟨ret_bool (by rw [HK.out, toList_data, Bool.eq_iff_iff]; simp_all), hb⟩
  · have HK := Lib.hid (show atomOk k t.data.toList = false by rw [atomOk, if_neg (by omega), if_neg (by omega), if_neg (by omega)]; simp; omega)
    have HI := Lib.hid (inB_no (n := k) (lo := 8) (hi := 10) (by omega))
    rcases hk with hk | hk
    all_goals
      go_enter Tryz.func151, Tryz.ntmps151
      go_wp2_with (go_at_call 96; refine (impl_in _ _ _ _).mono ?_; rw [HI.out]; rintro e w' ⟨rfl, rfl⟩)
      go_ret
      exact ⟨ret_bool HK.out.symm, hb⟩
end Go.Proofs.YtekidodfcanjaaaGreatDoor
