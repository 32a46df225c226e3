/-
  Contracts over captions and bounds: isMillis, l20Caption, isPrintable, isCaption.
-/
import Derived.Test.YtjdnmknegpikcaaDoorBase
import Derived.Test.YtjdnmknegpikcaaDoorCues
import Derived.Test.YtjdnmknegpikcaaDoorIn
namespace Go.Proofs.YtjdnmknegpikcaaDoor
open Go.RowKit
set_option linter.unusedVariables false

theorem impl_isMillis (n : Int) (w : World) : Calls Tryd.prog 40 #[.int .i64 n] w fun e w' => e = .returned (.bool (inB n 0 99999999)) ∧ w = w' := by
  go_enter Tryd.func40, Tryd.ntmps40
  go_wp2_with (go_at_call 31; refine (impl_in _ _ _ _).mono ?_; rintro e w' ⟨rfl, rfl⟩)
  go_ret
  exact ⟨rfl, rfl⟩

set_option maxHeartbeats 1000000 in
theorem spec_l20Caption (t : ByteArray) (w : World) (ht : t.size ≤ maxLen) :
    Calls Tryd.prog 52 #[.string t] w fun e w' => e = .returned (.bool (captionB t)) ∧ w = w' := by
  unfold maxLen at ht
  go_enter Tryd.func52, Tryd.ntmps52
  go_wp2
  go_loop [3] (fun i => ∃ k : Nat, k ≤ t.size ∧ i = .int .i64 k ∧ ∀ j (hj : j < t.size), j < k → visible t[j] = true) (fun i => t.size - (intOf i).toNat)
  case atStart => exact ⟨0, Nat.zero_le _, rfl, fun j _ hj => absurd hj (Nat.not_lt_zero _)⟩
  case round =>
    obtain ⟨k, hk, rfl, hall⟩ := hrel
    have HA := Lib.hid hall
    clear hall
    by_cases hlt : k < t.size
    · by_cases h1 : (32 : Int) ≤ (t[k].toNat : Int)
      · by_cases h2 : (t[k].toNat : Int) ≤ 126
        · go_wp2
          go_round
          case rel => exact ⟨k + 1, by omega, by go_num, fun j hj hjk => by
            rcases Nat.lt_or_ge j k with h | h
            · exact HA.out j hj h
            · obtain rfl : j = k := by omega
              simp [visible]; omega⟩
          case measure => simp [intOf]; omega
        · have hp := print_no hlt (by simp [visible]; omega)
          have HP := Lib.hid hp
          clear hp
          go_wp2
          go_ret
          exact ⟨ret_bool (by simp [captionB, HP.out]), rfl⟩
      · have hp := print_no hlt (by simp [visible]; omega)
        have HP := Lib.hid hp
        clear hp
        go_wp2
        go_ret
        exact ⟨ret_bool (by simp [captionB, HP.out]), rfl⟩
    · obtain rfl : k = t.size := by omega
      have hp := print_yes fun j hj => HA.out j hj hj
      have HP := Lib.hid hp
      clear hp
      go_wp2_with (go_at_call 34; refine (spec_l1In _ _ _ _).mono ?_; rintro e w' ⟨rfl, rfl⟩)
      go_ret
      exact ⟨ret_bool (by simp [captionB, HP.out]), rfl⟩

set_option maxHeartbeats 1000000 in
theorem impl_isPrintable (t : ByteArray) (w : World) (ht : t.size ≤ maxLen) :
    Calls Tryd.prog 57 #[.string t] w fun e w' => e = .returned (.bool (printB t)) ∧ w = w' := by
  unfold maxLen at ht
  go_enter Tryd.func57, Tryd.ntmps57
  go_wp2
  go_loop [6] (fun i => ∃ k : Nat, k ≤ t.size ∧ i = .int .i64 k ∧ ∀ j (hj : j < t.size), j < k → visible t[j] = true) (fun i => t.size - (intOf i).toNat)
  case atStart => exact ⟨0, Nat.zero_le _, rfl, fun j _ hj => absurd hj (Nat.not_lt_zero _)⟩
  case round =>
    obtain ⟨k, hk, rfl, hall⟩ := hrel
    have HA := Lib.hid hall
    clear hall
    by_cases hlt : k < t.size
    · by_cases h1 : (32 : Int) ≤ (t[k].toNat : Int)
      · by_cases h2 : (t[k].toNat : Int) ≤ 126
        · go_wp2
          go_round
          case rel => exact ⟨k + 1, by omega, by go_num, fun j hj hjk => by
            rcases Nat.lt_or_ge j k with h | h
            · exact HA.out j hj h
            · obtain rfl : j = k := by omega
              simp [visible]; omega⟩
          case measure => simp [intOf]; omega
        · have hp := print_no hlt (by simp [visible]; omega)
          have HP := Lib.hid hp
          clear hp
          go_wp2
          go_ret
          exact ⟨ret_bool (by simp [HP.out]), rfl⟩
      · have hp := print_no hlt (by simp [visible]; omega)
        have HP := Lib.hid hp
        clear hp
        go_wp2
        go_ret
        exact ⟨ret_bool (by simp [HP.out]), rfl⟩
    · obtain rfl : k = t.size := by omega
      have hp := print_yes fun j hj => HA.out j hj hj
      have HP := Lib.hid hp
      clear hp
      go_wp2
      go_ret
      exact ⟨ret_bool (by rw [HP.out]), rfl⟩

theorem impl_isCaption (t : ByteArray) (w : World) (ht : t.size ≤ maxLen) :
    Calls Tryd.prog 41 #[.string t] w fun e w' => e = .returned (.bool (captionB t)) ∧ w = w' := by
  have ht' := ht
  unfold maxLen at ht
  cases hi : inB t.size 1 120
  · go_enter Tryd.func41, Tryd.ntmps41
    go_wp2_with (go_at_call 31; refine (impl_in _ _ _ _).mono ?_; rintro e w' ⟨rfl, rfl⟩)
    go_ret
    exact ⟨ret_bool (by simp [captionB, hi]), rfl⟩
  · go_enter Tryd.func41, Tryd.ntmps41
    go_wp2_with (first | (go_at_call 31; refine (impl_in _ _ _ _).mono ?_; rintro e w' ⟨rfl, rfl⟩) | (go_at_call 57; refine (impl_isPrintable _ _ ht').mono ?_; rintro e w' ⟨rfl, rfl⟩))
    go_ret
    exact ⟨ret_bool (by simp [captionB, hi]), rfl⟩
end Go.Proofs.YtjdnmknegpikcaaDoor
