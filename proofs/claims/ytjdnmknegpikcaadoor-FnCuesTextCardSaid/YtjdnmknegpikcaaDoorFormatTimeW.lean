/-
  The law FnExactFormatTime returns true: its walk over the contracts.
-/
import Derived.Test.YtjdnmknegpikcaaDoorPadded
namespace Go.Proofs.YtjdnmknegpikcaaDoor
open Go.RowKit
set_option linter.unusedVariables false

theorem impl_isMillisT (n : Int) (w : World) : Calls Tryd.prog 40 #[.int .i64 n] w fun e w' => e = .returned (.bool (inB n 0 99999999)) ∧ w = w' := by
  go_enter Tryd.func40, Tryd.ntmps40
  go_wp2_with (go_at_call 31; refine (impl_in _ _ _ _).mono ?_; rintro e w' ⟨rfl, rfl⟩)
  go_ret
  exact ⟨rfl, rfl⟩
def timeS (z : Int) : ByteArray := if inB z 0 99999999 then ⟨(timeOf z.toNat).toArray⟩ else ⟨#[]⟩

set_option maxHeartbeats 1000000 in
theorem impl_FormatTime (z : Int) (w : World) (htab : Lib.TabIs Tryd.prog w "internal/strconv.uint64pow10" .u64 Lib.pow10Tab) :
    Calls Tryd.prog 18 #[.int .i64 z] w fun e w' => e = .returned (.tuple #[.string (timeS z), .bool (inB z 0 99999999)]) ∧ Below w.heap.size w w' := by
  have HT := Lib.hid htab
  clear htab
  cases h : inB z 0 99999999
  · have HS := Lib.hid (show timeS z = ⟨#[]⟩ by simp [timeS, h])
    rw [HS.out]
    go_enter Tryd.func18, Tryd.ntmps18
    go_wp2_with fail
    refine (impl_isMillisT _ _).mono ?_
    rw [h]
    rintro e w' ⟨rfl, rfl⟩
    go_wp2
    go_ret2
    exact ⟨rfl, Below.refl _ _⟩
  · have HS := Lib.hid (show timeS z = ⟨(timeOf z.toNat).toArray⟩ by simp [timeS, h])
    rw [HS.out]
    obtain ⟨h0, h9⟩ := inB_iff.1 h
    obtain ⟨n, rfl⟩ : ∃ n : Nat, z = n := ⟨z.toNat, by omega⟩
    go_enter Tryd.func18, Tryd.ntmps18
    go_wp2_with fail
    refine (impl_isMillisT _ _).mono ?_
    rw [h]
    rintro e w' ⟨rfl, rfl⟩
    go_wp2_with fail
    refine (impl_timeText n _ (by omega) HT.out).mono ?_
    rintro e w1 ⟨rfl, b1⟩
    go_wp2
    go_ret2
    exact ⟨rfl, b1⟩

theorem spec_FormatTimeS (z : Int) (w : World) : Calls Tryd.prog 19 #[.int .i64 z] w fun e w' => e = .returned (.tuple #[.string (timeS z), .bool (inB z 0 99999999)]) ∧ Below w.heap.size w w' :=
  (spec_FormatTime z w).mono fun e w' ⟨he, m, hm⟩ => by
    subst hm
    refine ⟨?_, below_drewN (Below.refl _ _) m⟩
    rw [he]
    unfold timeS
    by_cases h : 0 ≤ z ∧ z ≤ 99999999
    · rw [inB_yes h.1 h.2]; simp [h]
    · rw [inB_no h]; simp [h]

end Go.Proofs.YtjdnmknegpikcaaDoor
