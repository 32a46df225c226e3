/-
  The law FnExactFormatTime returns true: its walk over the contracts.
-/
import Derived.Test.YtdogppoflfjigaaDoorPadded
namespace Go.Proofs.YtdogppoflfjigaaDoor
open Go.RowKit
set_option linter.unusedVariables false

theorem impl_isMillisT (n : Int) (w : World) : Calls Tryd.prog 31 #[.int .i64 n] w fun e w' => e = .returned (.bool (inB n 0 99999999)) ∧ w = w' := by
  go_enter Tryd.func31, Tryd.ntmps31
  go_wp2_with (go_at_call 45; refine (impl_in _ _ _ _).mono ?_; rintro e w' ⟨rfl, rfl⟩)
  go_ret
  exact ⟨rfl, rfl⟩
def timeS (z : Int) : ByteArray := if inB z 0 99999999 then ⟨(timeOf z.toNat).toArray⟩ else ⟨#[]⟩

set_option maxHeartbeats 1000000 in
theorem impl_FormatTime (z : Int) (w : World) (htab : Lib.TabIs Tryd.prog w "internal/strconv.uint64pow10" .u64 Lib.pow10Tab) :
    Calls Tryd.prog 9 #[.int .i64 z] w fun e w' => e = .returned (.tuple #[.string (timeS z), .bool (inB z 0 99999999)]) ∧ Below w.heap.size w w' := by
  have HT := Lib.hid htab
  clear htab
  cases h : inB z 0 99999999
  · have HS := Lib.hid (show timeS z = ⟨#[]⟩ by simp [timeS, h])
    rw [HS.out]
    go_enter Tryd.func9, Tryd.ntmps9
    go_wp2_with fail
    refine (impl_isMillisT _ _).mono ?_
    rw [h]
    rintro e w' ⟨rfl, rfl⟩
    go_wp2
    go_ret2
    exact ⟨rfl, Below.refl _ _⟩
  · have HS := Lib.hid (show timeS z = ⟨(timeOf z.toNat).toArray⟩ by simp [timeS, h])
    rw [HS.out]
    obtain ⟨h0, h9⟩ := inB_iff.1 h
    obtain ⟨n, rfl⟩ : ∃ n : Nat, z = n := ⟨z.toNat, by omega⟩
    go_enter Tryd.func9, Tryd.ntmps9
    go_wp2_with fail
    refine (impl_isMillisT _ _).mono ?_
    rw [h]
    rintro e w' ⟨rfl, rfl⟩
    go_wp2_with fail
    refine (impl_timeText n _ (by omega) HT.out).mono ?_
    rintro e w1 ⟨rfl, b1⟩
    go_wp2
    go_ret2
    exact ⟨rfl, b1⟩

theorem spec_FormatTimeS (z : Int) (w : World) : Calls Tryd.prog 8 #[.int .i64 z] w fun e w' => e = .returned (.tuple #[.string (timeS z), .bool (inB z 0 99999999)]) ∧ Below w.heap.size w w' :=
  (spec_FormatTime z w).mono fun e w' ⟨he, m, hm⟩ => by
    subst hm
    refine ⟨?_, below_drewN (Below.refl _ _) m⟩
    rw [he]
    unfold timeS
    by_cases h : 0 ≤ z ∧ z ≤ 99999999
    · rw [inB_yes h.1 h.2]; simp [h]
    · rw [inB_no h]; simp [h]

set_option maxHeartbeats 1000000 in
theorem law_FormatTime (z : Int) (W : World) (hz : (Lit.int .i64 z).wf = true) (htab : Lib.TabIs Tryd.prog W "internal/strconv.uint64pow10" .u64 Lib.pow10Tab) :
    Calls Tryd.prog 3 #[.int .i64 z] W fun e W' => e = .returned (.bool true) ∧ Below W.heap.size W W' := by
  have HT := Lib.hid (Lib.tabBelow_of_tabIs htab)
  clear htab
  go_enter Tryd.func3, Tryd.ntmps3
  go_wp2_with fail
  refine (spec_FormatTimeS z _).mono ?_
  rintro e w1 ⟨rfl, b1⟩
  go_wp2_with fail
  refine (impl_FormatTime z _ (HT.out _ b1)).mono ?_
  rintro e w2 ⟨rfl, c2⟩
  have b2 := b1.trans (c2.mono b1.size)
  generalize timeS z = t
  generalize inB z 0 99999999 = b
  go_wp2
  go_ret
  exact ⟨rfl, b2⟩
end Go.Proofs.YtdogppoflfjigaaDoor
