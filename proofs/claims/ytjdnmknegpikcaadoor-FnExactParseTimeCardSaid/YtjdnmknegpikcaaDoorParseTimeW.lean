/-
  The law FnExactParseTime returns true for every text: its walk over the contracts.
-/
import Derived.Test.YtjdnmknegpikcaaDoorTimeJ
import Derived.Test.YtjdnmknegpikcaaDoorTimeS
namespace Go.Proofs.YtjdnmknegpikcaaDoor
open Go.RowKit
set_option linter.unusedVariables false
set_option maxRecDepth 100000

set_option maxHeartbeats 4000000 in
theorem law_ParseTime (s : ByteArray) (W : World) (hs : s.size ≤ 9223372036854775807) (htab : Lib.TabIs Tryd.prog W "internal/strconv.uint64pow10" .u64 Lib.pow10Tab) (herr : ErrOk W) :
    Calls Tryd.prog 3 #[.string s] W fun e W' => e = .returned (.bool true) ∧ Below W.heap.size W W' := by
  have HT := Lib.hid (show ∀ W', Below W.heap.size W W' → Lib.TabIs Tryd.prog W' "internal/strconv.uint64pow10" .u64 Lib.pow10Tab from fun W' hb => Lib.tabBelow_of_tabIs htab W' hb)
  have HE := Lib.hid (show ∀ W', Below W.heap.size W W' → ErrOk W' from fun W' hb => herr.below hb)
  clear htab herr
  by_cases h1 : s.size ≤ 1048576
  case neg =>
    have i1 : (1048576 : Int) < (s.size : Int) := by omega
    go_enter Tryd.func3, Tryd.ntmps3
    go_wp2
    go_ret
    exact ⟨rfl, Below.refl _ _⟩
  have i1 : ¬ (1048576 : Int) < (s.size : Int) := by omega
  go_enter Tryd.func3, Tryd.ntmps3
  go_wp2_with fail
  refine (spec_ParseTime s _ (by omega)).mono ?_
  rintro e w1 ⟨z, b, rfl, hz, b1⟩
  have HZ := Lib.hid hz
  clear hz
  go_wp2_with fail
  refine (impl_ParseTime s _ (by omega) (HT.out _ b1) (HE.out _ b1)).mono ?_
  rintro e w2 ⟨z', b', rfl, hz', b2⟩
  have B2 := b1.trans (b2.mono b1.size)
  obtain ⟨rfl, rfl⟩ := timeOk_one HZ.out hz'
  clear hz'
  cases b
  · go_wp2
    go_ret
    exact ⟨rfl, B2⟩
  · go_wp2
    go_ret
    exact ⟨rfl, B2⟩
end Go.Proofs.YtjdnmknegpikcaaDoor
