/-
  The law FnExactParseCues returns true for every text: its walk over the contracts.
-/
import Derived.Test.YtjdnmknegpikcaaDoorCuesParI
import Derived.Test.YtjdnmknegpikcaaDoorEqCue
import Derived.Test.YtjdnmknegpikcaaDoorMarkCue
namespace Go.Proofs.YtjdnmknegpikcaaDoor
open Go.RowKit
set_option linter.unusedVariables false
set_option maxRecDepth 100000

theorem cuesOk_len {s : ByteArray} {l : List CueD} {b : Bool} (h : CuesOk s l b) : l.length ≤ 30 := by
  rcases h with ⟨-, hv, -⟩ | ⟨-, rfl, -⟩
  · exact text_lines30 hv
  · simp

set_option maxHeartbeats 8000000 in
theorem law_ParseCues (s : ByteArray) (W : World) (hs : s.size ≤ 9223372036854775807) (htab : Lib.TabIs Tryd.prog W "internal/strconv.uint64pow10" .u64 Lib.pow10Tab) (hm : MaxOk W) (herr : ErrOk W) :
    Calls Tryd.prog 5 #[.string s] W fun e W' => e = .returned (.bool true) ∧ Below W.heap.size W W' := by
  have HT := Lib.hid (show ∀ W', Below W.heap.size W W' → Lib.TabIs Tryd.prog W' "internal/strconv.uint64pow10" .u64 Lib.pow10Tab from fun W' hb => Lib.tabBelow_of_tabIs htab W' hb)
  have HE := Lib.hid (show ∀ W', Below W.heap.size W W' → ErrOk W' from fun W' hb => herr.below hb)
  have HM := Lib.hid (show ∀ W', Below W.heap.size W W' → MaxOk W' from fun W' hb => hm.below hb)
  clear htab herr hm
  by_cases h1 : s.size ≤ 1048576
  case neg =>
    have i1 : (1048576 : Int) < (s.size : Int) := by omega
    go_enter Tryd.func5, Tryd.ntmps5
    go_wp2
    go_ret
    exact ⟨rfl, Below.refl _ _⟩
  have i1 : ¬ (1048576 : Int) < (s.size : Int) := by omega
  go_enter Tryd.func5, Tryd.ntmps5
  go_wp2_with fail
  refine (spec_ParseCues s _ h1).mono ?_
  rintro e w3 ⟨R, v3, ok, rfl, hok, o3, b3⟩
  have hN := cuesOk_len hok
  have HOK := Lib.hid hok
  clear hok
  obtain ⟨A3, k3, rfl, -, -, -⟩ := o3.slice
  have sz1 := b3.size
  have hB2 := b3
  go_wp2_with fail
  refine (impl_ParseCues s _ h1 (HT.out _ hB2) (HE.out _ hB2) (HM.out _ hB2)).mono ?_
  rintro e w5 ⟨R2, v5, ok2, rfl, hok2, o5, b5⟩
  obtain ⟨rfl, rfl⟩ := cuesOk_one HOK.out hok2
  clear hok2
  obtain ⟨A5, k5, rfl, -, -, -⟩ := o5.slice
  have sz3 := b5.size
  have ow4 := o3.below b5
  have hB5 := hB2.trans (b5.mono hB2.size)
  go_wp2_with fail
  refine (eqCueS_calls A5 A3 k5 k3 R R _ (Reads.of_own o5.1) (Reads.of_own ow4.1) (by omega)).mono ?_
  rintro e w6 ⟨rfl, b6⟩
  have sz6 := b6.size
  have ow7 := ow4.below b6
  have ow8 := o5.below b6
  have hB9 := hB5.trans (b6.mono hB5.size)
  go_wp2_with fail
  refine (markCueS_calls w3.heap.size w5.heap.size _ R 1 _ ow8 (by omega) (by omega)).mono ?_
  rintro e w11 ⟨rfl, o11, h11⟩
  have sz10 := h11.size
  have ow11 := ow7.only h11 (by omega)
  have hB12 := hB9.trans (h11.below (B := W.heap.size) (by omega) (by omega))
  go_wp2_with fail
  refine (heldCueS_calls A5 k5 R.length 1 _ (Reads.of_own o11.1) (by omega) (by omega)).mono ?_
  rintro e w12 ⟨rfl, b12⟩
  have sz13 := b12.size
  have ow14 := ow11.below b12
  have ow15 := o11.below b12
  have hB16 := hB12.trans (b12.mono hB12.size)
  have i12 : ¬ (1 : Int) + 3 * (R.length : Int) < 0 := by omega
  go_wp2_with fail
  refine (impl_ParseCues s _ h1 (HT.out _ hB16) (HE.out _ hB16) (HM.out _ hB16)).mono ?_
  rintro e w14 ⟨R3, v14, ok3, rfl, hok3, o14, b14⟩
  obtain ⟨rfl, rfl⟩ := cuesOk_one HOK.out hok3
  clear hok3
  obtain ⟨A14, k14, rfl, -, -, -⟩ := o14.slice
  have sz17 := b14.size
  have ow18 := ow14.below b14
  have ow19 := ow15.below b14
  have hB20 := hB16.trans (b14.mono hB16.size)
  go_wp2_with fail
  refine (eqCueS_calls A14 A3 k14 k3 R R _ (Reads.of_own o14.1) (Reads.of_own ow18.1) (by omega)).mono ?_
  rintro e w15 ⟨rfl, b15⟩
  have sz21 := b15.size
  have ow22 := ow18.below b15
  have ow23 := ow19.below b15
  have ow24 := o14.below b15
  have hB25 := hB20.trans (b15.mono hB20.size)
  go_wp2_with fail
  refine (heldCueS_calls A5 k5 R.length 1 _ (Reads.of_own ow23.1) (by omega) (by omega)).mono ?_
  rintro e w16 ⟨rfl, b16⟩
  have sz26 := b16.size
  have ow27 := ow22.below b16
  have ow28 := ow23.below b16
  have ow29 := ow24.below b16
  have hB30 := hB25.trans (b16.mono hB25.size)
  cases ok
  · go_wp2
    go_ret
    exact ⟨rfl, hB30⟩
  · go_wp2
    go_ret
    exact ⟨rfl, hB30⟩
end Go.Proofs.YtjdnmknegpikcaaDoor
