/-
  The law FnExactFormatCues returns true for every list of cues: its walk over the contracts.
-/
import Derived.Test.YtdogppoflfjigaaDoorCueArg
import Derived.Test.YtdogppoflfjigaaDoorEqCue
import Derived.Test.YtdogppoflfjigaaDoorSpecFormat
import Derived.Test.YtdogppoflfjigaaDoorImplFormat
namespace Go.Proofs.YtdogppoflfjigaaDoor
open Go.RowKit
set_option linter.unusedVariables false

set_option maxHeartbeats 2000000 in
theorem law_FormatCues (v0 : Value) (l : List CueD) (W : World) (w0 : CuesArg W v0 l) (htab : Lib.TabIs Tryd.prog W "internal/strconv.uint64pow10" .u64 Lib.pow10Tab) :
    Calls Tryd.prog 4 #[v0] W fun e W' => e = .returned (.bool true) ∧ Below W.heap.size W W' := by
  obtain ⟨A, cap, rfl, hr, hlc, hcm, htx, hft⟩ := w0
  have hlm : l.length ≤ maxLen := Nat.le_trans hlc hcm
  have HF := Lib.hid hft
  have HT := Lib.hid htx
  have HTB := Lib.hid (Lib.tabBelow_of_tabIs htab)
  clear hft htx htab
  go_enter Tryd.func4, Tryd.ntmps4
  go_wp2_with fail
  refine (szCueS_calls A cap l 1048576 _ hr hlm HT.out (by omega) (by omega)).mono ?_
  rintro e w1 ⟨r, rfl, hrr, b1⟩
  rcases hrr with hneg | ⟨hpos, hsm⟩
  · go_wp2
    go_ret
    exact ⟨rfl, b1⟩
  have hn : l.length ≤ 1048576 := by unfold Small at hsm; omega
  have s1 := b1.size
  clear hsm
  go_wp2_with fail
  refine (toCueS_calls A cap l _ ((hr.below b1).more s1) hn).mono ?_
  rintro e w2 ⟨v2, rfl, o2, b2⟩
  obtain ⟨A2, c2, rfl, r2, -, -⟩ := o2.slice
  have s2 := b2.size
  go_wp2_with fail
  refine (spec_FormatCues A2 c2 l _ r2 hn HT.out).mono ?_
  rintro e w3 ⟨rfl, b3⟩
  have s3 := b3.size
  have B3 : Below W.heap.size W w3 := (b1.trans (b2.mono s1)).trans (b3.mono (by omega))
  go_wp2_with fail
  refine (toCueS_calls A cap l _ ((hr.below B3).more (by omega)) hn).mono ?_
  rintro e w4 ⟨v4, rfl, ox, b4⟩
  obtain ⟨Ax, cx, rfl, rx, -, -⟩ := ox.slice
  have s4 := b4.size
  have B4 : Below W.heap.size W w4 := B3.trans (b4.mono (by omega))
  go_wp2_with fail
  refine (impl_FormatCues Ax cx l _ rx hn HT.out HF.out (HTB.out _ B4)).mono ?_
  rintro e w5 ⟨rfl, b5⟩
  generalize formB l = fb
  generalize validB l = vb
  have s5 := b5.size
  have ox5 := ox.below b5
  have B5 : Below W.heap.size W w5 := (B3.trans (b4.mono (by omega))).trans (b5.mono (by omega))
  go_wp2_with fail
  refine (toCueS_calls A cap l _ ((hr.below B5).more (by omega)) hn).mono ?_
  rintro e w6 ⟨v6, rfl, oc, b6⟩
  obtain ⟨Ac, cc, rfl, rc, -, -⟩ := oc.slice
  have s6 := b6.size
  have ox6 := ox5.below b6
  go_wp2_with fail
  refine (eqCueS_calls Ax Ac cx cc _ _ _ (Reads.of_own ox6.1) (Reads.of_own oc.1) hn).mono ?_
  rintro e w7 ⟨rfl, b7⟩
  go_wp2
  go_ret
  exact ⟨rfl, (B5.trans (b6.mono (by omega))).trans (b7.mono (by omega))⟩
end Go.Proofs.YtdogppoflfjigaaDoor
