/-
  The law FnExactPieceExcess returns true for every dictionary and list of strokes: its walk over the contracts.
-/
import Derived.Test.YtiocdppacbplcaaDoorFewI
import Derived.Test.YtiocdppacbplcaaDoorDictArg
import Derived.Test.YtiocdppacbplcaaDoorDictEq
import Derived.Test.YtiocdppacbplcaaDoorDictOwn
import Derived.Test.YtiocdppacbplcaaDoorRowsSS
import Derived.Test.YtiocdppacbplcaaDoorBase
namespace Go.Proofs.YtiocdppacbplcaaDoor
open Go.RowKit
set_option linter.unusedVariables false
set_option maxRecDepth 100000

set_option maxHeartbeats 16000000 in
theorem law_PieceExcess (v0 : Value) (l : List EntD) (sB : Option Addr) (sn cb : Nat) (zs : List Int) (W : World) (w0 : DictArg W v0 l) (w1 : Ints .i64 W sB sn cb zs) (hm : MaxOk W) :
    Calls Tryd.prog 4 #[v0, .slice sB sn cb] W fun e W' => e = .returned (.bool true) ∧ Below W.heap.size W W' := by
  obtain ⟨A, cap, rfl, hr, hlc, hcm, hts⟩ := w0
  obtain ⟨hz, hcb, hcm2, rfl, -⟩ := w1
  have hlm : l.length ≤ maxLen := Nat.le_trans hlc hcm
  have HT := Lib.hid hts
  have HM := Lib.hid hm
  clear hts hm
  have hz : Reads W W.heap.size 1 sB zs.length (ints zs) := hz
  have b0 : Below W.heap.size W (W.alloc (.cells #[.slice A l.length cap] 24)) := (Below.refl _ _).alloc (Nat.le_refl _) _
  have bA := Box.new W 24 (.slice A l.length cap)
  have z0 : W.heap.size < (W.alloc (.cells #[.slice A l.length cap] 24)).heap.size := by simp
  have cA := bA.cell
  by_cases hzn : zs.length ≤ 1048576
  case neg =>
    have j1 : (1048576 : Int) < (zs.length : Int) := by omega
    go_enter Tryd.func4, Tryd.ntmps4
    go_wp2
    go_ret
    exact ⟨rfl, b0⟩
  have j1 : ¬ (1048576 : Int) < (zs.length : Int) := by omega
  go_enter Tryd.func4, Tryd.ntmps4
  go_wp2_with fail
  generalize hW0 : W.alloc (.cells #[.slice A l.length cap] 24) = wz at *
  clear hW0
  have s0 := b0.size
  refine (szDictionary_calls A cap l 1048576 _ ((hr.below b0).more s0) hlm HT.out (by omega) (by omega)).mono ?_
  rintro e w1 ⟨r, rfl, hrr, b1⟩
  have B1x := b0.trans (b1.mono s0)
  rcases hrr with hneg | ⟨hpos, hsm⟩
  · go_wp2
    go_ret
    exact ⟨rfl, B1x⟩
  obtain ⟨hn, hsh⟩ := shortD_of hsm
  have HSH := Lib.hid hsh
  have i1 : ¬ r < 0 := by omega
  clear hsm hsh
  have sz1 := b1.size
  have bx2 := bA.far b1
  have hB3 := b0.trans (b1.mono b0.size)
  have ce4 := bx2.cell
  go_wp2_with fail
  refine (toDictionary_calls A cap l _ ((hr.below hB3).more hB3.size) hn HSH.out).mono ?_
  rintro e w2 ⟨v2, rfl, o2, b2⟩
  obtain ⟨A2, k2, rfl, r2, -, -⟩ := o2.slice
  have sz5 := b2.size
  have bx6 := bx2.far b2
  have hB7 := hB3.trans (b2.mono hB3.size)
  have ce8 := bx6.cell
  clear ce4
  go_wp2_with fail
  refine (toIntS_calls sB cb zs _ ((hz.below hB7).more hB7.size) hzn).mono ?_
  rintro e w3 ⟨v3, rfl, o3, b3⟩
  obtain ⟨A3, k3, rfl, -, kc3, km3⟩ := o3.slice
  have sz9 := b3.size
  have bx10 := bx6.far b3
  have ow11 := o2.below b3
  have hB12 := hB7.trans (b3.mono hB7.size)
  have ce13 := bx10.cell
  clear ce8
  go_wp2_with fail
  obtain ⟨A2y, k2y, hv2, rr2, -, -⟩ := ow11.slice
  simp only [Value.slice.injEq, true_and] at hv2
  obtain ⟨rfl, rfl⟩ := hv2
  refine (spec_PieceExcess A2 A3 k2 k3 l zs _ rr2 hn HSH.out (Reads.of_own o3.1) hzn kc3 km3).mono ?_
  rintro e w4 ⟨rfl, b4⟩
  have sz14 := b4.size
  have bx15 := bx10.far b4
  have hB16 := hB12.trans (b4.mono hB12.size)
  have ce17 := bx15.cell
  clear ce13
  go_wp2_with fail
  refine (toDictionary_calls A cap l _ ((hr.below hB16).more hB16.size) hn HSH.out).mono ?_
  rintro e w5 ⟨v5, rfl, o5, b5⟩
  obtain ⟨A5, k5, rfl, r5, -, -⟩ := o5.slice
  have sz18 := b5.size
  have bx19 := bx15.far b5
  have hB20 := hB16.trans (b5.mono hB16.size)
  have ce21 := bx19.cell
  have nb22 := Box.new w5 31 (.slice A5 l.length k5)
  have na23 : Below w5.heap.size w5 (w5.alloc (.cells #[.slice A5 l.length k5] 31)) := (Below.refl _ _).alloc (Nat.le_refl _) _
  have nz24 : (w5.alloc (.cells #[.slice A5 l.length k5] 31)).heap.size = w5.heap.size + 1 := by simp
  have sz25 := na23.size
  have bx26 := bx19.far na23
  have ow27 := o5.below na23
  have hB28 := hB20.trans (na23.mono hB20.size)
  have ce29 := bx26.cell
  have ce30 := nb22.cell
  clear ce17 ce21
  go_wp2_with fail
  generalize hWx5 : w5.alloc (.cells #[.slice A5 l.length k5] 31) = x5 at *
  clear hWx5
  refine (toIntS_calls sB cb zs _ ((hz.below hB28).more hB28.size) hzn).mono ?_
  rintro e w6 ⟨v6, rfl, o6, b6⟩
  obtain ⟨A6, k6, rfl, -, kc6, km6⟩ := o6.slice
  have sz31 := b6.size
  have bx32 := bx26.far b6
  have bx33 := nb22.far b6
  have ow34 := ow27.below b6
  have hB35 := hB28.trans (b6.mono hB28.size)
  have ce36 := bx32.cell
  have ce37 := bx33.cell
  have m6 := Lib.hid (HM.out.below hB35)
  clear ce29 ce30
  go_wp2_with fail
  obtain ⟨A5y, k5y, hv5, rr5, -, -⟩ := ow34.slice
  simp only [Value.slice.injEq, true_and] at hv5
  obtain ⟨rfl, rfl⟩ := hv5
  refine (impl_PieceExcess A5 A6 k5 k6 l zs _ rr5 hn HSH.out m6.out (Reads.of_own o6.1) hzn kc6 km6).mono ?_
  rintro e w7 ⟨rfl, b7⟩
  have sz38 := b7.size
  have bx39 := bx32.far b7
  have bx40 := bx33.far b7
  have ow41 := ow34.below b7
  have ow42 := o6.below b7
  have hB43 := hB35.trans (b7.mono hB35.size)
  have ce44 := bx39.cell
  have ce45 := bx40.cell
  have ra : ∀ wx, Below w7.heap.size w7 wx → DictR wx wx.heap.size A l := fun wx hx => (hr.below (hB43.trans (hx.mono hB43.size))).more (by have := hx.size; have := hB43.size; omega)
  have rx : ∀ wx, Below w7.heap.size w7 wx → DictR wx wx.heap.size A5 l := fun wx hx => by
    obtain ⟨A5z, k5z, hv5, r5z, -, -⟩ := (ow41.below hx).slice
    simp only [Value.slice.injEq, true_and] at hv5
    obtain ⟨rfl, rfl⟩ := hv5
    exact r5z
  have RA := Lib.hid ra
  have RX := Lib.hid rx
  clear ra rx
  have hp7 : (⟨W.heap.size, 0, none⟩ : Addr).block < w7.heap.size := by show W.heap.size < _; omega
  have hq7 : (⟨w5.heap.size, 0, none⟩ : Addr).block < w7.heap.size := by show w5.heap.size < _; omega
  have S0 : w7.cell? ⟨W.heap.size, 0, none⟩ = some (.slice A l.length cap) ∧ w7.cell? ⟨w5.heap.size, 0, none⟩ = some (.slice A5 l.length k5) ∧ Below w7.heap.size w7 w7 := ⟨bx39.cell, bx40.cell, Below.refl _ _⟩
  clear ce36 ce37
  go_wp2
  go_region_held3 (fun w' => w'.cell? ⟨W.heap.size, 0, none⟩ = some (.slice A l.length cap) ∧ w'.cell? ⟨w5.heap.size, 0, none⟩ = some (.slice A5 l.length k5) ∧ Below w7.heap.size w7 w') (first | exact S0 | exact pair_drew S0 | assumption | exact pair_step hp7 hq7 (by assumption) (by assumption) | exact pair_drew (by assumption)) (first | (go_at_call 7; refine (toDictionary_calls A cap l _ (RA.out _ (two_below2 (by assumption))) hn HSH.out).mono ?_; rintro e w8 ⟨v8, rfl, oc, b8⟩; obtain ⟨Ac, kc, rfl, rc, -, -⟩ := oc.slice) | (go_at_call 10; refine (eqDictionary_calls A5 Ac k5 kc l l _ (RX.out _ (two_below2 (by assumption))) (by exact rc) hn HSH.out).mono ?_; rintro e w9 ⟨rfl, b9⟩))
  have bz9 : Below w7.heap.size w7 w9 := two_below2 (by assumption)
  clear S0
  have sz46 := bz9.size
  have bx47 := bx39.far bz9
  have bx48 := bx40.far bz9
  have ow49 := ow41.below bz9
  have ow50 := ow42.below bz9
  have hB51 := hB43.trans (bz9.mono hB43.size)
  have ce52 := bx47.cell
  have ce53 := bx48.cell
  clear ce44 ce45
  go_wp2_with fail
  refine (toIntS_calls sB cb zs _ ((hz.below hB51).more hB51.size) hzn).mono ?_
  rintro e w10 ⟨v10, rfl, o10, b10⟩
  obtain ⟨A10, k10, rfl, -, kc10, km10⟩ := o10.slice
  have sz54 := b10.size
  have bx55 := bx47.far b10
  have bx56 := bx48.far b10
  have ow57 := ow49.below b10
  have ow58 := ow50.below b10
  have hB59 := hB51.trans (b10.mono hB51.size)
  have ce60 := bx55.cell
  have ce61 := bx56.cell
  clear ce52 ce53
  go_wp2_with fail
  refine (eqIntS_calls A6 A10 k6 k10 zs zs _ (Reads.of_own ow58.1) (Reads.of_own o10.1) hzn).mono ?_
  rintro e w11 ⟨rfl, b11⟩
  have sz62 := b11.size
  have bx63 := bx55.far b11
  have bx64 := bx56.far b11
  have ow65 := ow57.below b11
  have ow66 := ow58.below b11
  have ow67 := o10.below b11
  have hB68 := hB59.trans (b11.mono hB59.size)
  have ce69 := bx63.cell
  have ce70 := bx64.cell
  clear ce60 ce61
  go_wp2
  go_ret
  exact ⟨rfl, hB68⟩
end Go.Proofs.YtiocdppacbplcaaDoor
