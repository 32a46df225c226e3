/-
  The law FnExactAmbiguousStrokes returns true for every dictionary: its walk over the contracts.
-/
import Derived.Test.YtekidodfcanjaaaGreatDoorAmbS
import Derived.Test.YtekidodfcanjaaaGreatDoorDictArg
import Derived.Test.YtekidodfcanjaaaGreatDoorDictMark
import Derived.Test.YtekidodfcanjaaaGreatDoorDictEq
import Derived.Test.YtekidodfcanjaaaGreatDoorRowsMark
import Derived.Test.YtekidodfcanjaaaGreatDoorBase
namespace Go.Proofs.YtekidodfcanjaaaGreatDoor
open Go.RowKit
set_option linter.unusedVariables false
set_option maxRecDepth 100000

set_option maxHeartbeats 16000000 in
theorem law_AmbiguousStrokes (v0 : Value) (l : List EntD) (W : World) (w0 : DictArg W v0 l) (hm : MaxOk W) :
    Calls Tryz.prog 3 #[v0] W fun e W' => e = .returned (.bool true) ∧ Below W.heap.size W W' := by
  obtain ⟨A, cap, rfl, hr, hlc, hcm, hts⟩ := w0
  have hlm : l.length ≤ maxLen := Nat.le_trans hlc hcm
  have HT := Lib.hid hts
  have HM := Lib.hid hm
  clear hts hm
  have b0 : Below W.heap.size W (W.alloc (.cells #[.slice A l.length cap] 24)) := (Below.refl _ _).alloc (Nat.le_refl _) _
  have bA := Box.new W 24 (.slice A l.length cap)
  have z0 : W.heap.size < (W.alloc (.cells #[.slice A l.length cap] 24)).heap.size := by simp
  have cA := bA.cell
  go_enter Tryz.func3, Tryz.ntmps3
  go_wp2_with fail
  generalize hW0 : W.alloc (.cells #[.slice A l.length cap] 24) = wz at *
  clear hW0
  have s0 := b0.size
  refine (szDictionary_calls A cap l 1048576 _ ((hr.below b0).more s0) hlm HT.out (by omega) (by omega)).mono ?_
  rintro e w1 ⟨r, rfl, hrr, b1⟩
  have B1x := b0.trans (b1.mono s0)
  rcases hrr with hneg | ⟨hpos, hsm⟩
  · go_wp2
    go_ret
    exact ⟨rfl, B1x⟩
  obtain ⟨hn, hsh⟩ := shortD_of hsm
  have htm := totalM_small hsm
  have HSH := Lib.hid hsh
  have i1 : ¬ r < 0 := by omega
  clear hsm hsh
  have sz1 := b1.size
  have bx2 := bA.far b1
  have hB3 := b0.trans (b1.mono b0.size)
  have ce4 := bx2.cell
  go_wp2_with fail
  refine (toDictionary_calls A cap l _ ((hr.below hB3).more hB3.size) hn HSH.out).mono ?_
  rintro e w2 ⟨v2, rfl, o2, b2⟩
  obtain ⟨A2, k2, rfl, r2, -, -⟩ := o2.slice
  have sz5 := b2.size
  have bx6 := bx2.far b2
  have hB7 := hB3.trans (b2.mono hB3.size)
  have ce8 := bx6.cell
  clear ce4
  go_wp2_with fail
  refine (spec_AmbiguousStrokes A2 k2 l _ r2 hn HSH.out).mono ?_
  rintro e w3 ⟨⟨v3, rfl, o3, b3⟩, -⟩
  obtain ⟨A3, k3, rfl, -, -, -⟩ := o3.slice
  have sz9 := b3.size
  have bx10 := bx6.far b3
  have hB11 := hB7.trans (b3.mono hB7.size)
  have ce12 := bx10.cell
  have hRl : (ambV l).length ≤ 1048576 := ambV_len l
  generalize hR : ambV l = R at *
  have HR := Lib.hid hR
  clear hR
  generalize hDB : ambVB l = db at *
  have HDB := Lib.hid hDB
  clear hDB
  clear ce8
  go_wp2_with fail
  refine (toDictionary_calls A cap l _ ((hr.below hB11).more hB11.size) hn HSH.out).mono ?_
  rintro e w4 ⟨v4, rfl, o4, b4⟩
  obtain ⟨A4, k4, rfl, r4, -, -⟩ := o4.slice
  have sz13 := b4.size
  have bx14 := bx10.far b4
  have ow15 := o3.below b4
  have hB16 := hB11.trans (b4.mono hB11.size)
  have ce17 := bx14.cell
  have nb18 := Box.new w4 31 (.slice A4 l.length k4)
  have na19 : Below w4.heap.size w4 (w4.alloc (.cells #[.slice A4 l.length k4] 31)) := (Below.refl _ _).alloc (Nat.le_refl _) _
  have nz20 : (w4.alloc (.cells #[.slice A4 l.length k4] 31)).heap.size = w4.heap.size + 1 := by simp
  have sz21 := na19.size
  have bx22 := bx14.far na19
  have ow23 := ow15.below na19
  have ow24 := o4.below na19
  have hB25 := hB16.trans (na19.mono hB16.size)
  have ce26 := bx22.cell
  have ce27 := nb18.cell
  have m4 := Lib.hid (HM.out.below hB25)
  clear ce12 ce17
  go_wp2_with fail
  generalize hWx4 : w4.alloc (.cells #[.slice A4 l.length k4] 31) = x4 at *
  clear hWx4
  obtain ⟨A4x, k4x, hv4, r4x, -, -⟩ := ow24.slice
  simp only [Value.slice.injEq, true_and] at hv4
  obtain ⟨rfl, rfl⟩ := hv4
  refine (impl_AmbiguousStrokes A4 k4 l _ r4x hn HSH.out m4.out).mono ?_
  rintro e w5 ⟨⟨v5, rfl, o5, b5⟩, -⟩
  rw [HR.out] at o5
  try rw [HDB.out]
  obtain ⟨A5, k5, rfl, -, -, -⟩ := o5.slice
  have sz28 := b5.size
  have bx29 := bx22.far b5
  have bx30 := nb18.far b5
  have ow31 := ow23.below b5
  have ow32 := ow24.below b5
  have hB33 := hB25.trans (b5.mono hB25.size)
  have ce34 := bx29.cell
  have ce35 := bx30.cell
  clear ce26 ce27
  go_wp2_with fail
  refine (eqIntS_calls A5 A3 k5 k3 R R _ (Reads.of_own o5.1) (Reads.of_own ow31.1) hRl).mono ?_
  rintro e w6 ⟨rfl, b6⟩
  have sz36 := b6.size
  have bx37 := bx29.far b6
  have bx38 := bx30.far b6
  have ow39 := ow31.below b6
  have ow40 := ow32.below b6
  have ow41 := o5.below b6
  have hB42 := hB33.trans (b6.mono hB33.size)
  have ce43 := bx37.cell
  have ce44 := bx38.cell
  have ra : ∀ wx, Below w6.heap.size w6 wx → DictR wx wx.heap.size A l := fun wx hx => (hr.below (hB42.trans (hx.mono hB42.size))).more (by have := hx.size; have := hB42.size; omega)
  have rx : ∀ wx, Below w6.heap.size w6 wx → DictR wx wx.heap.size A4 l := fun wx hx => by
    obtain ⟨A4y, k4y, hv4, r4y, -, -⟩ := (ow40.below hx).slice
    simp only [Value.slice.injEq, true_and] at hv4
    obtain ⟨rfl, rfl⟩ := hv4
    exact r4y
  have RA := Lib.hid ra
  have RX := Lib.hid rx
  clear ra rx
  have hp6 : (⟨W.heap.size, 0, none⟩ : Addr).block < w6.heap.size := by show W.heap.size < _; omega
  have hq6 : (⟨w4.heap.size, 0, none⟩ : Addr).block < w6.heap.size := by show w4.heap.size < _; omega
  have S0 : w6.cell? ⟨W.heap.size, 0, none⟩ = some (.slice A l.length cap) ∧ w6.cell? ⟨w4.heap.size, 0, none⟩ = some (.slice A4 l.length k4) ∧ Below w6.heap.size w6 w6 := ⟨bx37.cell, bx38.cell, Below.refl _ _⟩
  clear ce34 ce35
  go_wp2
  go_region_held3 (fun w' => w'.cell? ⟨W.heap.size, 0, none⟩ = some (.slice A l.length cap) ∧ w'.cell? ⟨w4.heap.size, 0, none⟩ = some (.slice A4 l.length k4) ∧ Below w6.heap.size w6 w') (first | exact S0 | exact pair_drew S0 | assumption | exact pair_step hp6 hq6 (by assumption) (by assumption) | exact pair_drew (by assumption)) (first | (go_at_call 10; refine (toDictionary_calls A cap l _ (RA.out _ (two_below2 (by assumption))) hn HSH.out).mono ?_; rintro e w7 ⟨v7, rfl, oc, b7⟩; obtain ⟨Ac, kc, rfl, rc, -, -⟩ := oc.slice) | (go_at_call 13; refine (eqDictionary_calls A4 Ac k4 kc l l _ (RX.out _ (two_below2 (by assumption))) (by exact rc) hn HSH.out).mono ?_; rintro e w8 ⟨rfl, b8⟩))
  have bz8 : Below w6.heap.size w6 w8 := two_below2 (by assumption)
  clear S0
  have sz45 := bz8.size
  have bx46 := bx37.far bz8
  have bx47 := bx38.far bz8
  have ow48 := ow39.below bz8
  have ow49 := ow40.below bz8
  have ow50 := ow41.below bz8
  have hB51 := hB42.trans (bz8.mono hB42.size)
  have ce52 := bx46.cell
  have ce53 := bx47.cell
  clear ce43 ce44
  go_wp2_with fail
  refine (markDictionary_calls w3.heap.size w4.heap.size _ l 1 _ ow49 (by omega) (by omega) hn).mono ?_
  rintro e w9 ⟨rfl, h9⟩
  have sz54 := h9.size
  have bx55 := bx46.only h9 (by omega)
  have bx56 := bx47.only h9 (by omega)
  have ow57 := ow48.only h9 (by omega)
  have ow58 := ow50.only h9 (by omega)
  have hB59 := hB51.trans (h9.below (B := W.heap.size) (by omega) (by omega))
  have ce60 := bx55.cell
  have ce61 := bx56.cell
  have i9 : ¬ ((1 + totalM l : Nat) : Int) < 0 := by omega
  have i9b : ¬ (1 : Int) + (totalM l : Int) < 0 := by omega
  clear ce52 ce53
  go_wp2_with fail
  refine (eqIntS_calls A5 A3 k5 k3 R R _ (Reads.of_own ow58.1) (Reads.of_own ow57.1) hRl).mono ?_
  rintro e w10 ⟨rfl, b10⟩
  have sz62 := b10.size
  have bx63 := bx55.far b10
  have bx64 := bx56.far b10
  have ow65 := ow57.below b10
  have ow66 := ow58.below b10
  have hB67 := hB59.trans (b10.mono hB59.size)
  have ce68 := bx63.cell
  have ce69 := bx64.cell
  clear ce60 ce61
  go_wp2_with fail
  refine (markIntS_calls x4.heap.size w5.heap.size _ R.length _ 1 _ ow66 (by omega) (by omega)).mono ?_
  rintro e w11 ⟨rfl, o11, h11⟩
  have sz70 := h11.size
  have bx71 := bx63.only h11 (by omega)
  have bx72 := bx64.only h11 (by omega)
  have ow73 := ow65.only h11 (by omega)
  have hB74 := hB67.trans (h11.below (B := W.heap.size) (by omega) (by omega))
  have ce75 := bx71.cell
  have ce76 := bx72.cell
  clear ce68 ce69
  go_wp2_with fail
  refine (heldIntS_calls A5 k5 R.length 1 _ (Reads.of_own o11.1) (by omega) (by omega)).mono ?_
  rintro e w12 ⟨rfl, rfl⟩
  have i12 : ¬ (1 : Int) + (R.length : Int) < 0 := by omega
  go_wp2_with fail
  refine (toDictionary_calls A cap l _ ((hr.below hB74).more hB74.size) hn HSH.out).mono ?_
  rintro e w13 ⟨v13, rfl, o13, b13⟩
  obtain ⟨A13, k13, rfl, r13, -, -⟩ := o13.slice
  have sz77 := b13.size
  have bx78 := bx71.far b13
  have bx79 := bx72.far b13
  have ow80 := ow73.below b13
  have ow81 := o11.below b13
  have hB82 := hB74.trans (b13.mono hB74.size)
  have ce83 := bx78.cell
  have ce84 := bx79.cell
  have m13 := Lib.hid (HM.out.below hB82)
  clear ce75 ce76
  go_wp2_with fail
  refine (impl_AmbiguousStrokes A13 k13 l _ r13 hn HSH.out m13.out).mono ?_
  rintro e w14 ⟨⟨v14, rfl, o14, b14⟩, -⟩
  rw [HR.out] at o14
  try rw [HDB.out]
  obtain ⟨A14, k14, rfl, -, -, -⟩ := o14.slice
  have sz85 := b14.size
  have bx86 := bx78.far b14
  have bx87 := bx79.far b14
  have ow88 := ow80.below b14
  have ow89 := ow81.below b14
  have hB90 := hB82.trans (b14.mono hB82.size)
  have ce91 := bx86.cell
  have ce92 := bx87.cell
  clear ce83 ce84
  go_wp2_with fail
  refine (eqIntS_calls A14 A3 k14 k3 R R _ (Reads.of_own o14.1) (Reads.of_own ow88.1) hRl).mono ?_
  rintro e w15 ⟨rfl, b15⟩
  have sz93 := b15.size
  have bx94 := bx86.far b15
  have bx95 := bx87.far b15
  have ow96 := ow88.below b15
  have ow97 := ow89.below b15
  have ow98 := o14.below b15
  have hB99 := hB90.trans (b15.mono hB90.size)
  have ce100 := bx94.cell
  have ce101 := bx95.cell
  clear ce91 ce92
  go_wp2_with fail
  refine (heldIntS_calls A5 k5 R.length 1 _ (Reads.of_own ow97.1) (by omega) (by omega)).mono ?_
  rintro e w16 ⟨rfl, rfl⟩
  go_wp2
  go_ret
  exact ⟨rfl, hB99⟩
end Go.Proofs.YtekidodfcanjaaaGreatDoor
