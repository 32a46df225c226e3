/-
  The law FnExactAllReadings returns true for every dictionary and list of strokes: its walk over the contracts.
-/
import Derived.Test.YtkclolejoijelaaGreatDoorAllJ
import Derived.Test.YtkclolejoijelaaGreatDoorDictArg
import Derived.Test.YtkclolejoijelaaGreatDoorDictMark
import Derived.Test.YtkclolejoijelaaGreatDoorDictEq
import Derived.Test.YtkclolejoijelaaGreatDoorRowsMark
import Derived.Test.YtkclolejoijelaaGreatDoorDictOwn
import Derived.Test.YtkclolejoijelaaGreatDoorRowsSS
import Derived.Test.YtkclolejoijelaaGreatDoorBase
namespace Go.Proofs.YtkclolejoijelaaGreatDoor
open Go.RowKit
set_option linter.unusedVariables false
set_option maxRecDepth 100000

set_option maxHeartbeats 16000000 in
theorem law_AllReadings (v0 : Value) (l : List EntD) (sB : Option Addr) (sn cb : Nat) (zs : List Int) (most : Int) (W : World) (w0 : DictArg W v0 l) (w1 : Ints .i64 W sB sn cb zs) (w2 : (Lit.int .i64 most).wf = true) (hm : MaxOk W) :
    Calls Tryz.prog 5 #[v0, .slice sB sn cb, .int .i64 most] W fun e W' => e = .returned (.bool true) ∧ Below W.heap.size W W' := by
  obtain ⟨A, cap, rfl, hr, hlc, hcm, hts⟩ := w0
  obtain ⟨hz, hcb, hcm2, rfl, -⟩ := w1
  have hlm : l.length ≤ maxLen := Nat.le_trans hlc hcm
  have HT := Lib.hid hts
  have HM := Lib.hid hm
  clear hts hm
  have hz : Reads W W.heap.size 1 sB zs.length (ints zs) := hz
  have b0 : Below W.heap.size W (W.alloc (.cells #[.slice A l.length cap] 48)) := (Below.refl _ _).alloc (Nat.le_refl _) _
  have bA := Box.new W 48 (.slice A l.length cap)
  have z0 : W.heap.size < (W.alloc (.cells #[.slice A l.length cap] 48)).heap.size := by simp
  have cA := bA.cell
  by_cases hzn : zs.length ≤ 1048576
  case neg =>
    have j1 : (1048576 : Int) < (zs.length : Int) := by omega
    go_enter Tryz.func5, Tryz.ntmps5
    go_wp2
    go_ret
    exact ⟨rfl, b0⟩
  have j1 : ¬ (1048576 : Int) < (zs.length : Int) := by omega
  go_enter Tryz.func5, Tryz.ntmps5
  go_wp2_with fail
  generalize hW0 : W.alloc (.cells #[.slice A l.length cap] 48) = wz at *
  clear hW0
  have s0 := b0.size
  refine (szDictionary_calls A cap l 1048576 _ ((hr.below b0).more s0) hlm HT.out (by omega) (by omega)).mono ?_
  rintro e w1 ⟨r, rfl, hrr, b1⟩
  have B1x := b0.trans (b1.mono s0)
  rcases hrr with hneg | ⟨hpos, hsm⟩
  · go_wp2
    go_ret
    exact ⟨rfl, B1x⟩
  obtain ⟨hn, hsh⟩ := shortD_of hsm
  have htm := totalM_small hsm
  have HSH := Lib.hid hsh
  have i1 : ¬ r < 0 := by omega
  clear hsm hsh
  have sz1 := b1.size
  have bx2 := bA.far b1
  have hB3 := b0.trans (b1.mono b0.size)
  have ce4 := bx2.cell
  go_wp2_with fail
  refine (toDictionary_calls A cap l _ ((hr.below hB3).more hB3.size) hn HSH.out).mono ?_
  rintro e w2 ⟨v2, rfl, o2, b2⟩
  obtain ⟨A2, k2, rfl, r2, -, -⟩ := o2.slice
  have sz5 := b2.size
  have bx6 := bx2.far b2
  have hB7 := hB3.trans (b2.mono hB3.size)
  have ce8 := bx6.cell
  clear ce4
  go_wp2_with fail
  refine (toIntS_calls sB cb zs _ ((hz.below hB7).more hB7.size) hzn).mono ?_
  rintro e w3 ⟨v3, rfl, o3, b3⟩
  obtain ⟨A3, k3, rfl, -, kc3, km3⟩ := o3.slice
  have sz9 := b3.size
  have bx10 := bx6.far b3
  have ow11 := o2.below b3
  have hB12 := hB7.trans (b3.mono hB7.size)
  have ce13 := bx10.cell
  clear ce8
  go_wp2_with fail
  obtain ⟨A2y, k2y, hv2, rr2, -, -⟩ := ow11.slice
  simp only [Value.slice.injEq, true_and] at hv2
  obtain ⟨rfl, rfl⟩ := hv2
  refine (spec_AllReadings A2 A3 k2 k3 l zs most _ rr2 hn HSH.out (Reads.of_own o3.1) hzn kc3 km3).mono ?_
  rintro e w4 ⟨v4, rfl, o4, b4⟩
  obtain ⟨A4, k4, rfl, -, -⟩ := o4.slice
  have sz14 := b4.size
  have bx15 := bx10.far b4
  have hB16 := hB12.trans (b4.mono hB12.size)
  have ce17 := bx15.cell
  have hN : (allD l zs most).length ≤ 50 := allD_len l zs most
  have hRL : ∀ r ∈ allD l zs most, r.length ≤ 60 := allD_row l zs most
  have hT : totalSS (allD l zs most) ≤ 50 * 60 := Nat.le_trans (totalSS_len hRL) (Nat.mul_le_mul_right _ hN)
  have HRL := Lib.hid (show ∀ r ∈ allD l zs most, r.length ≤ 1048576 from fun r hr => Nat.le_trans (hRL r hr) (by omega))
  clear hRL
  generalize hR : allD l zs most = R at *
  have HR := Lib.hid hR
  clear hR
  generalize hDB : allB l zs most = db at *
  have HDB := Lib.hid hDB
  clear hDB
  clear ce13
  go_wp2_with fail
  refine (toDictionary_calls A cap l _ ((hr.below hB16).more hB16.size) hn HSH.out).mono ?_
  rintro e w5 ⟨v5, rfl, o5, b5⟩
  obtain ⟨A5, k5, rfl, r5, -, -⟩ := o5.slice
  have sz18 := b5.size
  have bx19 := bx15.far b5
  have ow20 := o4.below b5
  have hB21 := hB16.trans (b5.mono hB16.size)
  have ce22 := bx19.cell
  have nb23 := Box.new w5 26 (.slice A5 l.length k5)
  have na24 : Below w5.heap.size w5 (w5.alloc (.cells #[.slice A5 l.length k5] 26)) := (Below.refl _ _).alloc (Nat.le_refl _) _
  have nz25 : (w5.alloc (.cells #[.slice A5 l.length k5] 26)).heap.size = w5.heap.size + 1 := by simp
  have sz26 := na24.size
  have bx27 := bx19.far na24
  have ow28 := ow20.below na24
  have ow29 := o5.below na24
  have hB30 := hB21.trans (na24.mono hB21.size)
  have ce31 := bx27.cell
  have ce32 := nb23.cell
  clear ce17 ce22
  go_wp2_with fail
  generalize hWx5 : w5.alloc (.cells #[.slice A5 l.length k5] 26) = x5 at *
  clear hWx5
  refine (toIntS_calls sB cb zs _ ((hz.below hB30).more hB30.size) hzn).mono ?_
  rintro e w6 ⟨v6, rfl, o6, b6⟩
  obtain ⟨A6, k6, rfl, -, kc6, km6⟩ := o6.slice
  have sz33 := b6.size
  have bx34 := bx27.far b6
  have bx35 := nb23.far b6
  have ow36 := ow28.below b6
  have ow37 := ow29.below b6
  have hB38 := hB30.trans (b6.mono hB30.size)
  have ce39 := bx34.cell
  have ce40 := bx35.cell
  have m6 := Lib.hid (HM.out.below hB38)
  clear ce31 ce32
  go_wp2_with fail
  obtain ⟨A5y, k5y, hv5, rr5, -, -⟩ := ow37.slice
  simp only [Value.slice.injEq, true_and] at hv5
  obtain ⟨rfl, rfl⟩ := hv5
  refine (impl_AllReadings A5 A6 k5 k6 l zs most _ rr5 hn HSH.out m6.out (Reads.of_own o6.1) hzn kc6 km6).mono ?_
  rintro e w7 ⟨v7, rfl, o7, b7⟩
  rw [HR.out] at o7
  try rw [HDB.out]
  obtain ⟨A7, k7, rfl, -, -⟩ := o7.slice
  have sz41 := b7.size
  have bx42 := bx34.far b7
  have bx43 := bx35.far b7
  have ow44 := ow36.below b7
  have ow45 := ow37.below b7
  have ow46 := o6.below b7
  have hB47 := hB38.trans (b7.mono hB38.size)
  have ce48 := bx42.cell
  have ce49 := bx43.cell
  clear ce39 ce40
  go_wp2_with fail
  refine (eqIntSS_calls _ _ _ _ _ _ R R _ o7 ow44 (by omega) HRL.out).mono ?_
  rintro e w8 ⟨rfl, b8⟩
  have sz50 := b8.size
  have bx51 := bx42.far b8
  have bx52 := bx43.far b8
  have ow53 := ow44.below b8
  have ow54 := ow45.below b8
  have ow55 := ow46.below b8
  have ow56 := o7.below b8
  have hB57 := hB47.trans (b8.mono hB47.size)
  have ce58 := bx51.cell
  have ce59 := bx52.cell
  have ra : ∀ wx, Below w8.heap.size w8 wx → DictR wx wx.heap.size A l := fun wx hx => (hr.below (hB57.trans (hx.mono hB57.size))).more (by have := hx.size; have := hB57.size; omega)
  have rx : ∀ wx, Below w8.heap.size w8 wx → DictR wx wx.heap.size A5 l := fun wx hx => by
    obtain ⟨A5z, k5z, hv5, r5z, -, -⟩ := (ow54.below hx).slice
    simp only [Value.slice.injEq, true_and] at hv5
    obtain ⟨rfl, rfl⟩ := hv5
    exact r5z
  have RA := Lib.hid ra
  have RX := Lib.hid rx
  clear ra rx
  have hp8 : (⟨W.heap.size, 0, none⟩ : Addr).block < w8.heap.size := by show W.heap.size < _; omega
  have hq8 : (⟨w5.heap.size, 0, none⟩ : Addr).block < w8.heap.size := by show w5.heap.size < _; omega
  have S0 : w8.cell? ⟨W.heap.size, 0, none⟩ = some (.slice A l.length cap) ∧ w8.cell? ⟨w5.heap.size, 0, none⟩ = some (.slice A5 l.length k5) ∧ Below w8.heap.size w8 w8 := ⟨bx51.cell, bx52.cell, Below.refl _ _⟩
  clear ce48 ce49
  go_wp2
  go_region_held3 (fun w' => w'.cell? ⟨W.heap.size, 0, none⟩ = some (.slice A l.length cap) ∧ w'.cell? ⟨w5.heap.size, 0, none⟩ = some (.slice A5 l.length k5) ∧ Below w8.heap.size w8 w') (first | exact S0 | exact pair_drew S0 | assumption | exact pair_step hp8 hq8 (by assumption) (by assumption) | exact pair_drew (by assumption)) (first | (go_at_call 28; refine (toDictionary_calls A cap l _ (RA.out _ (two_below2 (by assumption))) hn HSH.out).mono ?_; rintro e wc ⟨vc, rfl, oc, bc⟩; obtain ⟨Ac, kc, rfl, rc, -, -⟩ := oc.slice) | (go_at_call 32; refine (eqDictionary_calls A5 Ac k5 kc l l _ (RX.out _ (two_below2 (by assumption))) (by exact rc) hn HSH.out).mono ?_; rintro e w9 ⟨rfl, b9⟩))
  have bz9 : Below w8.heap.size w8 w9 := two_below2 (by assumption)
  clear S0
  have sz60 := bz9.size
  have bx61 := bx51.far bz9
  have bx62 := bx52.far bz9
  have ow63 := ow53.below bz9
  have ow64 := ow54.below bz9
  have ow65 := ow55.below bz9
  have ow66 := ow56.below bz9
  have hB67 := hB57.trans (bz9.mono hB57.size)
  have ce68 := bx61.cell
  have ce69 := bx62.cell
  clear ce58 ce59
  go_wp2_with fail
  refine (toIntS_calls sB cb zs _ ((hz.below hB67).more hB67.size) hzn).mono ?_
  rintro e w10 ⟨v10, rfl, o10, b10⟩
  obtain ⟨A10, k10, rfl, -, kc10, km10⟩ := o10.slice
  have sz70 := b10.size
  have bx71 := bx61.far b10
  have bx72 := bx62.far b10
  have ow73 := ow63.below b10
  have ow74 := ow64.below b10
  have ow75 := ow65.below b10
  have ow76 := ow66.below b10
  have hB77 := hB67.trans (b10.mono hB67.size)
  have ce78 := bx71.cell
  have ce79 := bx72.cell
  clear ce68 ce69
  go_wp2_with fail
  refine (eqIntS_calls A6 A10 k6 k10 zs zs _ (Reads.of_own ow75.1) (Reads.of_own o10.1) hzn).mono ?_
  rintro e w11 ⟨rfl, b11⟩
  have sz80 := b11.size
  have bx81 := bx71.far b11
  have bx82 := bx72.far b11
  have ow83 := ow73.below b11
  have ow84 := ow74.below b11
  have ow85 := ow75.below b11
  have ow86 := ow76.below b11
  have hB87 := hB77.trans (b11.mono hB77.size)
  have ce88 := bx81.cell
  have ce89 := bx82.cell
  clear ce78 ce79
  go_wp2_with fail
  refine (markDictionary_calls w4.heap.size w5.heap.size _ l 1 _ ow84 (by omega) (by omega) hn).mono ?_
  rintro e w12 ⟨rfl, h12⟩
  have sz90 := h12.size
  have bx91 := bx81.only h12 (by omega)
  have bx92 := bx82.only h12 (by omega)
  have ow93 := ow83.only h12 (by omega)
  have ow94 := ow85.only h12 (by omega)
  have ow95 := ow86.only h12 (by omega)
  have hB96 := hB87.trans (h12.below (B := W.heap.size) (by omega) (by omega))
  have ce97 := bx91.cell
  have ce98 := bx92.cell
  clear ce88 ce89
  go_wp2_with fail
  refine (markIntS_calls x5.heap.size w6.heap.size _ zs.length _ ((1 + totalM l : Nat) : Int) _ ow94 (by omega) (by omega)).mono ?_
  rintro e w13 ⟨rfl, o13, h13⟩
  have sz99 := h13.size
  have bx100 := bx91.only h13 (by omega)
  have bx101 := bx92.only h13 (by omega)
  have ow102 := ow93.only h13 (by omega)
  have ow103 := ow95.only h13 (by omega)
  have hB104 := hB96.trans (h13.below (B := W.heap.size) (by omega) (by omega))
  have ce105 := bx100.cell
  have ce106 := bx101.cell
  have i13 : ¬ ((1 + totalM l : Nat) : Int) + (zs.length : Int) < 0 := by omega
  have i13b : ¬ (1 : Int) + (totalM l : Int) + (zs.length : Int) < 0 := by omega
  clear ce97 ce98
  go_wp2_with fail
  refine (eqIntSS_calls _ _ _ _ _ _ R R _ ow103 ow102 (by omega) HRL.out).mono ?_
  rintro e w14 ⟨rfl, b14⟩
  have sz107 := b14.size
  have bx108 := bx100.far b14
  have bx109 := bx101.far b14
  have ow110 := ow102.below b14
  have ow111 := ow103.below b14
  have hB112 := hB104.trans (b14.mono hB104.size)
  have ce113 := bx108.cell
  have ce114 := bx109.cell
  clear ce105 ce106
  go_wp2_with fail
  refine (markIntSS_calls w6.heap.size w7.heap.size _ R 1 _ ow111 (by omega) (by omega) (by omega)).mono ?_
  rintro e w15 ⟨rfl, o15, h15⟩
  have sz115 := h15.size
  have bx116 := bx108.only h15 (by omega)
  have bx117 := bx109.only h15 (by omega)
  have ow118 := ow110.only h15 (by omega)
  have hB119 := hB112.trans (h15.below (B := W.heap.size) (by omega) (by omega))
  have ce120 := bx116.cell
  have ce121 := bx117.cell
  clear ce113 ce114
  go_wp2_with fail
  refine (heldIntSS_calls w6.heap.size w7.heap.size _ R 1 _ o15 (by omega) (by omega) (by omega)).mono ?_
  rintro e w16 ⟨rfl, rfl⟩
  have i16 : ¬ (1 : Int) + ((totalSS R : Nat) : Int) < 0 := by omega
  go_wp2_with fail
  refine (toDictionary_calls A cap l _ ((hr.below hB119).more hB119.size) hn HSH.out).mono ?_
  rintro e w17 ⟨v17, rfl, o17, b17⟩
  obtain ⟨A17, k17, rfl, r17, -, -⟩ := o17.slice
  have sz122 := b17.size
  have bx123 := bx116.far b17
  have bx124 := bx117.far b17
  have ow125 := ow118.below b17
  have ow126 := o15.below b17
  have hB127 := hB119.trans (b17.mono hB119.size)
  have ce128 := bx123.cell
  have ce129 := bx124.cell
  clear ce120 ce121
  go_wp2_with fail
  refine (toIntS_calls sB cb zs _ ((hz.below hB127).more hB127.size) hzn).mono ?_
  rintro e w18 ⟨v18, rfl, o18, b18⟩
  obtain ⟨A18, k18, rfl, -, kc18, km18⟩ := o18.slice
  have sz130 := b18.size
  have bx131 := bx123.far b18
  have bx132 := bx124.far b18
  have ow133 := ow125.below b18
  have ow134 := ow126.below b18
  have ow135 := o17.below b18
  have hB136 := hB127.trans (b18.mono hB127.size)
  have ce137 := bx131.cell
  have ce138 := bx132.cell
  have m18 := Lib.hid (HM.out.below hB136)
  clear ce128 ce129
  go_wp2_with fail
  obtain ⟨A17y, k17y, hv17, rr17, -, -⟩ := ow135.slice
  simp only [Value.slice.injEq, true_and] at hv17
  obtain ⟨rfl, rfl⟩ := hv17
  refine (impl_AllReadings A17 A18 k17 k18 l zs most _ rr17 hn HSH.out m18.out (Reads.of_own o18.1) hzn kc18 km18).mono ?_
  rintro e w19 ⟨v19, rfl, o19, b19⟩
  rw [HR.out] at o19
  try rw [HDB.out]
  obtain ⟨A19, k19, rfl, -, -⟩ := o19.slice
  have sz139 := b19.size
  have bx140 := bx131.far b19
  have bx141 := bx132.far b19
  have ow142 := ow133.below b19
  have ow143 := ow134.below b19
  have hB144 := hB136.trans (b19.mono hB136.size)
  have ce145 := bx140.cell
  have ce146 := bx141.cell
  clear ce137 ce138
  go_wp2_with fail
  refine (eqIntSS_calls _ _ _ _ _ _ R R _ o19 ow142 (by omega) HRL.out).mono ?_
  rintro e w20 ⟨rfl, b20⟩
  have sz147 := b20.size
  have bx148 := bx140.far b20
  have bx149 := bx141.far b20
  have ow150 := ow142.below b20
  have ow151 := ow143.below b20
  have ow152 := o19.below b20
  have hB153 := hB144.trans (b20.mono hB144.size)
  have ce154 := bx148.cell
  have ce155 := bx149.cell
  clear ce145 ce146
  go_wp2_with fail
  refine (heldIntSS_calls w6.heap.size w7.heap.size _ R 1 _ ow151 (by omega) (by omega) (by omega)).mono ?_
  rintro e w21 ⟨rfl, rfl⟩
  go_wp2
  go_ret
  exact ⟨rfl, hB153⟩
end Go.Proofs.YtkclolejoijelaaGreatDoor
