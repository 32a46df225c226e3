/-
  The law FnExactAppendTurn returns true for every transcript, speaker and text: its walk over the contracts.
-/
import Derived.Test.YtffhbhlljdimbaaDoorAppendS
import Derived.Test.YtffhbhlljdimbaaDoorMarkTurn
import Derived.Test.YtffhbhlljdimbaaDoorIsValidTransW
namespace Go.Proofs.YtffhbhlljdimbaaDoor
open Go.RowKit
set_option linter.unusedVariables false
set_option maxRecDepth 100000

set_option maxHeartbeats 16000000 in
theorem law_AppendTurn (v0 : Value) (l : List TurnD) (sp tx : ByteArray) (W : World) (w0 : TransArg W v0 l) (hsp : sp.size ≤ 9223372036854775807) (htx : tx.size ≤ 9223372036854775807) (hm : MaxOk W) :
    Calls Tryd.prog 6 #[v0, .string sp, .string tx] W fun e W' => e = .returned (.bool true) ∧ Below W.heap.size W W' := by
  obtain ⟨A, cap, rfl, hr, hlc, hcm, hts⟩ := w0
  have hlm : l.length ≤ maxLen := Nat.le_trans hlc hcm
  have HT := Lib.hid hts
  have HM := Lib.hid hm
  clear hts hm
  have b0 : Below W.heap.size W (W.alloc (.cells #[.slice A l.length cap] 24)) := (Below.refl _ _).alloc (Nat.le_refl _) _
  have bA := Box.new W 24 (.slice A l.length cap)
  have z0 : W.heap.size < (W.alloc (.cells #[.slice A l.length cap] 24)).heap.size := by simp
  by_cases hs1 : sp.size ≤ 1048576
  case neg =>
    have i1 : (1048576 : Int) < (sp.size : Int) := by omega
    go_enter Tryd.func6, Tryd.ntmps6
    go_wp2
    go_ret
    exact ⟨rfl, b0⟩
  by_cases hs2 : tx.size ≤ 1048576
  case neg =>
    have i1 : ¬ (1048576 : Int) < (sp.size : Int) := by omega
    have i2 : (1048576 : Int) < (tx.size : Int) := by omega
    go_enter Tryd.func6, Tryd.ntmps6
    go_wp2
    go_ret
    exact ⟨rfl, b0⟩
  have cA := bA.cell
  go_enter Tryd.func6, Tryd.ntmps6
  go_wp2_with fail
  generalize hW0 : W.alloc (.cells #[.slice A l.length cap] 24) = wz at *
  clear hW0
  have s0 := b0.size
  refine (szTranscript_calls A cap l 1048576 _ ((hr.below b0).more s0) hlm HT.out (by omega) (by omega)).mono ?_
  rintro e w1 ⟨r, rfl, hrr, b1⟩
  have B1x := b0.trans (b1.mono s0)
  rcases hrr with hneg | ⟨hpos, hsm⟩
  · go_wp2
    go_ret
    exact ⟨rfl, B1x⟩
  obtain ⟨hn, hsh⟩ := short_of hsm (by omega)
  have HSH := Lib.hid hsh
  have i1 : ¬ r < 0 := by omega
  clear hsm hsh
  have sz1 := b1.size
  have bx2 := bA.far b1
  have hB3 := b0.trans (b1.mono b0.size)
  have ce4 := bx2.cell
  go_wp2_with fail
  refine (toTranscript_calls A cap l _ ((hr.below hB3).more hB3.size) hn).mono ?_
  rintro e w2 ⟨v2, rfl, o2, b2⟩
  obtain ⟨A2, k2, rfl, r2, -, -⟩ := o2.slice
  have sz5 := b2.size
  have bx6 := bx2.far b2
  have hB7 := hB3.trans (b2.mono hB3.size)
  have ce8 := bx6.cell
  clear ce4
  go_wp2_with fail
  refine (spec_AppendTurn A2 k2 l.length l sp tx _ rfl r2 (by omega) HSH.out hs1 hs2).mono ?_
  rintro e w3 ⟨v3, rfl, o3, b3⟩
  obtain ⟨A3, k3, rfl, -, -, -⟩ := o3.slice
  have sz9 := b3.size
  have bx10 := bx6.far b3
  have hB11 := hB7.trans (b3.mono hB7.size)
  have ce12 := bx10.cell
  have hN : (resT l sp tx).length ≤ 30 := resT_len l sp tx
  generalize hR : resT l sp tx = L at *
  have HR := Lib.hid hR
  clear hR
  have nb13 := Box.new w3 29 (.slice A3 L.length k3)
  have na14 : Below w3.heap.size w3 (w3.alloc (.cells #[.slice A3 L.length k3] 29)) := (Below.refl _ _).alloc (Nat.le_refl _) _
  have nz15 : (w3.alloc (.cells #[.slice A3 L.length k3] 29)).heap.size = w3.heap.size + 1 := by simp
  have sz16 := na14.size
  have bx17 := bx10.far na14
  have ow18 := o3.below na14
  have hB19 := hB11.trans (na14.mono hB11.size)
  have ce20 := bx17.cell
  have ce21 := nb13.cell
  clear ce8 ce12
  go_wp2_with fail
  generalize hWx3 : w3.alloc (.cells #[.slice A3 L.length k3] 29) = x3 at *
  clear hWx3
  refine (toTranscript_calls A cap l _ ((hr.below hB19).more hB19.size) hn).mono ?_
  rintro e w4 ⟨v4, rfl, o4, b4⟩
  obtain ⟨A4, k4, rfl, r4, -, -⟩ := o4.slice
  have sz22 := b4.size
  have bx23 := bx17.far b4
  have bx24 := nb13.far b4
  have ow25 := ow18.below b4
  have hB26 := hB19.trans (b4.mono hB19.size)
  have ce27 := bx23.cell
  have ce28 := bx24.cell
  have nb29 := Box.new w4 29 (.slice A4 l.length k4)
  have na30 : Below w4.heap.size w4 (w4.alloc (.cells #[.slice A4 l.length k4] 29)) := (Below.refl _ _).alloc (Nat.le_refl _) _
  have nz31 : (w4.alloc (.cells #[.slice A4 l.length k4] 29)).heap.size = w4.heap.size + 1 := by simp
  have sz32 := na30.size
  have bx33 := bx23.far na30
  have bx34 := bx24.far na30
  have ow35 := ow25.below na30
  have ow36 := o4.below na30
  have hB37 := hB26.trans (na30.mono hB26.size)
  have ce38 := bx33.cell
  have ce39 := bx34.cell
  have ce40 := nb29.cell
  have m4 := Lib.hid (HM.out.below hB37)
  clear ce20 ce21 ce27 ce28
  go_wp2_with fail
  generalize hWx4 : w4.alloc (.cells #[.slice A4 l.length k4] 29) = x4 at *
  clear hWx4
  refine (impl_AppendTurn A4 k4 l.length l sp tx _ rfl (Reads.of_own ow36.1) (by omega) HSH.out hs1 hs2 m4.out).mono ?_
  rintro e w5 ⟨v5, rfl, o5, b5⟩
  rw [HR.out] at o5
  obtain ⟨A5, k5, rfl, -, -, -⟩ := o5.slice
  have sz41 := b5.size
  have bx42 := bx33.far b5
  have bx43 := bx34.far b5
  have bx44 := nb29.far b5
  have ow45 := ow35.below b5
  have ow46 := ow36.below b5
  have hB47 := hB37.trans (b5.mono hB37.size)
  have ce48 := bx42.cell
  have ce49 := bx43.cell
  have ce50 := bx44.cell
  have nb51 := Box.new w5 29 (.slice A5 L.length k5)
  have na52 : Below w5.heap.size w5 (w5.alloc (.cells #[.slice A5 L.length k5] 29)) := (Below.refl _ _).alloc (Nat.le_refl _) _
  have nz53 : (w5.alloc (.cells #[.slice A5 L.length k5] 29)).heap.size = w5.heap.size + 1 := by simp
  have sz54 := na52.size
  have bx55 := bx42.far na52
  have bx56 := bx43.far na52
  have bx57 := bx44.far na52
  have ow58 := ow45.below na52
  have ow59 := ow46.below na52
  have ow60 := o5.below na52
  have hB61 := hB47.trans (na52.mono hB47.size)
  have ce62 := bx55.cell
  have ce63 := bx56.cell
  have ce64 := bx57.cell
  have ce65 := nb51.cell
  clear ce38 ce39 ce40 ce48 ce49 ce50
  go_wp2_with fail
  generalize hWx5 : w5.alloc (.cells #[.slice A5 L.length k5] 29) = x5 at *
  clear hWx5
  refine (eqTranscript_calls A5 A3 k5 k3 L L _ (Reads.of_own ow60.1) (Reads.of_own ow58.1) (by omega)).mono ?_
  rintro e w6 ⟨rfl, b6⟩
  have sz66 := b6.size
  have bx67 := bx55.far b6
  have bx68 := bx56.far b6
  have bx69 := bx57.far b6
  have bx70 := nb51.far b6
  have ow71 := ow58.below b6
  have ow72 := ow59.below b6
  have ow73 := ow60.below b6
  have hB74 := hB61.trans (b6.mono hB61.size)
  have ce75 := bx67.cell
  have ce76 := bx68.cell
  have ce77 := bx69.cell
  have ce78 := bx70.cell
  have ra : ∀ wx, Below w6.heap.size w6 wx → Reads wx wx.heap.size 2 A l.length (turnsV l) := fun wx hx => (hr.below (hB74.trans (hx.mono hB74.size))).more (by have := hx.size; have := hB74.size; omega)
  have rx : ∀ wx, Below w6.heap.size w6 wx → Reads wx wx.heap.size 2 A4 l.length (turnsV l) := fun wx hx => Reads.of_own (ow72.below hx).1
  have RA := Lib.hid ra
  have RX := Lib.hid rx
  clear ra rx
  have hp6 : (⟨W.heap.size, 0, none⟩ : Addr).block < w6.heap.size := by show W.heap.size < _; omega
  have hq6 : (⟨w4.heap.size, 0, none⟩ : Addr).block < w6.heap.size := by show w4.heap.size < _; omega
  have S0 : w6.cell? ⟨W.heap.size, 0, none⟩ = some (.slice A l.length cap) ∧ w6.cell? ⟨w4.heap.size, 0, none⟩ = some (.slice A4 l.length k4) ∧ Below w6.heap.size w6 w6 := ⟨bx67.cell, bx69.cell, Below.refl _ _⟩
  clear ce62 ce63 ce64 ce65
  go_wp2
  go_region_held3 (fun w' => w'.cell? ⟨W.heap.size, 0, none⟩ = some (.slice A l.length cap) ∧ w'.cell? ⟨w4.heap.size, 0, none⟩ = some (.slice A4 l.length k4) ∧ Below w6.heap.size w6 w') (first | exact S0 | exact two_drew S0 | assumption | exact two_step hp6 hq6 (by assumption) (by assumption) | exact two_drew (by assumption)) (first | (go_at_call 16; refine (toTranscript_calls A cap l _ (RA.out _ (two_below (by assumption))) hn).mono ?_; rintro e w7 ⟨v7, rfl, oc, b7⟩; obtain ⟨Ac, kc, rfl, rc, -, -⟩ := oc.slice) | (go_at_call 18; refine (eqTranscript_calls A4 Ac k4 kc l l _ (RX.out _ (two_below (by assumption))) (by first | exact rc | exact rc.drew | exact rc.drew.drew) hn).mono ?_; rintro e w8 ⟨rfl, b8⟩))
  have bz8 : Below w6.heap.size w6 w8 := two_below (by assumption)
  clear S0
  have sz79 := bz8.size
  have bx80 := bx67.far bz8
  have bx81 := bx68.far bz8
  have bx82 := bx69.far bz8
  have bx83 := bx70.far bz8
  have ow84 := ow71.below bz8
  have ow85 := ow72.below bz8
  have ow86 := ow73.below bz8
  have hB87 := hB74.trans (bz8.mono hB74.size)
  have ce88 := bx80.cell
  have ce89 := bx81.cell
  have ce90 := bx82.cell
  have ce91 := bx83.cell
  clear ce75 ce76 ce77 ce78
  go_wp2_with fail
  refine (markTranscript_calls x3.heap.size w4.heap.size _ l 1 _ ow85 (by omega) (by omega) (by omega)).mono ?_
  rintro e w9 ⟨rfl, o9, h9⟩
  have sz92 := h9.size
  have bx93 := bx80.only h9 (by omega)
  have bx94 := bx81.only h9 (by omega)
  have bx95 := bx82.only h9 (by omega)
  have bx96 := bx83.only h9 (by omega)
  have ow97 := ow84.only h9 (by omega)
  have ow98 := ow86.only h9 (by omega)
  have hB99 := hB87.trans (h9.below (B := W.heap.size) (by omega) (by omega))
  have ce100 := bx93.cell
  have ce101 := bx94.cell
  have ce102 := bx95.cell
  have ce103 := bx96.cell
  have i9 : ¬ (1 : Int) + 2 * (l.length : Int) < 0 := by omega
  clear ce88 ce89 ce90 ce91
  go_wp2_with fail
  refine (eqTranscript_calls A5 A3 k5 k3 L L _ (Reads.of_own ow98.1) (Reads.of_own ow97.1) (by omega)).mono ?_
  rintro e w10 ⟨rfl, b10⟩
  have sz104 := b10.size
  have bx105 := bx93.far b10
  have bx106 := bx94.far b10
  have bx107 := bx95.far b10
  have bx108 := bx96.far b10
  have ow109 := ow97.below b10
  have ow110 := ow98.below b10
  have hB111 := hB99.trans (b10.mono hB99.size)
  have ce112 := bx105.cell
  have ce113 := bx106.cell
  have ce114 := bx107.cell
  have ce115 := bx108.cell
  clear ce100 ce101 ce102 ce103
  go_wp2_with fail
  refine (markTranscript_calls x4.heap.size w5.heap.size _ L 1 _ ow110 (by omega) (by omega) (by omega)).mono ?_
  rintro e w11 ⟨rfl, o11, h11⟩
  have sz116 := h11.size
  have bx117 := bx105.only h11 (by omega)
  have bx118 := bx106.only h11 (by omega)
  have bx119 := bx107.only h11 (by omega)
  have bx120 := bx108.only h11 (by omega)
  have ow121 := ow109.only h11 (by omega)
  have hB122 := hB111.trans (h11.below (B := W.heap.size) (by omega) (by omega))
  have ce123 := bx117.cell
  have ce124 := bx118.cell
  have ce125 := bx119.cell
  have ce126 := bx120.cell
  clear ce112 ce113 ce114 ce115
  go_wp2_with fail
  refine (heldTranscript_calls A5 k5 L.length 1 _ (Reads.of_own o11.1) (by omega) (by omega)).mono ?_
  rintro e w12 ⟨rfl, b12⟩
  have sz127 := b12.size
  have bx128 := bx117.far b12
  have bx129 := bx118.far b12
  have bx130 := bx119.far b12
  have bx131 := bx120.far b12
  have ow132 := ow121.below b12
  have ow133 := o11.below b12
  have hB134 := hB122.trans (b12.mono hB122.size)
  have ce135 := bx128.cell
  have ce136 := bx129.cell
  have ce137 := bx130.cell
  have ce138 := bx131.cell
  have i12 : ¬ (1 : Int) + 2 * (L.length : Int) < 0 := by omega
  clear ce123 ce124 ce125 ce126
  go_wp2_with fail
  refine (toTranscript_calls A cap l _ ((hr.below hB134).more hB134.size) hn).mono ?_
  rintro e w13 ⟨v13, rfl, o13, b13⟩
  obtain ⟨A13, k13, rfl, r13, -, -⟩ := o13.slice
  have sz139 := b13.size
  have bx140 := bx128.far b13
  have bx141 := bx129.far b13
  have bx142 := bx130.far b13
  have bx143 := bx131.far b13
  have ow144 := ow132.below b13
  have ow145 := ow133.below b13
  have hB146 := hB134.trans (b13.mono hB134.size)
  have ce147 := bx140.cell
  have ce148 := bx141.cell
  have ce149 := bx142.cell
  have ce150 := bx143.cell
  have m13 := Lib.hid (HM.out.below hB146)
  clear ce135 ce136 ce137 ce138
  go_wp2_with fail
  refine (impl_AppendTurn A13 k13 l.length l sp tx _ rfl r13 (by omega) HSH.out hs1 hs2 m13.out).mono ?_
  rintro e w14 ⟨v14, rfl, o14, b14⟩
  rw [HR.out] at o14
  obtain ⟨A14, k14, rfl, -, -, -⟩ := o14.slice
  have sz151 := b14.size
  have bx152 := bx140.far b14
  have bx153 := bx141.far b14
  have bx154 := bx142.far b14
  have bx155 := bx143.far b14
  have ow156 := ow144.below b14
  have ow157 := ow145.below b14
  have hB158 := hB146.trans (b14.mono hB146.size)
  have ce159 := bx152.cell
  have ce160 := bx153.cell
  have ce161 := bx154.cell
  have ce162 := bx155.cell
  have nb163 := Box.new w14 29 (.slice A14 L.length k14)
  have na164 : Below w14.heap.size w14 (w14.alloc (.cells #[.slice A14 L.length k14] 29)) := (Below.refl _ _).alloc (Nat.le_refl _) _
  have nz165 : (w14.alloc (.cells #[.slice A14 L.length k14] 29)).heap.size = w14.heap.size + 1 := by simp
  have sz166 := na164.size
  have bx167 := bx152.far na164
  have bx168 := bx153.far na164
  have bx169 := bx154.far na164
  have bx170 := bx155.far na164
  have ow171 := ow156.below na164
  have ow172 := ow157.below na164
  have ow173 := o14.below na164
  have hB174 := hB158.trans (na164.mono hB158.size)
  have ce175 := bx167.cell
  have ce176 := bx168.cell
  have ce177 := bx169.cell
  have ce178 := bx170.cell
  have ce179 := nb163.cell
  clear ce147 ce148 ce149 ce150 ce159 ce160 ce161 ce162
  go_wp2_with fail
  generalize hWx14 : w14.alloc (.cells #[.slice A14 L.length k14] 29) = x14 at *
  clear hWx14
  refine (eqTranscript_calls A14 A3 k14 k3 L L _ (Reads.of_own ow173.1) (Reads.of_own ow171.1) (by omega)).mono ?_
  rintro e w15 ⟨rfl, b15⟩
  have sz180 := b15.size
  have bx181 := bx167.far b15
  have bx182 := bx168.far b15
  have bx183 := bx169.far b15
  have bx184 := bx170.far b15
  have bx185 := nb163.far b15
  have ow186 := ow171.below b15
  have ow187 := ow172.below b15
  have ow188 := ow173.below b15
  have hB189 := hB174.trans (b15.mono hB174.size)
  have ce190 := bx181.cell
  have ce191 := bx182.cell
  have ce192 := bx183.cell
  have ce193 := bx184.cell
  have ce194 := bx185.cell
  clear ce175 ce176 ce177 ce178 ce179
  go_wp2_with fail
  refine (heldTranscript_calls A5 k5 L.length 1 _ (Reads.of_own ow187.1) (by omega) (by omega)).mono ?_
  rintro e w16 ⟨rfl, b16⟩
  have sz195 := b16.size
  have bx196 := bx181.far b16
  have bx197 := bx182.far b16
  have bx198 := bx183.far b16
  have bx199 := bx184.far b16
  have bx200 := bx185.far b16
  have ow201 := ow186.below b16
  have ow202 := ow187.below b16
  have ow203 := ow188.below b16
  have hB204 := hB189.trans (b16.mono hB189.size)
  have ce205 := bx196.cell
  have ce206 := bx197.cell
  have ce207 := bx198.cell
  have ce208 := bx199.cell
  have ce209 := bx200.cell
  clear ce190 ce191 ce192 ce193 ce194
  go_wp2
  go_ret
  exact ⟨rfl, hB204⟩
end Go.Proofs.YtffhbhlljdimbaaDoor
