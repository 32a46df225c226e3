/-
  The law FnExactSpeakerWords returns true for every transcript: its walk over the contracts.
-/
import Derived.Test.YtnndkdkmhjpcpaaDoorSpeakI
import Derived.Test.YtnndkdkmhjpcpaaDoorStrArg
import Derived.Test.YtnndkdkmhjpcpaaDoorInts
import Derived.Test.YtnndkdkmhjpcpaaDoorMarkTurn
import Derived.Test.YtnndkdkmhjpcpaaDoorIsValidTransW
namespace Go.Proofs.YtnndkdkmhjpcpaaDoor
open Go.RowKit
set_option linter.unusedVariables false
set_option maxRecDepth 100000

set_option maxHeartbeats 16000000 in
theorem law_SpeakerWords (v0 : Value) (l : List TurnD) (W : World) (w0 : TransArg W v0 l) (hm : MaxOk W) :
    Calls Tryd.prog 5 #[v0] W fun e W' => e = .returned (.bool true) ∧ Below W.heap.size W W' := by
  obtain ⟨A, cap, rfl, hr, hlc, hcm, hts⟩ := w0
  have hlm : l.length ≤ maxLen := Nat.le_trans hlc hcm
  have HT := Lib.hid hts
  have HM := Lib.hid hm
  clear hts hm
  have b0 : Below W.heap.size W (W.alloc (.cells #[.slice A l.length cap] 57)) := (Below.refl _ _).alloc (Nat.le_refl _) _
  have bA := Box.new W 57 (.slice A l.length cap)
  have z0 : W.heap.size < (W.alloc (.cells #[.slice A l.length cap] 57)).heap.size := by simp
  have cA := bA.cell
  go_enter Tryd.func5, Tryd.ntmps5
  go_wp2_with fail
  generalize hW0 : W.alloc (.cells #[.slice A l.length cap] 57) = wz at *
  clear hW0
  have s0 := b0.size
  refine (szTranscript_calls A cap l 1048576 _ ((hr.below b0).more s0) hlm HT.out (by omega) (by omega)).mono ?_
  rintro e w1 ⟨r, rfl, hrr, b1⟩
  have B1x := b0.trans (b1.mono s0)
  rcases hrr with hneg | ⟨hpos, hsm⟩
  · go_wp2
    go_ret
    exact ⟨rfl, B1x⟩
  obtain ⟨hn, hsh⟩ := short_of hsm (by omega)
  have HSH := Lib.hid hsh
  have i1 : ¬ r < 0 := by omega
  clear hsm hsh
  have sz1 := b1.size
  have bx2 := bA.far b1
  have hB3 := b0.trans (b1.mono b0.size)
  have ce4 := bx2.cell
  go_wp2_with fail
  refine (toTranscript_calls A cap l _ ((hr.below hB3).more hB3.size) hn).mono ?_
  rintro e w2 ⟨v2, rfl, o2, b2⟩
  obtain ⟨A2, k2, rfl, r2, -, -⟩ := o2.slice
  have sz5 := b2.size
  have bx6 := bx2.far b2
  have hB7 := hB3.trans (b2.mono hB3.size)
  have ce8 := bx6.cell
  clear ce4
  go_wp2_with fail
  refine (spec_SpeakerWords A2 k2 l _ r2 hn HSH.out).mono ?_
  rintro e w3 ⟨v3, u3, rfl, o3, p3, b3⟩
  obtain ⟨A3, k3, rfl, -, -, -⟩ := o3.slice
  obtain ⟨C3, j3, rfl, -, -, -⟩ := p3.slice
  have sz9 := b3.size
  have bx10 := bx6.far b3
  have hB11 := hB7.trans (b3.mono hB7.size)
  have ce12 := bx10.cell
  have hN : (spkN l).length ≤ 30 := spkN_len l
  have hNC : (spkC l).length ≤ 30 := by rw [spkC_len]; exact spkN_len l
  generalize hR : spkN l = L at *
  generalize hS : spkC l = M at *
  have HR := Lib.hid hR
  have HS := Lib.hid hS
  clear hR hS
  clear ce8
  go_wp2_with fail
  refine (toTranscript_calls A cap l _ ((hr.below hB11).more hB11.size) hn).mono ?_
  rintro e w4 ⟨v4, rfl, o4, b4⟩
  obtain ⟨A4, k4, rfl, r4, -, -⟩ := o4.slice
  have sz13 := b4.size
  have bx14 := bx10.far b4
  have ow15 := o3.below b4
  have ow16 := p3.below b4
  have hB17 := hB11.trans (b4.mono hB11.size)
  have ce18 := bx14.cell
  have nb19 := Box.new w4 26 (.slice A4 l.length k4)
  have na20 : Below w4.heap.size w4 (w4.alloc (.cells #[.slice A4 l.length k4] 26)) := (Below.refl _ _).alloc (Nat.le_refl _) _
  have nz21 : (w4.alloc (.cells #[.slice A4 l.length k4] 26)).heap.size = w4.heap.size + 1 := by simp
  have sz22 := na20.size
  have bx23 := bx14.far na20
  have ow24 := ow15.below na20
  have ow25 := ow16.below na20
  have ow26 := o4.below na20
  have hB27 := hB17.trans (na20.mono hB17.size)
  have ce28 := bx23.cell
  have ce29 := nb19.cell
  have m4 := Lib.hid (HM.out.below hB27)
  clear ce12 ce18
  go_wp2_with fail
  generalize hWx4 : w4.alloc (.cells #[.slice A4 l.length k4] 26) = x4 at *
  clear hWx4
  refine (impl_SpeakerWords A4 k4 l _ (Reads.of_own ow26.1) hn HSH.out m4.out).mono ?_
  rintro e w5 ⟨v5, u5, rfl, o5x, p5x, b5⟩
  rw [HR.out] at o5x
  rw [HS.out] at p5x
  obtain ⟨ga, gb, o5, p5, ha5, hb5, hab5⟩ := own_two o5x p5x (by decide)
  clear o5x p5x
  obtain ⟨A5, k5, rfl, -, -, -⟩ := o5.slice
  obtain ⟨C5, j5, rfl, -, -, -⟩ := p5.slice
  have sz30 := b5.size
  have bx31 := bx23.far b5
  have bx32 := nb19.far b5
  have ow33 := ow24.below b5
  have ow34 := ow25.below b5
  have ow35 := ow26.below b5
  have hB36 := hB27.trans (b5.mono hB27.size)
  have ce37 := bx31.cell
  have ce38 := bx32.cell
  clear ce28 ce29
  go_wp2_with fail
  refine (eqStringS_calls A5 A3 k5 k3 L L _ (Reads.of_own o5.1) (Reads.of_own ow33.1) (by omega)).mono ?_
  rintro e w6 ⟨rfl, b6⟩
  have sz39 := b6.size
  have bx40 := bx31.far b6
  have bx41 := bx32.far b6
  have ow42 := ow33.below b6
  have ow43 := ow34.below b6
  have ow44 := ow35.below b6
  have ow45 := o5.below b6
  have ow46 := p5.below b6
  have hB47 := hB36.trans (b6.mono hB36.size)
  have ce48 := bx40.cell
  have ce49 := bx41.cell
  clear ce37 ce38
  go_wp2_with fail
  refine (eqIntS_calls C5 C3 j5 j3 M M _ (Reads.of_own ow46.1) (Reads.of_own ow43.1) (by omega)).mono ?_
  rintro e w6y ⟨rfl, b6y⟩
  have sz50 := b6y.size
  have bx51 := bx40.far b6y
  have bx52 := bx41.far b6y
  have ow53 := ow42.below b6y
  have ow54 := ow43.below b6y
  have ow55 := ow44.below b6y
  have ow56 := ow45.below b6y
  have ow57 := ow46.below b6y
  have hB58 := hB47.trans (b6y.mono hB47.size)
  have ce59 := bx51.cell
  have ce60 := bx52.cell
  have ra : ∀ wx, Below w6y.heap.size w6y wx → Reads wx wx.heap.size 2 A l.length (turnsV l) := fun wx hx => (hr.below (hB58.trans (hx.mono hB58.size))).more (by have := hx.size; have := hB58.size; omega)
  have rx : ∀ wx, Below w6y.heap.size w6y wx → Reads wx wx.heap.size 2 A4 l.length (turnsV l) := fun wx hx => Reads.of_own (ow55.below hx).1
  have RA := Lib.hid ra
  have RX := Lib.hid rx
  clear ra rx
  have hp6 : (⟨W.heap.size, 0, none⟩ : Addr).block < w6y.heap.size := by show W.heap.size < _; omega
  have hq6 : (⟨w4.heap.size, 0, none⟩ : Addr).block < w6y.heap.size := by show w4.heap.size < _; omega
  have S0 : w6y.cell? ⟨W.heap.size, 0, none⟩ = some (.slice A l.length cap) ∧ w6y.cell? ⟨w4.heap.size, 0, none⟩ = some (.slice A4 l.length k4) ∧ Below w6y.heap.size w6y w6y := ⟨bx51.cell, bx52.cell, Below.refl _ _⟩
  clear ce48 ce49
  go_wp2
  go_region_held3 (fun w' => w'.cell? ⟨W.heap.size, 0, none⟩ = some (.slice A l.length cap) ∧ w'.cell? ⟨w4.heap.size, 0, none⟩ = some (.slice A4 l.length k4) ∧ Below w6y.heap.size w6y w') (first | exact S0 | exact two_drew S0 | assumption | exact two_step hp6 hq6 (by assumption) (by assumption) | exact two_drew (by assumption)) (first | (go_at_call 27; refine (toTranscript_calls A cap l _ (RA.out _ (two_below (by assumption))) hn).mono ?_; rintro e w7 ⟨v7, rfl, oc, b7⟩; obtain ⟨Ac, kc, rfl, rc, -, -⟩ := oc.slice) | (go_at_call 30; refine (eqTranscript_calls A4 Ac k4 kc l l _ (RX.out _ (two_below (by assumption))) (by first | exact rc | exact rc.drew | exact rc.drew.drew) hn).mono ?_; rintro e w8 ⟨rfl, b8⟩))
  have bz8 : Below w6y.heap.size w6y w8 := two_below (by assumption)
  clear S0
  have sz61 := bz8.size
  have bx62 := bx51.far bz8
  have bx63 := bx52.far bz8
  have ow64 := ow53.below bz8
  have ow65 := ow54.below bz8
  have ow66 := ow55.below bz8
  have ow67 := ow56.below bz8
  have ow68 := ow57.below bz8
  have hB69 := hB58.trans (bz8.mono hB58.size)
  have ce70 := bx62.cell
  have ce71 := bx63.cell
  clear ce59 ce60
  go_wp2_with fail
  refine (markTranscript_calls w3.heap.size w4.heap.size _ l 1 _ ow66 (by omega) (by omega) (by omega)).mono ?_
  rintro e w9 ⟨rfl, o9, h9⟩
  have sz72 := h9.size
  have bx73 := bx62.only h9 (by omega)
  have bx74 := bx63.only h9 (by omega)
  have ow75 := ow64.only h9 (by omega)
  have ow76 := ow65.only h9 (by omega)
  have ow77 := ow67.only h9 (by omega)
  have ow78 := ow68.only h9 (by omega)
  have hB79 := hB69.trans (h9.below (B := W.heap.size) (by omega) (by omega))
  have ce80 := bx73.cell
  have ce81 := bx74.cell
  have i9 : ¬ (1 : Int) + 2 * (l.length : Int) < 0 := by omega
  clear ce70 ce71
  go_wp2_with fail
  refine (eqStringS_calls A5 A3 k5 k3 L L _ (Reads.of_own ow77.1) (Reads.of_own ow75.1) (by omega)).mono ?_
  rintro e w10 ⟨rfl, b10⟩
  have sz82 := b10.size
  have bx83 := bx73.far b10
  have bx84 := bx74.far b10
  have ow85 := ow75.below b10
  have ow86 := ow76.below b10
  have ow87 := ow77.below b10
  have ow88 := ow78.below b10
  have hB89 := hB79.trans (b10.mono hB79.size)
  have ce90 := bx83.cell
  have ce91 := bx84.cell
  clear ce80 ce81
  go_wp2_with fail
  refine (eqIntS_calls C5 C3 j5 j3 M M _ (Reads.of_own ow88.1) (Reads.of_own ow86.1) (by omega)).mono ?_
  rintro e w10y ⟨rfl, b10y⟩
  have sz92 := b10y.size
  have bx93 := bx83.far b10y
  have bx94 := bx84.far b10y
  have ow95 := ow85.below b10y
  have ow96 := ow86.below b10y
  have ow97 := ow87.below b10y
  have ow98 := ow88.below b10y
  have hB99 := hB89.trans (b10y.mono hB89.size)
  have ce100 := bx93.cell
  have ce101 := bx94.cell
  clear ce90 ce91
  go_wp2_with fail
  refine (markStringS_calls ga (ga + 1) _ L.length _ 1 _ ow97 (by omega) (by omega)).mono ?_
  rintro e w11 ⟨rfl, o11, h11⟩
  have sz102 := h11.size
  have bx103 := bx93.only h11 (by omega)
  have bx104 := bx94.only h11 (by omega)
  have ow105 := ow95.only h11 (by omega)
  have ow106 := ow96.only h11 (by omega)
  have ow107 := ow98.only h11 (by omega)
  have hB108 := hB99.trans (h11.below (B := W.heap.size) (by omega) (by omega))
  have ce109 := bx103.cell
  have ce110 := bx104.cell
  clear ce100 ce101
  go_wp2_with fail
  refine (markIntS_calls gb (gb + 1) _ M.length _ (((1 : Nat) : Int) + (L.length : Int)) _ ow107 (by omega) (by omega)).mono ?_
  rintro e w11y ⟨rfl, p11, h11y⟩
  have sz111 := h11y.size
  have bx112 := bx103.only h11y (by omega)
  have bx113 := bx104.only h11y (by omega)
  have ow114 := ow105.only h11y (by omega)
  have ow115 := ow106.only h11y (by omega)
  have ow116 := o11.only h11y (by omega)
  have hB117 := hB108.trans (h11y.below (B := W.heap.size) (by omega) (by omega))
  have ce118 := bx112.cell
  have ce119 := bx113.cell
  have i12 : ¬ (1 : Int) + (L.length : Int) < 0 := by omega
  have i13 : ¬ (1 : Int) + (L.length : Int) + (M.length : Int) < 0 := by omega
  clear ce109 ce110
  go_wp2_with fail
  refine (heldStringS_calls A5 k5 L.length 1 _ (Reads.of_own ow116.1) (by omega) (by omega)).mono ?_
  rintro e w12 ⟨rfl, b12⟩
  have sz120 := b12.size
  have bx121 := bx112.far b12
  have bx122 := bx113.far b12
  have ow123 := ow114.below b12
  have ow124 := ow115.below b12
  have ow125 := ow116.below b12
  have ow126 := p11.below b12
  have hB127 := hB117.trans (b12.mono hB117.size)
  have ce128 := bx121.cell
  have ce129 := bx122.cell
  clear ce118 ce119
  go_wp2_with fail
  refine (heldIntS_calls C5 j5 M.length (((1 : Nat) : Int) + (L.length : Int)) _ (Reads.of_own ow126.1) (by omega) (by omega)).mono ?_
  rintro e w12y ⟨rfl, rfl⟩
  go_wp2_with fail
  refine (toTranscript_calls A cap l _ ((hr.below hB127).more hB127.size) hn).mono ?_
  rintro e w13 ⟨v13, rfl, o13, b13⟩
  obtain ⟨A13, k13, rfl, r13, -, -⟩ := o13.slice
  have sz130 := b13.size
  have bx131 := bx121.far b13
  have bx132 := bx122.far b13
  have ow133 := ow123.below b13
  have ow134 := ow124.below b13
  have ow135 := ow125.below b13
  have ow136 := ow126.below b13
  have hB137 := hB127.trans (b13.mono hB127.size)
  have ce138 := bx131.cell
  have ce139 := bx132.cell
  have m13 := Lib.hid (HM.out.below hB137)
  clear ce128 ce129
  go_wp2_with fail
  refine (impl_SpeakerWords A13 k13 l _ r13 hn HSH.out m13.out).mono ?_
  rintro e w14 ⟨v14, u14, rfl, o14, p14, b14⟩
  rw [HR.out] at o14
  rw [HS.out] at p14
  obtain ⟨A14, k14, rfl, -, -, -⟩ := o14.slice
  obtain ⟨C14, j14, rfl, -, -, -⟩ := p14.slice
  have sz140 := b14.size
  have bx141 := bx131.far b14
  have bx142 := bx132.far b14
  have ow143 := ow133.below b14
  have ow144 := ow134.below b14
  have ow145 := ow135.below b14
  have ow146 := ow136.below b14
  have hB147 := hB137.trans (b14.mono hB137.size)
  have ce148 := bx141.cell
  have ce149 := bx142.cell
  clear ce138 ce139
  go_wp2_with fail
  refine (eqStringS_calls A14 A3 k14 k3 L L _ (Reads.of_own o14.1) (Reads.of_own ow143.1) (by omega)).mono ?_
  rintro e w15 ⟨rfl, b15⟩
  have sz150 := b15.size
  have bx151 := bx141.far b15
  have bx152 := bx142.far b15
  have ow153 := ow143.below b15
  have ow154 := ow144.below b15
  have ow155 := ow145.below b15
  have ow156 := ow146.below b15
  have ow157 := o14.below b15
  have ow158 := p14.below b15
  have hB159 := hB147.trans (b15.mono hB147.size)
  have ce160 := bx151.cell
  have ce161 := bx152.cell
  clear ce148 ce149
  go_wp2_with fail
  refine (eqIntS_calls C14 C3 j14 j3 M M _ (Reads.of_own ow158.1) (Reads.of_own ow154.1) (by omega)).mono ?_
  rintro e w15y ⟨rfl, b15y⟩
  have sz162 := b15y.size
  have bx163 := bx151.far b15y
  have bx164 := bx152.far b15y
  have ow165 := ow153.below b15y
  have ow166 := ow154.below b15y
  have ow167 := ow155.below b15y
  have ow168 := ow156.below b15y
  have ow169 := ow157.below b15y
  have ow170 := ow158.below b15y
  have hB171 := hB159.trans (b15y.mono hB159.size)
  have ce172 := bx163.cell
  have ce173 := bx164.cell
  clear ce160 ce161
  go_wp2_with fail
  refine (heldStringS_calls A5 k5 L.length 1 _ (Reads.of_own ow167.1) (by omega) (by omega)).mono ?_
  rintro e w16 ⟨rfl, b16⟩
  have sz174 := b16.size
  have bx175 := bx163.far b16
  have bx176 := bx164.far b16
  have ow177 := ow165.below b16
  have ow178 := ow166.below b16
  have ow179 := ow167.below b16
  have ow180 := ow168.below b16
  have ow181 := ow169.below b16
  have ow182 := ow170.below b16
  have hB183 := hB171.trans (b16.mono hB171.size)
  have ce184 := bx175.cell
  have ce185 := bx176.cell
  clear ce172 ce173
  go_wp2_with fail
  refine (heldIntS_calls C5 j5 M.length (((1 : Nat) : Int) + (L.length : Int)) _ (Reads.of_own ow180.1) (by omega) (by omega)).mono ?_
  rintro e w16y ⟨rfl, rfl⟩
  go_wp2
  go_ret
  exact ⟨rfl, hB183⟩
end Go.Proofs.YtnndkdkmhjpcpaaDoor
