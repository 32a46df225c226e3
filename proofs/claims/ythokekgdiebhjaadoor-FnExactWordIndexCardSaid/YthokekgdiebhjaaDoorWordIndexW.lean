/-
  The law FnExactWordIndex returns true for every transcript: its walk over the contracts.
-/
import Derived.Test.YthokekgdiebhjaaDoorIdxI
import Derived.Test.YthokekgdiebhjaaDoorIdxMw
import Derived.Test.YthokekgdiebhjaaDoorBase
import Derived.Test.YthokekgdiebhjaaDoorMarkTurn
import Derived.Test.YthokekgdiebhjaaDoorIsValidTransW
namespace Go.Proofs.YthokekgdiebhjaaDoor
open Go.RowKit
set_option linter.unusedVariables false
set_option maxRecDepth 100000

theorem evL_len {l : List TurnD} (h : transB l = true) : (evT l l.length).length ≤ 1200 := by
  have h1 := evT_len h l.length
  have h2 := trans_len h
  omega
theorem indexL_len (l : List TurnD) : (indexL l).length ≤ 1200 := by
  unfold indexL
  split
  · next h =>
    unfold idxE
    rw [idxW_len]
    exact Nat.le_trans (namesE_len _) (evL_len h)
  · simp
theorem indexL_two (l : List TurnD) : ∀ c ∈ indexL l, c.2.length ≤ 1200 := by
  unfold indexL
  split
  · next h =>
    intro c hc
    unfold idxE idxW at hc
    obtain ⟨x, -, rfl⟩ := List.mem_map.1 hc
    exact Nat.le_trans (turnsE_len _ _) (evL_len h)
  · intro c hc
    cases hc
theorem totI_len {L : List IdxD} {B : Nat} (h : ∀ c ∈ L, c.2.length ≤ B) : totI L ≤ L.length * (B + 1) := by
  induction L with
  | nil => simp [totI]
  | cons c L ih =>
    have h1 := ih fun x hx => h x (by simp [hx])
    have h2 := h c (by simp)
    simp only [totI, List.map_cons, List.sum_cons, List.length_cons, Nat.add_mul] at h1 ⊢
    omega

set_option maxHeartbeats 16000000 in
theorem law_WordIndex (v0 : Value) (l : List TurnD) (W : World) (w0 : TransArg W v0 l) (hm : MaxOk W) :
    Calls Tryd.prog 4 #[v0] W fun e W' => e = .returned (.bool true) ∧ Below W.heap.size W W' := by
  obtain ⟨A, cap, rfl, hr, hlc, hcm, hts⟩ := w0
  have hlm : l.length ≤ maxLen := Nat.le_trans hlc hcm
  have HT := Lib.hid hts
  have HM := Lib.hid hm
  clear hts hm
  have b0 : Below W.heap.size W (W.alloc (.cells #[.slice A l.length cap] 42)) := (Below.refl _ _).alloc (Nat.le_refl _) _
  have bA := Box.new W 42 (.slice A l.length cap)
  have z0 : W.heap.size < (W.alloc (.cells #[.slice A l.length cap] 42)).heap.size := by simp
  have cA := bA.cell
  go_enter Tryd.func4, Tryd.ntmps4
  go_wp2_with fail
  generalize hW0 : W.alloc (.cells #[.slice A l.length cap] 42) = wz at *
  clear hW0
  have s0 := b0.size
  refine (szTranscript_calls A cap l 1048576 _ ((hr.below b0).more s0) hlm HT.out (by omega) (by omega)).mono ?_
  rintro e w1 ⟨r, rfl, hrr, b1⟩
  have B1x := b0.trans (b1.mono s0)
  rcases hrr with hneg | ⟨hpos, hsm⟩
  · go_wp2
    go_ret
    exact ⟨rfl, B1x⟩
  obtain ⟨hn, hsh⟩ := short_of hsm (by omega)
  have HSH := Lib.hid hsh
  have i1 : ¬ r < 0 := by omega
  clear hsm hsh
  have sz1 := b1.size
  have bx2 := bA.far b1
  have hB3 := b0.trans (b1.mono b0.size)
  have ce4 := bx2.cell
  go_wp2_with fail
  refine (toTranscript_calls A cap l _ ((hr.below hB3).more hB3.size) hn).mono ?_
  rintro e w2 ⟨v2, rfl, o2, b2⟩
  obtain ⟨A2, k2, rfl, r2, -, -⟩ := o2.slice
  have sz5 := b2.size
  have bx6 := bx2.far b2
  have hB7 := hB3.trans (b2.mono hB3.size)
  have ce8 := bx6.cell
  clear ce4
  go_wp2_with fail
  refine (spec_WordIndex A2 k2 l _ r2 hn HSH.out).mono ?_
  rintro e w3 ⟨v3, rfl, o3, b3⟩
  have o3 := OwnI.of (lo := w2.heap.size) o3
  have sz9 := b3.size
  have bx10 := bx6.far b3
  have hB11 := hB7.trans (b3.mono hB7.size)
  have ce12 := bx10.cell
  have hN : (indexL l).length ≤ 1200 := indexL_len l
  have hRL : ∀ c ∈ indexL l, c.2.length ≤ 1200 := indexL_two l
  have hT : totI (indexL l) ≤ 1200 * 1201 := Nat.le_trans (totI_len hRL) (Nat.mul_le_mul_right _ hN)
  have HRL := Lib.hid (show ∀ c ∈ indexL l, c.2.length ≤ 1048576 from fun r hr => Nat.le_trans (hRL r hr) (by omega))
  clear hRL
  generalize hR : indexL l = R at *
  have HR := Lib.hid hR
  clear hR
  clear ce8
  go_wp2_with fail
  refine (toTranscript_calls A cap l _ ((hr.below hB11).more hB11.size) hn).mono ?_
  rintro e w4 ⟨v4, rfl, o4, b4⟩
  obtain ⟨A4, k4, rfl, r4, -, -⟩ := o4.slice
  have sz13 := b4.size
  have bx14 := bx10.far b4
  have ow15 := o3.below b4
  have hB16 := hB11.trans (b4.mono hB11.size)
  have ce17 := bx14.cell
  have nb18 := Box.new w4 26 (.slice A4 l.length k4)
  have na19 : Below w4.heap.size w4 (w4.alloc (.cells #[.slice A4 l.length k4] 26)) := (Below.refl _ _).alloc (Nat.le_refl _) _
  have nz20 : (w4.alloc (.cells #[.slice A4 l.length k4] 26)).heap.size = w4.heap.size + 1 := by simp
  have sz21 := na19.size
  have bx22 := bx14.far na19
  have ow23 := ow15.below na19
  have ow24 := o4.below na19
  have hB25 := hB16.trans (na19.mono hB16.size)
  have ce26 := bx22.cell
  have ce27 := nb18.cell
  have m4 := Lib.hid (HM.out.below hB25)
  clear ce12 ce17
  go_wp2_with fail
  generalize hWx4 : w4.alloc (.cells #[.slice A4 l.length k4] 26) = x4 at *
  clear hWx4
  refine (impl_WordIndex A4 k4 l _ (Reads.of_own ow24.1) hn HSH.out m4.out).mono ?_
  rintro e w5 ⟨v5, rfl, o5, b5⟩
  rw [HR.out] at o5
  have o5 := OwnI.of (lo := x4.heap.size) o5
  have sz28 := b5.size
  have bx29 := bx22.far b5
  have bx30 := nb18.far b5
  have ow31 := ow23.below b5
  have ow32 := ow24.below b5
  have hB33 := hB25.trans (b5.mono hB25.size)
  have ce34 := bx29.cell
  have ce35 := bx30.cell
  clear ce26 ce27
  go_wp2_with fail
  refine (eqIndexEntryS_calls _ _ _ _ R R _ o5.idx ow31.idx HRL.out).mono ?_
  rintro e w6 ⟨rfl, b6⟩
  have sz36 := b6.size
  have bx37 := bx29.far b6
  have bx38 := bx30.far b6
  have ow39 := ow31.below b6
  have ow40 := ow32.below b6
  have ow41 := o5.below b6
  have hB42 := hB33.trans (b6.mono hB33.size)
  have ce43 := bx37.cell
  have ce44 := bx38.cell
  have ra : ∀ wx, Below w6.heap.size w6 wx → Reads wx wx.heap.size 2 A l.length (turnsV l) := fun wx hx => (hr.below (hB42.trans (hx.mono hB42.size))).more (by have := hx.size; have := hB42.size; omega)
  have rx : ∀ wx, Below w6.heap.size w6 wx → Reads wx wx.heap.size 2 A4 l.length (turnsV l) := fun wx hx => Reads.of_own (ow40.below hx).1
  have RA := Lib.hid ra
  have RX := Lib.hid rx
  clear ra rx
  have hp6 : (⟨W.heap.size, 0, none⟩ : Addr).block < w6.heap.size := by show W.heap.size < _; omega
  have hq6 : (⟨w4.heap.size, 0, none⟩ : Addr).block < w6.heap.size := by show w4.heap.size < _; omega
  have S0 : w6.cell? ⟨W.heap.size, 0, none⟩ = some (.slice A l.length cap) ∧ w6.cell? ⟨w4.heap.size, 0, none⟩ = some (.slice A4 l.length k4) ∧ Below w6.heap.size w6 w6 := ⟨bx37.cell, bx38.cell, Below.refl _ _⟩
  clear ce34 ce35
  go_wp2
  go_region_held3 (fun w' => w'.cell? ⟨W.heap.size, 0, none⟩ = some (.slice A l.length cap) ∧ w'.cell? ⟨w4.heap.size, 0, none⟩ = some (.slice A4 l.length k4) ∧ Below w6.heap.size w6 w') (first | exact S0 | exact two_drew S0 | assumption | exact two_step hp6 hq6 (by assumption) (by assumption) | exact two_drew (by assumption)) (first | (go_at_call 14; refine (toTranscript_calls A cap l _ (RA.out _ (two_below (by assumption))) hn).mono ?_; rintro e w7 ⟨v7, rfl, oc, b7⟩; obtain ⟨Ac, kc, rfl, rc, -, -⟩ := oc.slice) | (go_at_call 16; refine (eqTranscript_calls A4 Ac k4 kc l l _ (RX.out _ (two_below (by assumption))) (by first | exact rc | exact rc.drew | exact rc.drew.drew) hn).mono ?_; rintro e w8 ⟨rfl, b8⟩))
  have bz8 : Below w6.heap.size w6 w8 := two_below (by assumption)
  clear S0
  have sz45 := bz8.size
  have bx46 := bx37.far bz8
  have bx47 := bx38.far bz8
  have ow48 := ow39.below bz8
  have ow49 := ow40.below bz8
  have ow50 := ow41.below bz8
  have hB51 := hB42.trans (bz8.mono hB42.size)
  have ce52 := bx46.cell
  have ce53 := bx47.cell
  clear ce43 ce44
  go_wp2_with fail
  refine (markTranscript_calls w3.heap.size w4.heap.size _ l 1 _ ow49 (by omega) (by omega) (by omega)).mono ?_
  rintro e w9 ⟨rfl, o9, h9⟩
  have sz54 := h9.size
  have bx55 := bx46.only h9 (by omega)
  have bx56 := bx47.only h9 (by omega)
  have ow57 := ow48.only h9 (by omega)
  have ow58 := ow50.only h9 (by omega)
  have hB59 := hB51.trans (h9.below (B := W.heap.size) (by omega) (by omega))
  have ce60 := bx55.cell
  have ce61 := bx56.cell
  have i9 : ¬ (1 : Int) + 2 * (l.length : Int) < 0 := by omega
  clear ce52 ce53
  go_wp2_with fail
  refine (eqIndexEntryS_calls _ _ _ _ R R _ ow58.idx ow57.idx HRL.out).mono ?_
  rintro e w10 ⟨rfl, b10⟩
  have sz62 := b10.size
  have bx63 := bx55.far b10
  have bx64 := bx56.far b10
  have ow65 := ow57.below b10
  have ow66 := ow58.below b10
  have hB67 := hB59.trans (b10.mono hB59.size)
  have ce68 := bx63.cell
  have ce69 := bx64.cell
  clear ce60 ce61
  go_wp2_with fail
  refine (markIndexEntryS_calls x4.heap.size w5.heap.size _ R 1 _ ow66 (by omega) (by omega) (by omega)).mono ?_
  rintro e w11 ⟨rfl, o11, h11⟩
  have sz70 := h11.size
  have bx71 := bx63.only h11 (by omega)
  have bx72 := bx64.only h11 (by omega)
  have ow73 := ow65.only h11 (by omega)
  have hB74 := hB67.trans (h11.below (B := W.heap.size) (by omega) (by omega))
  have ce75 := bx71.cell
  have ce76 := bx72.cell
  clear ce68 ce69
  go_wp2_with fail
  refine (heldIndexEntryS_calls x4.heap.size w5.heap.size _ R 1 _ o11 (by omega) (by omega) (by omega)).mono ?_
  rintro e w12 ⟨rfl, b12⟩
  have sz77 := b12.size
  have bx78 := bx71.far b12
  have bx79 := bx72.far b12
  have ow80 := ow73.below b12
  have ow81 := o11.below b12
  have hB82 := hB74.trans (b12.mono hB74.size)
  have ce83 := bx78.cell
  have ce84 := bx79.cell
  have i12 : ¬ ((1 + totI R : Nat) : Int) < 0 := by omega
  clear ce75 ce76
  go_wp2_with fail
  refine (toTranscript_calls A cap l _ ((hr.below hB82).more hB82.size) hn).mono ?_
  rintro e w13 ⟨v13, rfl, o13, b13⟩
  obtain ⟨A13, k13, rfl, r13, -, -⟩ := o13.slice
  have sz85 := b13.size
  have bx86 := bx78.far b13
  have bx87 := bx79.far b13
  have ow88 := ow80.below b13
  have ow89 := ow81.below b13
  have hB90 := hB82.trans (b13.mono hB82.size)
  have ce91 := bx86.cell
  have ce92 := bx87.cell
  have m13 := Lib.hid (HM.out.below hB90)
  clear ce83 ce84
  go_wp2_with fail
  refine (impl_WordIndex A13 k13 l _ r13 hn HSH.out m13.out).mono ?_
  rintro e w14 ⟨v14, rfl, o14, b14⟩
  rw [HR.out] at o14
  have o14 := OwnI.of (lo := w13.heap.size) o14
  have sz93 := b14.size
  have bx94 := bx86.far b14
  have bx95 := bx87.far b14
  have ow96 := ow88.below b14
  have ow97 := ow89.below b14
  have hB98 := hB90.trans (b14.mono hB90.size)
  have ce99 := bx94.cell
  have ce100 := bx95.cell
  clear ce91 ce92
  go_wp2_with fail
  refine (eqIndexEntryS_calls _ _ _ _ R R _ o14.idx ow96.idx HRL.out).mono ?_
  rintro e w15 ⟨rfl, b15⟩
  have sz101 := b15.size
  have bx102 := bx94.far b15
  have bx103 := bx95.far b15
  have ow104 := ow96.below b15
  have ow105 := ow97.below b15
  have ow106 := o14.below b15
  have hB107 := hB98.trans (b15.mono hB98.size)
  have ce108 := bx102.cell
  have ce109 := bx103.cell
  clear ce99 ce100
  go_wp2_with fail
  refine (heldIndexEntryS_calls x4.heap.size w5.heap.size _ R 1 _ ow105 (by omega) (by omega) (by omega)).mono ?_
  rintro e w16 ⟨rfl, b16⟩
  have sz110 := b16.size
  have bx111 := bx102.far b16
  have bx112 := bx103.far b16
  have ow113 := ow104.below b16
  have ow114 := ow105.below b16
  have ow115 := ow106.below b16
  have hB116 := hB107.trans (b16.mono hB107.size)
  have ce117 := bx111.cell
  have ce118 := bx112.cell
  clear ce108 ce109
  go_wp2
  go_ret
  exact ⟨rfl, hB116⟩
end Go.Proofs.YthokekgdiebhjaaDoor
