/-
  The law FnExactIsUniquelyReadable returns true for every dictionary: its walk over the contracts.
-/
import Derived.Test.YtekidodfcanjaaaDoorAmbS
import Derived.Test.YtekidodfcanjaaaDoorDictArg
import Derived.Test.YtekidodfcanjaaaDoorDictMark
import Derived.Test.YtekidodfcanjaaaDoorDictEq
import Derived.Test.YtekidodfcanjaaaDoorRowsMark
import Derived.Test.YtekidodfcanjaaaDoorBase
namespace Go.Proofs.YtekidodfcanjaaaDoor
open Go.RowKit
set_option linter.unusedVariables false
set_option maxRecDepth 100000

set_option maxHeartbeats 16000000 in
theorem law_IsUniquelyReadable (v0 : Value) (l : List EntD) (W : World) (w0 : DictArg W v0 l) (hm : MaxOk W) :
    Calls Tryd.prog 3 #[v0] W fun e W' => e = .returned (.bool true) ∧ Below W.heap.size W W' := by
  obtain ⟨A, cap, rfl, hr, hlc, hcm, hts⟩ := w0
  have hlm : l.length ≤ maxLen := Nat.le_trans hlc hcm
  have HT := Lib.hid hts
  have HM := Lib.hid hm
  clear hts hm
  have b0 : Below W.heap.size W (W.alloc (.cells #[.slice A l.length cap] 24)) := (Below.refl _ _).alloc (Nat.le_refl _) _
  have bA := Box.new W 24 (.slice A l.length cap)
  have z0 : W.heap.size < (W.alloc (.cells #[.slice A l.length cap] 24)).heap.size := by simp
  have cA := bA.cell
  go_enter Tryd.func3, Tryd.ntmps3
  go_wp2_with fail
  generalize hW0 : W.alloc (.cells #[.slice A l.length cap] 24) = wz at *
  clear hW0
  have s0 := b0.size
  refine (szDictionary_calls A cap l 1048576 _ ((hr.below b0).more s0) hlm HT.out (by omega) (by omega)).mono ?_
  rintro e w1 ⟨r, rfl, hrr, b1⟩
  have B1x := b0.trans (b1.mono s0)
  rcases hrr with hneg | ⟨hpos, hsm⟩
  · go_wp2
    go_ret
    exact ⟨rfl, B1x⟩
  obtain ⟨hn, hsh⟩ := shortD_of hsm
  have htm := totalM_small hsm
  have HSH := Lib.hid hsh
  have i1 : ¬ r < 0 := by omega
  clear hsm hsh
  have sz1 := b1.size
  have bx2 := bA.far b1
  have hB3 := b0.trans (b1.mono b0.size)
  have ce4 := bx2.cell
  go_wp2_with fail
  refine (toDictionary_calls A cap l _ ((hr.below hB3).more hB3.size) hn HSH.out).mono ?_
  rintro e w2 ⟨v2, rfl, o2, b2⟩
  obtain ⟨A2, k2, rfl, r2, -, -⟩ := o2.slice
  have sz5 := b2.size
  have bx6 := bx2.far b2
  have hB7 := hB3.trans (b2.mono hB3.size)
  have ce8 := bx6.cell
  clear ce4
  go_wp2_with fail
  refine (spec_IsUniquelyReadable A2 k2 l _ r2 hn HSH.out).mono ?_
  rintro e w3 ⟨rfl, b3, -⟩
  have sz9 := b3.size
  have bx10 := bx6.far b3
  have hB11 := hB7.trans (b3.mono hB7.size)
  have ce12 := bx10.cell
  generalize hR : uniqB l = R at *
  have HR := Lib.hid hR
  clear hR
  generalize hDB : dictB l = db at *
  have HDB := Lib.hid hDB
  clear hDB
  have e1 : (R != R) = false := by cases R <;> rfl
  have e2 : (db != db) = false := by cases db <;> rfl
  clear ce8
  go_wp2_with fail
  refine (toDictionary_calls A cap l _ ((hr.below hB11).more hB11.size) hn HSH.out).mono ?_
  rintro e w4 ⟨v4, rfl, o4, b4⟩
  obtain ⟨A4, k4, rfl, r4, -, -⟩ := o4.slice
  have sz13 := b4.size
  have bx14 := bx10.far b4
  have hB15 := hB11.trans (b4.mono hB11.size)
  have ce16 := bx14.cell
  have nb17 := Box.new w4 30 (.slice A4 l.length k4)
  have na18 : Below w4.heap.size w4 (w4.alloc (.cells #[.slice A4 l.length k4] 30)) := (Below.refl _ _).alloc (Nat.le_refl _) _
  have nz19 : (w4.alloc (.cells #[.slice A4 l.length k4] 30)).heap.size = w4.heap.size + 1 := by simp
  have sz20 := na18.size
  have bx21 := bx14.far na18
  have ow22 := o4.below na18
  have hB23 := hB15.trans (na18.mono hB15.size)
  have ce24 := bx21.cell
  have ce25 := nb17.cell
  have m4 := Lib.hid (HM.out.below hB23)
  clear ce12 ce16
  go_wp2_with fail
  generalize hWx4 : w4.alloc (.cells #[.slice A4 l.length k4] 30) = x4 at *
  clear hWx4
  obtain ⟨A4x, k4x, hv4, r4x, -, -⟩ := ow22.slice
  simp only [Value.slice.injEq, true_and] at hv4
  obtain ⟨rfl, rfl⟩ := hv4
  refine (impl_IsUniquelyReadable A4 k4 l _ r4x hn HSH.out m4.out).mono ?_
  rintro e w5 ⟨he5, b5, -⟩
  rw [HR.out, HDB.out] at he5
  subst he5
  have sz26 := b5.size
  have bx27 := bx21.far b5
  have bx28 := nb17.far b5
  have ow29 := ow22.below b5
  have hB30 := hB23.trans (b5.mono hB23.size)
  have ce31 := bx27.cell
  have ce32 := bx28.cell
  have ra : ∀ wx, Below w5.heap.size w5 wx → DictR wx wx.heap.size A l := fun wx hx => (hr.below (hB30.trans (hx.mono hB30.size))).more (by have := hx.size; have := hB30.size; omega)
  have rx : ∀ wx, Below w5.heap.size w5 wx → DictR wx wx.heap.size A4 l := fun wx hx => by
    obtain ⟨A4y, k4y, hv4, r4y, -, -⟩ := (ow29.below hx).slice
    simp only [Value.slice.injEq, true_and] at hv4
    obtain ⟨rfl, rfl⟩ := hv4
    exact r4y
  have RA := Lib.hid ra
  have RX := Lib.hid rx
  clear ra rx
  have hp5 : (⟨W.heap.size, 0, none⟩ : Addr).block < w5.heap.size := by show W.heap.size < _; omega
  have hq5 : (⟨w4.heap.size, 0, none⟩ : Addr).block < w5.heap.size := by show w4.heap.size < _; omega
  have S0 : w5.cell? ⟨W.heap.size, 0, none⟩ = some (.slice A l.length cap) ∧ w5.cell? ⟨w4.heap.size, 0, none⟩ = some (.slice A4 l.length k4) ∧ Below w5.heap.size w5 w5 := ⟨bx27.cell, bx28.cell, Below.refl _ _⟩
  clear ce24 ce25
  go_wp2
  go_region_held3 (fun w' => w'.cell? ⟨W.heap.size, 0, none⟩ = some (.slice A l.length cap) ∧ w'.cell? ⟨w4.heap.size, 0, none⟩ = some (.slice A4 l.length k4) ∧ Below w5.heap.size w5 w') (first | exact S0 | exact pair_drew S0 | assumption | exact pair_step hp5 hq5 (by assumption) (by assumption) | exact pair_drew (by assumption)) (first | (go_at_call 6; refine (toDictionary_calls A cap l _ (RA.out _ (two_below2 (by assumption))) hn HSH.out).mono ?_; rintro e w7 ⟨v7, rfl, oc, b7⟩; obtain ⟨Ac, kc, rfl, rc, -, -⟩ := oc.slice) | (go_at_call 8; refine (eqDictionary_calls A4 Ac k4 kc l l _ (RX.out _ (two_below2 (by assumption))) (by exact rc) hn HSH.out).mono ?_; rintro e w8 ⟨rfl, b8⟩))
  have bz8 : Below w5.heap.size w5 w8 := two_below2 (by assumption)
  clear S0
  have sz33 := bz8.size
  have bx34 := bx27.far bz8
  have bx35 := bx28.far bz8
  have ow36 := ow29.below bz8
  have hB37 := hB30.trans (bz8.mono hB30.size)
  have ce38 := bx34.cell
  have ce39 := bx35.cell
  clear ce31 ce32
  go_wp2
  go_ret
  exact ⟨rfl, hB37⟩
end Go.Proofs.YtekidodfcanjaaaDoor
