/-
  The law FnExactIsValidTranscript returns true for every transcript: its walk over the contracts.
-/
import Derived.Test.YtffhbhlljdimbaaDoorTransArg
import Derived.Test.YtffhbhlljdimbaaDoorSpecText
namespace Go.Proofs.YtffhbhlljdimbaaDoor
open Go.RowKit
set_option linter.unusedVariables false
set_option maxRecDepth 100000

theorem short_of {l : List TurnD} {left : Int} (h : SmallT l left) (hl : left ≤ 1048576) : l.length ≤ 1048576 ∧ ShortT l := by
  unfold SmallT at h
  refine ⟨by omega, fun c hc => ?_⟩
  have := totalT_mem hc
  omega

set_option maxHeartbeats 2000000 in
theorem law_IsValidTranscript (v0 : Value) (l : List TurnD) (W : World) (w0 : TransArg W v0 l) (hm : MaxOk W) :
    Calls Tryd.prog 3 #[v0] W fun e W' => e = .returned (.bool true) ∧ Below W.heap.size W W' := by
  obtain ⟨A, cap, rfl, hr, hlc, hcm, htx⟩ := w0
  have hlm : l.length ≤ maxLen := Nat.le_trans hlc hcm
  have HT := Lib.hid htx
  have HM := Lib.hid hm
  clear htx hm
  have b0 : Below W.heap.size W (W.alloc (.cells #[.slice A l.length cap] 24)) := (Below.refl _ _).alloc (Nat.le_refl _) _
  have c0 : (W.alloc (.cells #[.slice A l.length cap] 24)).cell? ⟨W.heap.size, 0, none⟩ = some (.slice A l.length cap) := by simp [World.cell?_alloc_at]
  have z0 : W.heap.size < (W.alloc (.cells #[.slice A l.length cap] 24)).heap.size := by simp
  go_enter Tryd.func3, Tryd.ntmps3
  go_wp2_with fail
  generalize hW0 : W.alloc (.cells #[.slice A l.length cap] 24) = wz at *
  clear hW0
  have s0 := b0.size
  refine (szTranscript_calls A cap l 1048576 _ ((hr.below b0).more s0) hlm HT.out (by omega) (by omega)).mono ?_
  rintro e w1 ⟨r, rfl, hrr, b1⟩
  have B1 := b0.trans (b1.mono s0)
  rcases hrr with hneg | ⟨hpos, hsm⟩
  · go_wp2
    go_ret
    exact ⟨rfl, B1⟩
  obtain ⟨hn, hsh⟩ := short_of hsm (by omega)
  have HSH := Lib.hid hsh
  have s1 := b1.size
  have c1 := (b1.cell (p := ⟨W.heap.size, 0, none⟩) z0).trans c0
  have i1 : ¬ r < 0 := by omega
  clear hsm hsh c0
  go_wp2_with fail
  refine (toTranscript_calls A cap l _ ((hr.below B1).more (by omega)) hn).mono ?_
  rintro e w2 ⟨v2, rfl, o2, b2⟩
  obtain ⟨A2, k2, rfl, r2, -, -⟩ := o2.slice
  have s2 := b2.size
  have c2 := (b2.cell (p := ⟨W.heap.size, 0, none⟩) (by show W.heap.size < _; omega)).trans c1
  have B2 := B1.trans (b2.mono (by omega))
  clear c1
  go_wp2_with fail
  refine (spec_IsValidTranscript A2 k2 l _ r2 (by omega) HSH.out).mono ?_
  rintro e w3 ⟨rfl, b3⟩
  have s3 := b3.size
  have c3 := (b3.cell (p := ⟨W.heap.size, 0, none⟩) (by show W.heap.size < _; omega)).trans c2
  have B3 := B2.trans (b3.mono (by omega))
  clear c2
  go_wp2_with fail
  refine (toTranscript_calls A cap l _ ((hr.below B3).more (by omega)) hn).mono ?_
  rintro e w4 ⟨v4, rfl, ox, b4⟩
  obtain ⟨Ax, kx, rfl, rx, -, -⟩ := ox.slice
  have s4 := b4.size
  have c4 := (b4.cell (p := ⟨W.heap.size, 0, none⟩) (by show W.heap.size < _; omega)).trans c3
  have B4 := B3.trans (b4.mono (by omega))
  clear c3
  have hq5 : (⟨w4.heap.size, 0, none⟩ : Addr).block < (w4.alloc (.cells #[.slice Ax l.length kx] 29)).heap.size := by simp
  have b5 : Below w4.heap.size w4 (w4.alloc (.cells #[.slice Ax l.length kx] 29)) := (Below.refl _ _).alloc (Nat.le_refl _) _
  have d5 : (w4.alloc (.cells #[.slice Ax l.length kx] 29)).cell? ⟨w4.heap.size, 0, none⟩ = some (.slice Ax l.length kx) := by simp [World.cell?_alloc_at]
  have c5 := (b5.cell (p := ⟨W.heap.size, 0, none⟩) (by show W.heap.size < _; omega)).trans c4
  have ox5 := ox.below b5
  have B5 := B4.trans (b5.mono (by omega))
  have HM5 := Lib.hid (HM.out.below B5)
  have R5 := (Reads.of_own ox5.1)
  clear c4
  go_wp2_with fail
  generalize hW5 : w4.alloc (.cells #[.slice Ax l.length kx] 29) = w5 at *
  clear hW5
  refine (impl_IsValidTranscript Ax kx l _ R5 (by omega) HSH.out HM5.out).mono ?_
  rintro e w6 ⟨rfl, b6⟩
  have s5 := b5.size
  have s6 := b6.size
  have c6 := (b6.cell (p := ⟨W.heap.size, 0, none⟩) (by show W.heap.size < _; omega)).trans c5
  have d6 := (b6.cell (p := ⟨w4.heap.size, 0, none⟩) hq5).trans d5
  have B6 := B5.trans (b6.mono (by omega))
  have ox6 := ox5.below b6
  have hp6 : (⟨W.heap.size, 0, none⟩ : Addr).block < w6.heap.size := by show W.heap.size < _; omega
  have hq6 : (⟨w4.heap.size, 0, none⟩ : Addr).block < w6.heap.size := Nat.lt_of_lt_of_le hq5 s6
  have ra : ∀ wx, Below w6.heap.size w6 wx → Reads wx wx.heap.size 2 A l.length (turnsV l) := fun wx hx => (hr.below (B6.trans (hx.mono (by omega)))).more (by have := hx.size; omega)
  have rx : ∀ wx, Below w6.heap.size w6 wx → Reads wx wx.heap.size 2 Ax l.length (turnsV l) := fun wx hx => Reads.of_own (ox6.below hx).1
  have RA := Lib.hid ra
  have RX := Lib.hid rx
  have B60 : Below w6.heap.size w6 w6 := Below.refl _ _
  have S0 : w6.cell? ⟨W.heap.size, 0, none⟩ = some (.slice A l.length cap) ∧ w6.cell? ⟨w4.heap.size, 0, none⟩ = some (.slice Ax l.length kx) ∧ Below w6.heap.size w6 w6 := ⟨c6, d6, B60⟩
  clear ra rx c5 d5
  go_wp2
  go_region_held3 (fun w' => w'.cell? ⟨W.heap.size, 0, none⟩ = some (.slice A l.length cap) ∧ w'.cell? ⟨w4.heap.size, 0, none⟩ = some (.slice Ax l.length kx) ∧ Below w6.heap.size w6 w') (first | exact S0 | exact two_drew S0 | assumption | exact two_step hp6 hq6 (by assumption) (by assumption) | exact two_drew (by assumption)) (first | (go_at_call 16; refine (toTranscript_calls A cap l _ (RA.out _ (two_below (by assumption))) hn).mono ?_; rintro e w7 ⟨v7, rfl, oc, b7⟩; obtain ⟨Ac, kc, rfl, rc, -, -⟩ := oc.slice) | (go_at_call 18; refine (eqTranscript_calls Ax Ac kx kc l l _ (RX.out _ (two_below (by assumption))) (by first | exact rc | exact rc.drew | exact rc.drew.drew) hn).mono ?_; rintro e w8 ⟨rfl, b8⟩))
  all_goals (go_wp2; go_ret; exact ⟨rfl, B6.trans ((two_below (by assumption)).mono (by omega))⟩)
end Go.Proofs.YtffhbhlljdimbaaDoor
