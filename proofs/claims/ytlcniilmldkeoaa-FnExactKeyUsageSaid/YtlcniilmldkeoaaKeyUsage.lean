/-
  The law FnExactKeyUsage returns true for every list of ints: its walk over the contracts.
-/
import Derived.Test.YtlcniilmldkeoaaKeys
namespace Go.Proofs.Ytlcniilmldkeoaa
open Go.RowKit
set_option linter.unusedVariables false

set_option maxHeartbeats 2000000 in
theorem law_KeyUsage (a0 : Option Addr) (len0 cap0 : Nat) (z0 : List Int) (W : World) (w0 : Ints .i64 W a0 len0 cap0 z0) :
    Calls Try.prog 5 #[.slice a0 len0 cap0] W fun e W' => e = .returned (.bool true) ∧ Below W.heap.size W W' := by
  obtain ⟨hr, hlc, hcm, rfl, -⟩ := w0
  unfold maxLen at hcm
  by_cases hn : z0.length ≤ 1048576
  · have hr0 : Reads W W.heap.size 1 a0 z0.length (ints z0) := hr
    have hul := usedL_le z0
    clear hr
    go_enter Try.func5, Try.ntmps5
    go_wp2_with fail
    refine (toIntS_calls a0 cap0 z0 _ hr0 hn).mono ?_
    rintro e w1 ⟨v1, rfl, o1, b1⟩
    obtain ⟨A1, c1, rfl, r1, -, -⟩ := o1.slice
    go_wp2_with fail
    refine (spec_KeyUsage A1 c1 z0 _ r1 hn).mono ?_
    rintro e w2 ⟨v2, rfl, ow, b2⟩
    obtain ⟨Aw, cw, rfl, rw2, -, -⟩ := ow.slice
    have s1 := b1.size
    have s2 := b2.size
    have B2 : Below W.heap.size W w2 := b1.trans (b2.mono s1)
    go_wp2_with fail
    refine (toIntS_calls a0 cap0 z0 _ ((hr0.below B2).more (by omega)) hn).mono ?_
    rintro e w3 ⟨v3, rfl, ox, b3⟩
    obtain ⟨Ax, cx, rfl, rx, -, -⟩ := ox.slice
    have s3 := b3.size
    go_wp2_with fail
    refine (impl_KeyUsage Ax cx z0 _ rx hn).mono ?_
    rintro e w4 ⟨v4, rfl, og, b4⟩
    obtain ⟨Ag, cg, rfl, rg, -, -⟩ := og.slice
    have s4 := b4.size
    have ow4 := (ow.below b3).below b4
    have ox4 := ox.below b4
    go_wp2_with fail
    refine (eqIntS_calls Ag Aw cg cw _ _ _ (Reads.of_own og.1) (Reads.of_own ow4.1) (by omega)).mono ?_
    rintro e w5 ⟨rfl, b5⟩
    have s5 := b5.size
    have B5 : Below W.heap.size W w5 := ((B2.trans (b3.mono (by omega))).trans (b4.mono (by omega))).trans (b5.mono (by omega))
    go_wp2_with fail
    refine (toIntS_calls a0 cap0 z0 _ ((hr0.below B5).more (by omega)) hn).mono ?_
    rintro e w6 ⟨v6, rfl, oc, b6⟩
    obtain ⟨Ac, cc, rfl, rc, -, -⟩ := oc.slice
    have s6 := b6.size
    have ow6 := (ow4.below b5).below b6
    have ox6 := (ox4.below b5).below b6
    have og6 := (og.below b5).below b6
    go_wp2_with fail
    refine (eqIntS_calls Ax Ac cx cc _ _ _ (Reads.of_own ox6.1) (Reads.of_own oc.1) (by omega)).mono ?_
    rintro e w7 ⟨rfl, b7⟩
    have s7 := b7.size
    have ow7 := ow6.below b7
    have ox7 := ox6.below b7
    have og7 := og6.below b7
    go_wp2_with fail
    refine (markIntS_calls _ _ _ _ _ 1 _ ox7 (by omega) (by omega)).mono ?_
    rintro e w8 ⟨rfl, ox8, n8⟩
    have s8 := n8.size
    have ow8 := ow7.only n8 (.inl (by omega))
    have og8 := og7.only n8 (.inr (by omega))
    have B8 : Below W.heap.size W w8 := ((B5.trans (b6.mono (by omega))).trans (b7.mono (by omega))).trans (n8.below (by omega) (by omega))
    go_wp2_with fail
    refine (eqIntS_calls Ag Aw cg cw _ _ _ (Reads.of_own og8.1) (Reads.of_own ow8.1) (by omega)).mono ?_
    rintro e w9 ⟨rfl, b9⟩
    have s9 := b9.size
    have ow9 := ow8.below b9
    have og9 := og8.below b9
    go_wp2_with fail
    refine (markIntS_calls _ _ _ _ _ 1 _ og9 (by omega) (by omega)).mono ?_
    rintro e w10 ⟨rfl, og10, n10⟩
    have s10 := n10.size
    have ow10 := ow9.only n10 (.inl (by omega))
    have B10 : Below W.heap.size W w10 := (B8.trans (b9.mono (by omega))).trans (n10.below (by omega) (by omega))
    go_wp2_with fail
    refine (heldIntS_calls Ag cg _ 1 _ (Reads.of_own og10.1) (by omega) (by omega)).mono ?_
    rintro e w' ⟨rfl, rfl⟩
    go_wp2_with fail
    refine (toIntS_calls a0 cap0 z0 _ ((hr0.below B10).more (by omega)) hn).mono ?_
    rintro e w11 ⟨v11, rfl, o11, b11⟩
    obtain ⟨A11, c11, rfl, r11, -, -⟩ := o11.slice
    have s11 := b11.size
    go_wp2_with fail
    refine (impl_KeyUsage A11 c11 z0 _ r11 hn).mono ?_
    rintro e w12 ⟨v12, rfl, oh, b12⟩
    obtain ⟨Ah, ch, rfl, rh, -, -⟩ := oh.slice
    have s12 := b12.size
    have ow12 := (ow10.below b11).below b12
    have og12 := (og10.below b11).below b12
    go_wp2_with fail
    refine (eqIntS_calls Ah Aw ch cw _ _ _ (Reads.of_own oh.1) (Reads.of_own ow12.1) (by omega)).mono ?_
    rintro e w13 ⟨rfl, b13⟩
    have s13 := b13.size
    have og13 := og12.below b13
    have B13 : Below W.heap.size W w13 := ((B10.trans (b11.mono (by omega))).trans (b12.mono (by omega))).trans (b13.mono (by omega))
    go_wp2_with fail
    refine (heldIntS_calls Ag cg _ 1 _ (Reads.of_own og13.1) (by omega) (by omega)).mono ?_
    rintro e w' ⟨rfl, rfl⟩
    go_wp2
    go_ret
    exact ⟨rfl, B13⟩
  · clear hr
    go_enter Try.func5, Try.ntmps5
    go_wp2
    go_ret
    exact ⟨rfl, Below.refl _ _⟩
end Go.Proofs.Ytlcniilmldkeoaa
