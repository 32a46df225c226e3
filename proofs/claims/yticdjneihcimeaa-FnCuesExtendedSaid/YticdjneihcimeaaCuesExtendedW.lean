/-
  The law FnCuesExtended returns true: its walk over the contracts.
-/
import Derived.Test.YticdjneihcimeaaExtendedPl
import Derived.Test.YticdjneihcimeaaCuesActiveW
namespace Go.Proofs.Yticdjneihcimeaa
open Go.RowKit
set_option linter.unusedVariables false

set_option maxRecDepth 8000 in
set_option maxHeartbeats 4000000 in
theorem law_CuesExtended (A : Option Addr) (n cap : Nat) (zs : List Int) (W : World) (h : Ints .u8 W A n cap zs) :
    Calls Try.prog 10 #[.slice A n cap] W fun e W' => e = .returned (.bool true) ∧ Below W.heap.size W W' := by
  by_cases hbig : 65536 < n
  · go_enter Try.func10, Try.ntmps10
    go_wp2_with fail
    refine (rBig_yes A n cap _ hbig).mono ?_
    rintro e w1 ⟨rfl, rfl⟩
    go_wp2
    go_ret
    exact ⟨rfl, Below.refl _ _⟩
  go_enter Try.func10, Try.ntmps10
  go_wp2_with fail
  refine (rBig_no A n cap _ hbig).mono ?_
  rintro e w1 ⟨rfl, rfl⟩
  go_wp2_with fail
  refine (spec_DrawExtendCues A n cap zs _ h).mono ?_
  rintro e w1 ⟨v, l, gap, rfl, own1, hl, ht, ⟨ha1, ha2⟩, b1⟩
  obtain ⟨A1, c1, rfl, r1, -, -⟩ := own1.slice
  have s1 := b1.size
  have HTX := Lib.hid (tame_text ht)
  have HFT := Lib.hid (tame_fits ht (Int.le_refl _))
  have hlm : l.length ≤ 1048576 := by omega
  clear h ht own1
  cases hm : extendL l gap with
  | none =>
    go_wp2_with fail
    refine (impl_ExtendCues A1 c1 l gap _ r1 hlm HTX.out HFT.out).mono ?_
    rw [hm]
    rintro e w5 ⟨v5, rfl, own5, b5⟩
    obtain ⟨A5, c5, rfl, r5, -, -⟩ := own5.slice
    simp only [Option.getD_none, List.length_nil] at own5 r5 ⊢
    have s5 := b5.size
    have r35 := (r1.below b5).more s5
    have B5 : Below W.heap.size W w5 := b1.trans (b5.mono (by omega))
    go_wp2_with fail
    refine (spec_ExtendCues A1 c1 l gap _ r35 hlm HTX.out).mono ?_
    rw [hm]
    rintro e w6 ⟨v6, rfl, own6, b6⟩
    obtain ⟨A6, c6, rfl, r6, -, -⟩ := own6.slice
    simp only [Option.getD_none, List.length_nil] at own6 r6 ⊢
    have s6 := b6.size
    have B6 : Below W.heap.size W w6 := B5.trans (b6.mono (by omega))
    have r56 := (r5.below b6).more s6
    go_wp2_with fail
    refine (rCues_same A5 A6 c5 c6 [] _ (by simp) r56 r6).mono ?_
    rintro e w7 ⟨rfl, b7⟩
    have B7 : Below W.heap.size W w7 := B6.trans (b7.mono (by omega))
    go_wp2
    go_ret
    exact ⟨rfl, B7⟩
  | some m =>
    obtain ⟨hvm, hml, hg0, hg9, hvl, hme⟩ := extended_of hm
    have HVM := Lib.hid hvm
    have HVL := Lib.hid hvl
    have HME := Lib.hid hme
    have HML := Lib.hid hml
    have hmm : m.length ≤ 1048576 := by omega
    clear hvm hvl hme
    go_wp2_with fail
    refine (impl_ExtendCues A1 c1 l gap _ r1 hlm HTX.out HFT.out).mono ?_
    rw [hm]
    rintro e w5 ⟨v5, rfl, own5, b5⟩
    obtain ⟨A5, c5, rfl, r5, -, -⟩ := own5.slice
    simp only [Option.getD_some] at own5 r5 ⊢
    have s5 := b5.size
    have r35 := (r1.below b5).more s5
    have B5 : Below W.heap.size W w5 := b1.trans (b5.mono (by omega))
    clear hml
    go_wp2_with fail
    refine (spec_ExtendCues A1 c1 l gap _ r35 hlm HTX.out).mono ?_
    rw [hm]
    rintro e w6 ⟨v6, rfl, own6, b6⟩
    obtain ⟨A6, c6, rfl, r6, -, -⟩ := own6.slice
    simp only [Option.getD_some] at own6 r6 ⊢
    have s6 := b6.size
    have B6 : Below W.heap.size W w6 := B5.trans (b6.mono (by omega))
    have r56 := (r5.below b6).more s6
    have r36 := (r35.below b6).more s6
    clear hm r5 r35 r1 own5
    go_wp2_with fail
    refine (rCues_same A5 A6 c5 c6 m _ hmm r56 r6).mono ?_
    rintro e w7 ⟨rfl, b7⟩
    have s7 := b7.size
    have B7 : Below W.heap.size W w7 := B6.trans (b7.mono (by omega))
    have r57 := (r56.below b7).more s7
    have r37 := (r36.below b7).more s7
    clear r56 r36 r6 own6 b6 b5 b1 b7 B5 B6
    have HTX3 := Lib.hid (show ∀ c ∈ m, c.2.2.size ≤ maxLen from fun c hc => by
      obtain ⟨k, hk⟩ := List.mem_iff_getElem?.1 hc
      have h4 := (valid_bounds HVM.out hk).2.2.2
      simp only [captionB, Bool.and_eq_true, inB_iff] at h4
      unfold maxLen
      omega)
    go_wp2_with fail
    refine (impl_TooFast A5 c5 m _ r57 hmm HTX3.out (valid_fits HVM.out)).mono ?_
    rintro e w8 ⟨v8, rfl, own8, b8⟩
    rw [HVM.out]
    obtain ⟨A8, c8, rfl, r8, -, -⟩ := own8.slice
    have s8 := b8.size
    have B8 : Below W.heap.size W w8 := B7.trans (b8.mono (by omega))
    have r58 := (r57.below b8).more s8
    have r38 := (r37.below b8).more s8
    have hfl := fastL_le m
    obtain ⟨fl, hfle⟩ : ∃ fl, fl = fastL m := ⟨_, rfl⟩
    rw [← hfle] at r8 hfl ⊢
    have HFL := Lib.hid hfle
    have HB := Lib.hid B8
    clear r57 r37 own8 b8 B7 hfle B8
    go_wp2
    go_loopw [11] (fun iv wr => ∃ k : Nat, k ≤ l.length ∧ iv = .int .i64 k ∧ Below w8.heap.size w8 wr) (fun i _ => l.length - (intOf i).toNat)
    case atStart => exact ⟨0, Nat.zero_le _, rfl, Below.refl _ _⟩
    case round =>
      obtain ⟨k, hk, rfl, hb⟩ := hrel
      by_cases hlt : k < l.length
      · have hlt2 : k < m.length := by have := HML.out; omega
        obtain ⟨bx, ox, rfl, hbx, hcx⟩ := (r58.below hb).2 (by omega)
        obtain ⟨bl, ol, rfl, hbl, hcl⟩ := (r38.below hb).2 (by omega)
        obtain ⟨⟨s, e, t⟩, hx⟩ := some_at l hlt
        obtain ⟨d1, d2, d3⟩ := Reads.cue (B := 0) (n := 0) hcl hx
        have hx2 := extAll_at (gap := gap) hx
        rw [← HME.out] at hx2
        obtain ⟨q1, q2, q3⟩ := Reads.cue (B := 0) (n := 0) hcx hx2
        have hee : e ≤ (extOne l gap k (s, e, t)).2.1 := ext_le
        have hss : (extOne l gap k (s, e, t)).1 = s := rfl
        rw [hss] at q1
        generalize (extOne l gap k (s, e, t)).2.1 = e' at *
        simp only at d1 d2
        have i0 : (0 : Int) ≤ (k : Int) := by omega
        have i1 : (k : Int) < (l.length : Int) := by omega
        have i2 : (k : Int) < (m.length : Int) := by omega
        have i3 : ¬ e' < e := by omega
        clear hcx hcl hx hx2 hss q3 d3
        go_wp2
        go_quiet (fail)
        go_wp2
        go_roundw
        case rel => exact ⟨k + 1, by omega, by go_num, below_drewN hb _⟩
        case measure => simp [intOf]; omega
      · obtain rfl : k = l.length := by omega
        have B9 := HB.out.trans (hb.mono HB.out.size)
        have s9 := hb.size
        have r59 := (r58.below hb).more s9
        have r89 := (r8.below hb).more s9
        clear r58 r38 r8 hb
        go_wp2
        go_loopw [12] (fun iv wr2 => ∃ i : Nat, i ≤ fl.length ∧ iv = .int .i64 i ∧ Below wr.heap.size wr wr2) (fun i _ => fl.length - (intOf i).toNat)
        case atStart => exact ⟨0, Nat.zero_le _, rfl, Below.refl _ _⟩
        case round =>
          obtain ⟨i, hi, rfl, hb⟩ := hrel
          by_cases hlt : i < fl.length
          · obtain ⟨b8, o8, rfl, hb8, hc8⟩ := (r89.below hb).2 (by omega)
            obtain ⟨x, hx⟩ := some_at fl hlt
            have p1 := hc8 _ _ (ints_at fl hx)
            have hx2 := hx
            rw [HFL.out] at hx2
            obtain ⟨k, ⟨s, e, t⟩, rfl, hc, hfast⟩ := fast_mem hx2
            have hkm := (List.getElem?_eq_some_iff.1 hc).1
            obtain ⟨bx, ox, rfl, hbx, hcx⟩ := (r59.below hb).2 (by omega)
            obtain ⟨q1, q2, q3⟩ := Reads.cue (B := 0) (n := 0) hcx hc
            obtain ⟨v1, v2, v3, -⟩ := valid_bounds HVM.out hc
            obtain ⟨rt1, rt2⟩ := readT_bd t
            have htt : t.size ≤ maxLen := HTX3.out _ (List.mem_of_getElem? hc)
            simp only at v1 v2 v3 q1 q3
            have i0 : (0 : Int) ≤ (i : Int) := by omega
            have i1 : (i : Int) < (fl.length : Int) := by omega
            have j0 : (0 : Int) ≤ (k : Int) := by omega
            have j1 : (k : Int) < (m.length : Int) := by omega
            have j2 : (0 : Int) ≤ (k : Int) + 1 := by omega
            have x1 : IntKind.i64.wrap ((k : Int) + 1) = (k : Int) + 1 := IntWalk.i64_in _ (by omega)
            have x2 : IntKind.i64.wrap (s + readT t) = s + readT t := IntWalk.i64_in _ (by omega)
            by_cases hnx : k + 1 < m.length
            · obtain ⟨⟨s', e', t'⟩, hc'⟩ := some_at m hnx
              obtain ⟨q4, -, -⟩ := Reads.cue (B := 0) (n := 0) hcx hc'
              obtain ⟨u1, u2, u3, -⟩ := valid_bounds HVM.out hc'
              simp only at u1 u2 u3 q4
              have hno : ¬ (s + readT t ≤ s' - gap) := by
                have h1 := hc
                have h2 := hc'
                rw [HME.out] at h1 h2
                exact extended_fast h1 h2 hfast
              have x3 : IntKind.i64.wrap (s' - gap) = s' - gap := IntWalk.i64_in _ (by omega)
              have j3 : (k : Int) + 1 < (m.length : Int) := by omega
              clear hc8 hx hx2 hc hc' hcx hfast q2
              go_wp2
              go_quiet ((go_at_call 37; exact quiet_left (impl_ReadingTime _ _ htt)))
              clear x1 x2 x3
              go_wp2
              go_roundw
              case rel => exact ⟨i + 1, by omega, by go_num, below_drewN hb _⟩
              case measure => simp [intOf]; omega
            · have hk1 : m.length = k + 1 := by omega
              have hi40 : i ≤ 1048576 := by omega
              have j3 : ¬ ((k : Int) + 1 < ((k + 1 : Nat) : Int)) := by omega
              have j4 : ¬ ((k : Int) + 1 < (k : Int) + 1) := by omega
              have HJ1 := Lib.hid j1
              have HJ2 := Lib.hid j2
              have HKM := Lib.hid hkm
              have HQ1 := Lib.hid q1
              clear hc8 hx hx2 hc hcx hfast q2 j1 j2 hnx hkm q1 q3
              go_wp2
              go_quiet ((go_at_call 37; exact quiet_left (impl_ReadingTime _ _ htt)))
              clear x1 x2
              go_wp2
              rw [← hk1]
              go_roundw
              case rel => exact ⟨i + 1, by omega, by go_num, below_drewN hb _⟩
              case measure => simp [intOf]; omega
          · obtain rfl : i = fl.length := by omega
            have B10 := B9.trans (hb.mono B9.size)
            have r510 := (r59.below hb).more hb.size
            clear r59 r89 hb
            go_wp2_with fail
            refine (impl_IsValidCues A5 c5 m _ r510 (by omega) HTX3.out (valid_fits HVM.out)).mono ?_
            rw [HVM.out]
            rintro e w11 ⟨rfl, b11⟩
            have B11 := B10.trans (b11.mono B10.size)
            go_wp2
            go_ret
            exact ⟨rfl, B11⟩
end Go.Proofs.Yticdjneihcimeaa
