/-
  The law FnCuesActive returns true: its walk over the contracts.
-/
import Derived.Test.YticdjneihcimeaaSpecTimed
import Derived.Test.YticdjneihcimeaaDrawGap
import Derived.Test.YticdjneihcimeaaRCues
namespace Go.Proofs.Yticdjneihcimeaa
open Go.RowKit
set_option linter.unusedVariables false

theorem active_shift {l m : List CueD} {d at_ : Int} (h : shiftL l d = some m) : activeL m (at_ + d) = activeL l at_ := by
  unfold shiftL timedL at h
  split at h
  · rename_i hc
    simp only [Option.some.injEq] at h
    subst h
    simp only [Bool.and_eq_true] at hc
    unfold activeL
    rw [if_pos hc.2, if_pos hc.1.1]
    unfold mapT
    rw [List.findIdx?_map]
    congr 1
    funext c
    simp only [actB, Function.comp]
    congr 1
    · exact decide_eq_decide.2 (by omega)
    · exact decide_eq_decide.2 (by omega)
  · cases h
theorem shift_tame {l m : List CueD} {d : Int} (h : shiftL l d = some m) (ht : ∀ c ∈ l, c.2.2.size ≤ maxLen) : validB m = true ∧ ∀ c ∈ m, c.2.2.size ≤ maxLen := by
  unfold shiftL timedL at h
  split at h
  · rename_i hc
    simp only [Option.some.injEq] at h
    subst h
    simp only [Bool.and_eq_true] at hc
    exact ⟨hc.2, mapT_text (P := fun t => t.size ≤ maxLen) ht⟩
  · cases h
theorem valid_fits {l : List CueD} (hv : validB l = true) : Fits l := fun c hc => by
  obtain ⟨k, hk⟩ := List.mem_iff_getElem?.1 hc
  obtain ⟨v1, v2, v3, -⟩ := valid_bounds hv hk
  omega
theorem tame_fits {l : List CueD} {B : Int} (h : Tame B l) (hB : B ≤ 1000000000) : Fits l := fun c hc => by
  obtain ⟨a, b, e⟩ := h c hc
  omega
theorem tame_text {l : List CueD} {B : Int} (h : Tame B l) : ∀ c ∈ l, c.2.2.size ≤ maxLen := fun c hc => by
  have := (h c hc).2.2
  unfold maxLen
  omega
theorem rBig_yes (A : Option Addr) (n cap : Nat) (w : World) (h : 65536 < n) : Calls Try.prog 20 #[.slice A n cap] w fun e w' => e = .returned (.bool true) ∧ w = w' := by
  have := rBig_calls A n cap w
  rwa [decide_eq_true h] at this
theorem rBig_no (A : Option Addr) (n cap : Nat) (w : World) (h : ¬ 65536 < n) : Calls Try.prog 20 #[.slice A n cap] w fun e w' => e = .returned (.bool false) ∧ w = w' := by
  have := rBig_calls A n cap w
  rwa [decide_eq_false h] at this
theorem Ints.below {k : IntKind} {w w' : World} {A : Option Addr} {n cap : Nat} {zs : List Int} (h : Ints k w A n cap zs) (hb : Below w.heap.size w w') : Ints k w' A n cap zs := ⟨(h.1.below hb).more hb.size, h.2⟩

set_option maxHeartbeats 4000000 in
theorem law_CuesActive (A : Option Addr) (n cap : Nat) (zs : List Int) (W : World) (h : Ints .u8 W A n cap zs) :
    Calls Try.prog 7 #[.slice A n cap] W fun e W' => e = .returned (.bool true) ∧ Below W.heap.size W W' := by
  by_cases hbig : 65536 < n
  · go_enter Try.func7, Try.ntmps7
    go_wp2_with fail
    refine (rBig_yes A n cap _ hbig).mono ?_
    rintro e w1 ⟨rfl, rfl⟩
    go_wp2
    go_ret
    exact ⟨rfl, Below.refl _ _⟩
  have hn6 : n ≤ 65536 := by omega
  go_enter Try.func7, Try.ntmps7
  go_wp2_with fail
  refine (rBig_no A n cap _ hbig).mono ?_
  rintro e w1 ⟨rfl, rfl⟩
  go_wp2_with fail
  refine (spec_DrawActiveCue A n cap zs _ h).mono ?_
  rintro e w1 ⟨v, l, at_, rfl, own1, hl, ht, ⟨ha1, ha2⟩, b1⟩
  obtain ⟨A1, c1, rfl, r1, -, -⟩ := own1.slice
  have s1 := b1.size
  have HI := Lib.hid (h.below b1)
  have HTX := Lib.hid (tame_text ht)
  have HFT := Lib.hid (tame_fits ht (Int.le_refl _))
  have hlm : l.length ≤ 1048576 := by omega
  clear h ht own1
  go_wp2_with fail
  refine (impl_ActiveCue A1 c1 l at_ _ r1 hlm HTX.out HFT.out).mono ?_
  rintro e w2 ⟨rfl, b2⟩
  have s2 := b2.size
  have r2 := (r1.below b2).more s2
  have B2 : Below W.heap.size W w2 := b1.trans (b2.mono s1)
  have HI2 := Lib.hid (HI.out.below b2)
  clear HI r1
  go_wp2_with fail
  refine (spec_ActiveCue A1 c1 l at_ _ r2 hlm HTX.out).mono ?_
  rintro e w3 ⟨rfl, b3⟩
  have s3 := b3.size
  have r3 := (r2.below b3).more s3
  have B3 : Below W.heap.size W w3 := B2.trans (b3.mono (by omega))
  have HI3 := Lib.hid (HI2.out.below b3)
  clear HI2 r2 b2 b3 b1 B2
  obtain ⟨o, ho⟩ : ∃ o, activeL l at_ = o := ⟨_, rfl⟩
  rw [ho]
  have HO := Lib.hid ho
  clear ho
  go_wp2_with fail
  refine (rAt_calls A n cap zs 2 _ HI3.out (by omega) hn6).mono ?_
  rintro e w4 ⟨d, rfl, ⟨d0, d9⟩, rfl⟩
  cases hm : shiftL l d with
  | none =>
    go_wp2_with fail
    refine (impl_ShiftCues A1 c1 l d _ r3 hlm HTX.out HFT.out).mono ?_
    rw [hm]
    rintro e w5 ⟨v5, rfl, own5, b5⟩
    obtain ⟨A5, c5, rfl, r5, -, -⟩ := own5.slice
    simp only [Option.getD_none, List.length_nil] at own5 r5 ⊢
    have s5 := b5.size
    have r35 := (r3.below b5).more s5
    have B5 : Below W.heap.size W w5 := B3.trans (b5.mono (by omega))
    go_wp2_with fail
    refine (spec_ShiftCues A1 c1 l d _ r35 hlm HTX.out).mono ?_
    rw [hm]
    rintro e w6 ⟨v6, rfl, own6, b6⟩
    obtain ⟨A6, c6, rfl, r6, -, -⟩ := own6.slice
    simp only [Option.getD_none, List.length_nil] at own6 r6 ⊢
    have s6 := b6.size
    have B6 : Below W.heap.size W w6 := B5.trans (b6.mono (by omega))
    have r56 := (r5.below b6).more s6
    go_wp2_with fail
    refine (rCues_same A5 A6 c5 c6 [] _ (by simp) r56 r6).mono ?_
    rintro e w7 ⟨rfl, b7⟩
    have s7 := b7.size
    have B7 : Below W.heap.size W w7 := B6.trans (b7.mono (by omega))
    have r57 := (r56.below b7).more s7
    go_wp2_with fail
    refine (impl_ActiveCue A5 c5 [] (at_ + d) _ r57 (by simp) (fun c hc => by simp at hc) (fun c hc => by simp at hc)).mono ?_
    rintro e w8 ⟨rfl, b8⟩
    have B8 : Below W.heap.size W w8 := B7.trans (b8.mono (by omega))
    go_wp2
    go_ret
    exact ⟨rfl, B8⟩
  | some m =>
    have HAS := Lib.hid (active_shift (at_ := at_) hm)
    have HST := Lib.hid (shift_tame hm HTX.out)
    have hml : m.length ≤ l.length := by have := shift_le l d; rw [hm] at this; exact this
    go_wp2_with fail
    refine (impl_ShiftCues A1 c1 l d _ r3 hlm HTX.out HFT.out).mono ?_
    rw [hm]
    rintro e w5 ⟨v5, rfl, own5, b5⟩
    obtain ⟨A5, c5, rfl, r5, -, -⟩ := own5.slice
    simp only [Option.getD_some] at own5 r5 ⊢
    have s5 := b5.size
    have r35 := (r3.below b5).more s5
    have B5 : Below W.heap.size W w5 := B3.trans (b5.mono (by omega))
    go_wp2_with fail
    refine (spec_ShiftCues A1 c1 l d _ r35 hlm HTX.out).mono ?_
    rw [hm]
    rintro e w6 ⟨v6, rfl, own6, b6⟩
    obtain ⟨A6, c6, rfl, r6, -, -⟩ := own6.slice
    simp only [Option.getD_some] at own6 r6 ⊢
    have s6 := b6.size
    have B6 : Below W.heap.size W w6 := B5.trans (b6.mono (by omega))
    have r56 := (r5.below b6).more s6
    have HM := Lib.hid hm
    clear hm
    go_wp2_with fail
    refine (rCues_same A5 A6 c5 c6 m _ (by omega) r56 r6).mono ?_
    rintro e w7 ⟨rfl, b7⟩
    have s7 := b7.size
    have B7 : Below W.heap.size W w7 := B6.trans (b7.mono (by omega))
    have r57 := (r56.below b7).more s7
    go_wp2_with fail
    refine (impl_ActiveCue A5 c5 m (at_ + d) _ r57 (by omega) HST.out.2 (valid_fits HST.out.1)).mono ?_
    rintro e w8 ⟨rfl, b8⟩
    have B8 : Below W.heap.size W w8 := B7.trans (b8.mono (by omega))
    rw [HAS.out, HO.out]
    go_wp2
    go_ret
    exact ⟨ret_bool (by simp), B8⟩
end Go.Proofs.Yticdjneihcimeaa
