/-
  The law FnCuesText returns true: its walk over the contracts.
-/
import Derived.Test.YtjdnmknegpikcaaDoorCuesParI
import Derived.Test.YtjdnmknegpikcaaDoorDrawScale
import Derived.Test.YtjdnmknegpikcaaDoorCut
import Derived.Test.YtjdnmknegpikcaaDoorRCues
import Derived.Test.YtjdnmknegpikcaaDoorScale
namespace Go.Proofs.YtjdnmknegpikcaaDoor
open Go.RowKit
set_option linter.unusedVariables false
set_option maxRecDepth 100000

theorem tame_textC {B : Int} {l : List CueD} (h : Tame B l) : ∀ c ∈ l, c.2.2.size ≤ maxLen := fun c hc => by have := (h c hc).2.2; unfold maxLen; omega
theorem tame_fitsC {l : List CueD} (h : Tame 1000000000 l) : Fits l := fun c hc => by
  have := h c hc
  omega
theorem scale_len {l m : List CueD} {num den : Int} (h : scaleL l num den = some m) : m.length = l.length ∧ validB l = true := by
  unfold scaleL timedL at h
  split at h
  · rename_i hh
    injection h with h
    subst h
    simp only [Bool.and_eq_true] at hh
    exact ⟨by simp [mapT], hh.1.1⟩
  · cases h
theorem form_size (l : List CueD) : (formB l).size ≤ 6000 := by
  unfold formB
  split
  · rename_i hv
    exact text_short hv
  · exact Nat.zero_le _
theorem cuesOk_form {l R : List CueD} {ok : Bool} (hv : validB l = true) (h : CuesOk (formB l) R ok) : R = l ∧ ok = true := by
  have hf : textL l = (formB l).data.toList := by simp [formB, hv, textB]
  have := cuesOk_one h (.inl ⟨rfl, hv, hf⟩)
  exact this
theorem rBig_yesT (A : Option Addr) (n cap : Nat) (w : World) (h : 65536 < n) : Calls Tryd.prog 8 #[.slice A n cap] w fun e w' => e = .returned (.bool true) ∧ w = w' := by
  have := rBig_calls A n cap w
  rwa [decide_eq_true h] at this
theorem rBig_noT (A : Option Addr) (n cap : Nat) (w : World) (h : ¬ 65536 < n) : Calls Tryd.prog 8 #[.slice A n cap] w fun e w' => e = .returned (.bool false) ∧ w = w' := by
  have := rBig_calls A n cap w
  rwa [decide_eq_false h] at this
theorem timeS_size (z : Int) : (timeS z).size ≤ 12 := by
  unfold timeS
  split
  · rename_i h
    obtain ⟨h0, h9⟩ := inB_iff.1 h
    show (timeOf z.toNat).length ≤ 12
    rw [time_len12 (by omega)]
    exact Nat.le_refl _
  · exact Nat.zero_le _
/-- The law's last part: a time is written and read. -/
theorem time_round {z : Int} {z' : Int} {b : Bool} (h : TimeOk (timeS z).data.toList z' b) (hin : inB z 0 99999999 = true) : b = true ∧ z' = z := by
  obtain ⟨h0, h9⟩ := inB_iff.1 hin
  have := timeOk_one h (.inl ⟨rfl, z.toNat, rfl, by omega, by simp [timeS, hin]⟩)
  exact ⟨this.2, by omega⟩

set_option maxHeartbeats 16000000 in
theorem law_CuesText (A : Option Addr) (n cap : Nat) (zs : List Int) (W : World) (h : Ints .u8 W A n cap zs) (htab : Lib.TabIs Tryd.prog W "internal/strconv.uint64pow10" .u64 Lib.pow10Tab) (hm : MaxOk W) (herr : ErrOk W) :
    Calls Tryd.prog 4 #[.slice A n cap] W fun e W' => e = .returned (.bool true) ∧ Below W.heap.size W W' := by
  have HT := Lib.hid (show ∀ W', Below W.heap.size W W' → Lib.TabIs Tryd.prog W' "internal/strconv.uint64pow10" .u64 Lib.pow10Tab from fun W' hb => Lib.tabBelow_of_tabIs htab W' hb)
  have HE := Lib.hid (show ∀ W', Below W.heap.size W W' → ErrOk W' from fun W' hb => herr.below hb)
  have HM := Lib.hid (show ∀ W', Below W.heap.size W W' → MaxOk W' from fun W' hb => hm.below hb)
  clear htab herr hm
  by_cases hbig : 65536 < n
  · go_enter Tryd.func4, Tryd.ntmps4
    go_wp2_with fail
    refine (rBig_yesT A n cap _ hbig).mono ?_
    rintro e w1 ⟨rfl, rfl⟩
    go_wp2
    go_ret
    exact ⟨rfl, Below.refl _ _⟩
  have HI := Lib.hid (show ∀ W', Below W.heap.size W W' → Ints .u8 W' A n cap zs from fun W' hb => ⟨(h.1.below hb).more hb.size, h.2⟩)
  go_enter Tryd.func4, Tryd.ntmps4
  go_wp2_with fail
  refine (rBig_noT A n cap _ hbig).mono ?_
  rintro e w0 ⟨rfl, rfl⟩
  go_wp2_with fail
  refine (drawScale_calls A n cap zs _ h).mono ?_
  rintro e w1 ⟨v, l, num, den, rfl, own1, hl, ht, hnum, hden, b1⟩
  obtain ⟨A1, c1, rfl, r1, -, -⟩ := own1.slice
  have HTX := Lib.hid (tame_textC ht)
  have HFT := Lib.hid (tame_fitsC ht)
  have hlm : l.length ≤ 1048576 := by omega
  have s1 := b1.size
  clear h ht own1 hnum hden
  go_wp2_with fail
  refine (impl_ScaleCues A1 c1 l num den _ r1 hlm HTX.out HFT.out).mono ?_
  rintro e w2 ⟨v2, rfl, own2, b2⟩
  obtain ⟨A2, c2, rfl, r2, -, -⟩ := own2.slice
  have B2 := b1.trans (b2.mono s1)
  have r12 := (r1.below b2).more b2.size
  go_wp2_with fail
  refine (spec_ScaleCues A1 c1 l num den _ r12 hlm HTX.out).mono ?_
  rintro e w3 ⟨v3, rfl, own3, b3⟩
  obtain ⟨A3, c3, rfl, r3, -, -⟩ := own3.slice
  have B3 := B2.trans (b3.mono B2.size)
  have r13 := (r12.below b3).more b3.size
  have r23 := (r2.below b3).more b3.size
  clear own2 own3
  have hfs := form_size l
  obtain ⟨FS, hFS⟩ : ∃ FS, FS = formB l := ⟨_, rfl⟩
  rw [← hFS] at hfs
  have HFS := Lib.hid hFS
  go_wp2_with fail
  refine (impl_FormatCues A1 c1 l _ r13 hlm HTX.out HFT.out (HT.out _ B3)).mono ?_
  rw [← hFS]
  clear hFS
  rintro e w4 ⟨rfl, b4⟩
  have B4 := B3.trans (b4.mono B3.size)
  have r14 := (r13.below b4).more b4.size
  have r24 := (r23.below b4).more b4.size
  have r34 := (r3.below b4).more b4.size
  go_wp2_with fail
  refine (impl_ParseCues FS _ (by omega) (HT.out _ B4) (HE.out _ B4) (HM.out _ B4)).mono ?_
  rintro e w5 ⟨R, v5, ok, rfl, hok, own5, b5⟩
  obtain ⟨A5, c5, rfl, r5, -, -⟩ := own5.slice
  have B5 := B4.trans (b5.mono B4.size)
  have r15 := (r14.below b5).more b5.size
  have r25 := (r24.below b5).more b5.size
  have r35 := (r34.below b5).more b5.size
  have HOK := Lib.hid (show validB l = true → R = l ∧ ok = true from fun hv => cuesOk_form hv (by rw [← HFS.out]; exact hok))
  have hsc := scale_le l num den
  clear hok own5 r12 r13 r14 r23 r24 r34 r1 r2 r3
  cases hv : validB l
  · have hsn : scaleL l num den = none := by
      cases hs : scaleL l num den with
      | none => rfl
      | some m => have := (scale_len hs).2; rw [hv] at this; cases this
    rw [hsn] at r25 r35 ⊢
    simp only [Option.getD_none, List.length_nil] at r25 r35 ⊢
    clear HOK
    go_wp2_with fail
    refine (rCues_same A2 A3 c2 c3 [] _ (by simp) r25 r35).mono ?_
    rintro e w6 ⟨rfl, b6⟩
    have B6 := B5.trans (b6.mono B5.size)
    have r16 := (r15.below b6).more b6.size
    go_wp2_with fail
    refine (impl_IsValidCues A1 c1 l _ r16 hlm HTX.out HFT.out).mono ?_
    rw [hv]
    rintro e w7 ⟨rfl, b7⟩
    have B7 := B6.trans (b7.mono B6.size)
    have r17 := (r16.below b7).more b7.size
    go_wp2_with fail
    refine (rCut_calls A n cap zs 1 _ (HI.out _ B7) (by omega) (by omega)).mono ?_
    rintro e w8 ⟨A8, n8, c8, zs8, rfl, h8, b8⟩
    have B8 := B7.trans (b8.mono B7.size)
    go_wp2_with fail
    refine (drawFormatTime_calls A8 n8 c8 zs8 _ h8).mono ?_
    rintro e w9 ⟨z, rfl, hz, b9⟩
    have B9 := B8.trans (b9.mono B8.size)
    obtain ⟨X, hX⟩ : ∃ X, X = timeS z := ⟨_, rfl⟩
    have hXs : X.size ≤ 12 := by rw [hX]; exact timeS_size z
    have HX := Lib.hid hX
    clear h8
    go_wp2_with fail
    refine (impl_FormatTime z _ (HT.out _ B9)).mono ?_
    rw [← hX]
    rintro e w10 ⟨rfl, b10⟩
    have B10 := B9.trans (b10.mono B9.size)
    go_wp2_with fail
    refine (spec_FormatTimeS z _).mono ?_
    rw [← hX]
    clear hX
    rintro e w11 ⟨rfl, b11⟩
    have B11 := B10.trans (b11.mono B10.size)
    go_wp2_with fail
    refine (impl_ParseTime X _ (by omega) (HT.out _ B11) (HE.out _ B11)).mono ?_
    rintro e w12 ⟨z', b', rfl, hz', b12⟩
    have B12 := B11.trans (b12.mono B11.size)
    cases hin : inB z 0 99999999
    · clear hz'
      go_wp2
      go_ret
      exact ⟨rfl, B12⟩
    · obtain ⟨hbt, hzz⟩ := time_round (by rw [← HX.out]; exact hz') hin
      have hzb : (z' == z) = true := by rw [hzz]; simp
      subst hbt
      clear hz' hin hzz hv
      go_wp2
      go_ret
      exact ⟨rfl, B12⟩
  obtain ⟨hR, rfl⟩ := HOK.out hv
  subst hR
  cases hs : scaleL R num den with
  | none =>
    rw [hs] at r25 r35
    clear hs
    simp only [Option.getD_none, List.length_nil] at r25 r35 ⊢
    go_wp2_with fail
    refine (rCues_same A2 A3 c2 c3 [] _ (by simp) r25 r35).mono ?_
    rintro e w6 ⟨rfl, b6⟩
    have B6 := B5.trans (b6.mono B5.size)
    have r16 := (r15.below b6).more b6.size
    have r56 := (r5.below b6).more b6.size
    go_wp2_with fail
    refine (impl_IsValidCues A1 c1 R _ r16 hlm HTX.out HFT.out).mono ?_
    rw [hv]
    rintro e w7 ⟨rfl, b7⟩
    have B7 := B6.trans (b7.mono B6.size)
    have r17 := (r16.below b7).more b7.size
    have r57 := (r56.below b7).more b7.size
    go_wp2_with fail
    refine (rCues_same A5 A1 c5 c1 R _ hlm r57 r17).mono ?_
    rintro e w7' ⟨rfl, b7'⟩
    have B7' := B7.trans (b7'.mono B7.size)
    go_wp2_with fail
    refine (rCut_calls A n cap zs 1 _ (HI.out _ B7') (by omega) (by omega)).mono ?_
    rintro e w8 ⟨A8, n8, c8, zs8, rfl, h8, b8⟩
    have B8 := B7'.trans (b8.mono B7'.size)
    go_wp2_with fail
    refine (drawFormatTime_calls A8 n8 c8 zs8 _ h8).mono ?_
    rintro e w9 ⟨z, rfl, hz, b9⟩
    have B9 := B8.trans (b9.mono B8.size)
    obtain ⟨X, hX⟩ : ∃ X, X = timeS z := ⟨_, rfl⟩
    have hXs : X.size ≤ 12 := by rw [hX]; exact timeS_size z
    have HX := Lib.hid hX
    clear h8
    go_wp2_with fail
    refine (impl_FormatTime z _ (HT.out _ B9)).mono ?_
    rw [← hX]
    rintro e w10 ⟨rfl, b10⟩
    have B10 := B9.trans (b10.mono B9.size)
    go_wp2_with fail
    refine (spec_FormatTimeS z _).mono ?_
    rw [← hX]
    clear hX
    rintro e w11 ⟨rfl, b11⟩
    have B11 := B10.trans (b11.mono B10.size)
    go_wp2_with fail
    refine (impl_ParseTime X _ (by omega) (HT.out _ B11) (HE.out _ B11)).mono ?_
    rintro e w12 ⟨z', b', rfl, hz', b12⟩
    have B12 := B11.trans (b12.mono B11.size)
    cases hin : inB z 0 99999999
    · clear hz' hv r5 r15 r25 r35 r16 r56 r17 r57 hsc hl hlm hfs hz hXs
      go_wp2
      go_ret
      exact ⟨rfl, B12⟩
    · obtain ⟨hbt, hzz⟩ := time_round (by rw [← HX.out]; exact hz') hin
      have hzb : (z' == z) = true := by rw [hzz]; simp
      subst hbt
      clear hz' hin hzz hv r5 r15 r25 r35 r16 r56 r17 r57 hsc hl hlm hfs hz hXs
      go_wp2
      go_ret
      exact ⟨rfl, B12⟩
  | some m =>
    have hml := (scale_len hs).1
    have HML := Lib.hid hml
    rw [hs] at r25 r35
    simp only [Option.getD_some] at r25 r35 ⊢
    have hmm : m.length ≤ 1048576 := by omega
    clear hs hml hsc
    go_wp2_with fail
    refine (rCues_same A2 A3 c2 c3 m _ hmm r25 r35).mono ?_
    rintro e w6 ⟨rfl, b6⟩
    have B6 := B5.trans (b6.mono B5.size)
    have r16 := (r15.below b6).more b6.size
    have r56 := (r5.below b6).more b6.size
    go_wp2_with fail
    refine (impl_IsValidCues A1 c1 R _ r16 hlm HTX.out HFT.out).mono ?_
    rw [hv]
    rintro e w7 ⟨rfl, b7⟩
    have B7 := B6.trans (b7.mono B6.size)
    have r17 := (r16.below b7).more b7.size
    have r57 := (r56.below b7).more b7.size
    go_wp2_with fail
    refine (rCues_same A5 A1 c5 c1 R _ hlm r57 r17).mono ?_
    rintro e w7' ⟨rfl, b7'⟩
    have B7' := B7.trans (b7'.mono B7.size)
    have hle : ((m.length : Int) != (R.length : Int)) = false := by rw [HML.out]; simp
    go_wp2_with fail
    refine (rCut_calls A n cap zs 1 _ (HI.out _ B7') (by omega) (by omega)).mono ?_
    rintro e w8 ⟨A8, n8, c8, zs8, rfl, h8, b8⟩
    have B8 := B7'.trans (b8.mono B7'.size)
    go_wp2_with fail
    refine (drawFormatTime_calls A8 n8 c8 zs8 _ h8).mono ?_
    rintro e w9 ⟨z, rfl, hz, b9⟩
    have B9 := B8.trans (b9.mono B8.size)
    obtain ⟨X, hX⟩ : ∃ X, X = timeS z := ⟨_, rfl⟩
    have hXs : X.size ≤ 12 := by rw [hX]; exact timeS_size z
    have HX := Lib.hid hX
    clear h8
    go_wp2_with fail
    refine (impl_FormatTime z _ (HT.out _ B9)).mono ?_
    rw [← hX]
    rintro e w10 ⟨rfl, b10⟩
    have B10 := B9.trans (b10.mono B9.size)
    go_wp2_with fail
    refine (spec_FormatTimeS z _).mono ?_
    rw [← hX]
    clear hX
    rintro e w11 ⟨rfl, b11⟩
    have B11 := B10.trans (b11.mono B10.size)
    go_wp2_with fail
    refine (impl_ParseTime X _ (by omega) (HT.out _ B11) (HE.out _ B11)).mono ?_
    rintro e w12 ⟨z', b', rfl, hz', b12⟩
    have B12 := B11.trans (b12.mono B11.size)
    cases hin : inB z 0 99999999
    · clear hz' hv r5 r15 r25 r35 r16 r56 r17 r57 hl hlm hfs hz hXs hmm
      go_wp2
      go_ret
      exact ⟨rfl, B12⟩
    · obtain ⟨hbt, hzz⟩ := time_round (by rw [← HX.out]; exact hz') hin
      have hzb : (z' == z) = true := by rw [hzz]; simp
      subst hbt
      clear hz' hin hzz hv r5 r15 r25 r35 r16 r56 r17 r57 hl hlm hfs hz hXs hmm
      go_wp2
      go_ret
      exact ⟨rfl, B12⟩
end Go.Proofs.YtjdnmknegpikcaaDoor
