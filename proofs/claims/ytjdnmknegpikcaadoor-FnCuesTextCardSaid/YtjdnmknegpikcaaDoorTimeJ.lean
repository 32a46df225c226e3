/-
  The program's ParseTime.
-/
import Derived.Test.YtjdnmknegpikcaaDoorTimeI
import Derived.Test.YtjdnmknegpikcaaDoorBase
namespace Go.Proofs.YtjdnmknegpikcaaDoor
open Go.RowKit Go.Maps
set_option linter.unusedVariables false
set_option linter.unusedSimpArgs false
set_option maxRecDepth 100000

def sumU (a b c : Int) (left : Lit → Bool) : Int := (if left (lI 0) then 0 else a * 3600000) + (if left (lI 3) then 0 else b * 60000) + (if left (lI 6) then 0 else c * 1000)
theorem sumU_bd {a b c : Int} (ha : -1000 < a ∧ a < 1000) (hb : -1000 < b ∧ b < 1000) (hc : -1000 < c ∧ c < 1000) (left : Lit → Bool) : -4000000000 < sumU a b c left ∧ sumU a b c left < 4000000000 := by
  unfold sumU
  split <;> split <;> split <;> omega
theorem sumU_start (a b c : Int) : sumU a b c (has unitsD) = 0 := rfl
theorem sumU_end {a b c : Int} {left : Lit → Bool} (h : ∀ kl, left kl = false) : sumU a b c left = a * 3600000 + b * 60000 + c * 1000 := by simp [sumU, h]
theorem sumU_zero {a b c : Int} {left : Lit → Bool} (h : left (lI 0) = true) : sumU a b c (fun z => left z && !z.sameKey (.int .i64 0)) = sumU a b c left + a * 3600000 := by
  have h0 : (lI 0).sameKey (.int .i64 0) = true := rfl
  have h3 : (lI 3).sameKey (.int .i64 0) = false := rfl
  have h6 : (lI 6).sameKey (.int .i64 0) = false := rfl
  simp only [sumU, h, h0, h3, h6, Bool.not_true, Bool.not_false, Bool.and_true, Bool.and_false, if_true, Bool.false_eq_true, if_false]
  omega
theorem sumU_three {a b c : Int} {left : Lit → Bool} (h : left (lI 3) = true) : sumU a b c (fun z => left z && !z.sameKey (.int .i64 3)) = sumU a b c left + b * 60000 := by
  have h0 : (lI 0).sameKey (.int .i64 3) = false := rfl
  have h3 : (lI 3).sameKey (.int .i64 3) = true := rfl
  have h6 : (lI 6).sameKey (.int .i64 3) = false := rfl
  simp only [sumU, h, h0, h3, h6, Bool.not_true, Bool.not_false, Bool.and_true, Bool.and_false, if_true, Bool.false_eq_true, if_false]
  omega
theorem sumU_six {a b c : Int} {left : Lit → Bool} (h : left (lI 6) = true) : sumU a b c (fun z => left z && !z.sameKey (.int .i64 6)) = sumU a b c left + c * 1000 := by
  have h0 : (lI 0).sameKey (.int .i64 6) = false := rfl
  have h3 : (lI 3).sameKey (.int .i64 6) = false := rfl
  have h6 : (lI 6).sameKey (.int .i64 6) = true := rfl
  simp only [sumU, h, h0, h3, h6, Bool.not_true, Bool.not_false, Bool.and_true, Bool.and_false, if_true, Bool.false_eq_true, if_false]
  omega
theorem units_at {x c : Int} (hx : x = 0 ∨ x = 3 ∨ x = 6) (hat : ∀ zd, unitsD.atKey (.int .i64 x) zd = .lit (.int .i64 c)) : (x = 0 ∧ c = 3600000) ∨ (x = 3 ∧ c = 60000) ∨ (x = 6 ∧ c = 1000) := by
  have h := hat (dI 0)
  rcases hx with rfl | rfl | rfl
  · have h1 : dI 3600000 = .lit (.int .i64 c) := h
    unfold dI at h1
    injection h1 with h1
    injection h1 with _ h1
    exact .inl ⟨rfl, h1.symm⟩
  · have h1 : dI 60000 = .lit (.int .i64 c) := h
    unfold dI at h1
    injection h1 with h1
    injection h1 with _ h1
    exact .inr (.inl ⟨rfl, h1.symm⟩)
  · have h1 : dI 1000 = .lit (.int .i64 c) := h
    unfold dI at h1
    injection h1 with h1
    injection h1 with _ h1
    exact .inr (.inr ⟨rfl, h1.symm⟩)
theorem grown_of_below {w w' : World} (h : Below w.heap.size w w') : w.grownBy w' none := ⟨h.os, h.tape, h.output, h.size, fun i hi _ => h.block i hi⟩
theorem below_of_grown {B : Nat} {w w' : World} {row : Option Nat} (h : w.grownBy w' row) (hB : B ≤ w.heap.size) (hr : ∀ k, row = some k → B ≤ k) : Below B w w' := (Below.refl _ _).grown h hB hr

def ParseT (l : List UInt8) (w : World) (x : Ending) (w' : World) : Prop := ∃ z b, x = .returned (.tuple #[.int .i64 z, .bool b]) ∧ TimeOk l z b ∧ Below w.heap.size w w'
theorem parseT_no {l : List UInt8} {w w' : World} (h : ∀ t : Nat, t ≤ 99999999 → timeOf t ≠ l) (hb : Below w.heap.size w w') : ParseT l w (.returned (.tuple #[.int .i64 0, .bool false])) w' := ⟨0, false, rfl, .inr ⟨rfl, rfl, h⟩, hb⟩
theorem ext_data (s : ByteArray) (a b : Nat) : (s.extract a b).data.toList = (s.data.toList.drop a).take (b - a) := by
  rw [ByteArray.data_extract]
  simp only [Array.toList_extract, List.extract_eq_take_drop]

set_option maxHeartbeats 8000000 in
theorem impl_ParseTime (s : ByteArray) (w : World) (hs : s.size ≤ 4194304) (htab : Lib.TabIs Tryd.prog w "internal/strconv.uint64pow10" .u64 Lib.pow10Tab) (herr : ErrOk w) :
    Calls Tryd.prog 7 #[.string s] w (ParseT s.data.toList w) := by
  by_cases h12 : s.size = 12
  case neg =>
    have e1 : ((s.size : Int) != 12) = true := by simp; omega
    have HNO := Lib.hid (show ∀ t : Nat, t ≤ 99999999 → timeOf t ≠ s.data.toList from fun t ht he => h12 (time_read ht he).1)
    clear h12
    go_enter Tryd.func7, Tryd.ntmps7
    go_wp2
    go_ret2
    exact parseT_no HNO.out (Below.refl _ _)
  have e1 : ((s.size : Int) != 12) = false := by simp; omega
  have k2 : (2 : Int) ≤ (s.size : Int) := by omega
  have k5 : (5 : Int) ≤ (s.size : Int) := by omega
  have k8 : (8 : Int) ≤ (s.size : Int) := by omega
  have k9 : (9 : Int) ≤ (s.size : Int) := by omega
  have HT := Lib.hid (show ∀ W, Below w.heap.size w W → Lib.TabIs Tryd.prog W "internal/strconv.uint64pow10" .u64 Lib.pow10Tab from fun W hb => Lib.tabBelow_of_tabIs htab W hb)
  have HE := Lib.hid (show ∀ W, Below w.heap.size w W → ErrOk W from fun W hb => herr.below hb)
  obtain ⟨a, hda⟩ : ∃ a, a = numA (s.extract 0 2).data.toList := ⟨_, rfl⟩
  obtain ⟨b, hdb⟩ : ∃ b, b = numA (s.extract 3 5).data.toList := ⟨_, rfl⟩
  obtain ⟨c, hdc⟩ : ∃ c, c = numA (s.extract 6 8).data.toList := ⟨_, rfl⟩
  obtain ⟨d, hdd⟩ : ∃ d, d = numA (s.extract 9 s.size).data.toList := ⟨_, rfl⟩
  have lena : ∀ i j, j - i ≤ 3 → (s.extract i j).data.toList.length ≤ 3 := fun i j hij => by rw [ext_data, List.length_take]; omega
  have ba := numA_bd (lena 0 2 (by omega)); rw [← hda] at ba
  have bb := numA_bd (lena 3 5 (by omega)); rw [← hdb] at bb
  have bc := numA_bd (lena 6 8 (by omega)); rw [← hdc] at bc
  have bd := numA_bd (lena 9 s.size (by omega)); rw [← hdd] at bd
  have HA0 := Lib.hid (fun W he => (show Calls Tryd.prog 26 #[.string (s.extract 0 2)] W fun e w' => ∃ ev, e = .returned (.tuple #[.int .i64 a, ev]) ∧ Below W.heap.size W w' by rw [hda]; exact impl_Atoi _ W (Nat.le_trans (lena 0 2 (by omega)) (by omega)) he))
  have HA3 := Lib.hid (fun W he => (show Calls Tryd.prog 26 #[.string (s.extract 3 5)] W fun e w' => ∃ ev, e = .returned (.tuple #[.int .i64 b, ev]) ∧ Below W.heap.size W w' by rw [hdb]; exact impl_Atoi _ W (Nat.le_trans (lena 3 5 (by omega)) (by omega)) he))
  have HA6 := Lib.hid (fun W he => (show Calls Tryd.prog 26 #[.string (s.extract 6 8)] W fun e w' => ∃ ev, e = .returned (.tuple #[.int .i64 c, ev]) ∧ Below W.heap.size W w' by rw [hdc]; exact impl_Atoi _ W (Nat.le_trans (lena 6 8 (by omega)) (by omega)) he))
  have HA9 := Lib.hid (fun W he => (show Calls Tryd.prog 26 #[.string (s.extract 9 s.size)] W fun e w' => ∃ ev, e = .returned (.tuple #[.int .i64 d, ev]) ∧ Below W.heap.size W w' by rw [hdd]; exact impl_Atoi _ W (Nat.le_trans (lena 9 s.size (by omega)) (by omega)) he))
  have hnum : numT s.data.toList = a * 3600000 + b * 60000 + c * 1000 + d := by
    rw [hda, hdb, hdc, hdd, ext_data, ext_data, ext_data, ext_data]
    unfold numT
    rw [h12]
    have hl : (s.data.toList.drop 9).take (12 - 9) = s.data.toList.drop 9 := List.take_of_length_le (by
      have : s.data.toList.length = s.size := rfl
      rw [List.length_drop, this, h12]; exact Nat.le_refl _)
    rw [hl]
    rfl
  have HNUM := Lib.hid hnum
  have own0 : (w.alloc (.map #[] 0)).ownsMap Tryd.prog 3 (plainElem Tryd.prog 3) w.heap.size 0 (.map ([] : List (Lit × DataW Unit))) := World.ownsMap_made _ _ _ _
  have hb0 : Below w.heap.size w (w.alloc (.map #[] 0)) := (Below.refl _ _).alloc (Nat.le_refl _) _
  have hmm := @run_makeMap Tryd.prog
  have HBD := Lib.hid (sumU_bd ba bb bc)
  clear hda hdb hdc hdd lena htab herr hnum h12
  have m0 : 0 < maxLen := by unfold maxLen; omega
  have m1 : 0 + 1 < maxLen := by unfold maxLen; omega
  have m2 : 0 + 1 + 1 < maxLen := by unfold maxLen; omega
  go_enter Tryd.func7, Tryd.ntmps7
  go_wp2_with (first
    | (refine wpList_insert_own _ rfl _ _ _ 43 rfl 3 3 lawI Tryd.underlying43 _ w.heap.size 0 _ rfl own0 m0 _ _ (lI 0) rfl rfl rfl (dI 3600000) [] (plainElem_int Tryd.underlying3 rfl) ?_; intro w1 own1 hg1)
    | (refine wpList_insert_own _ rfl _ _ _ 43 rfl 3 3 lawI Tryd.underlying43 _ w.heap.size _ _ rfl own1 m1 _ _ (lI 3) rfl rfl rfl (dI 60000) [] (plainElem_int Tryd.underlying3 rfl) ?_; intro w2 own2 hg2)
    | (refine wpList_insert_own _ rfl _ _ _ 43 rfl 3 3 lawI Tryd.underlying43 _ w.heap.size _ _ rfl own2 m2 _ _ (lI 6) rfl rfl rfl (dI 1000) [] (plainElem_int Tryd.underlying3 rfl) ?_; intro w3 own3 hg3; rw [units_put] at own3)
    | (at_range; refine wpList_range_own _ rfl _ 43 rfl 3 3 lawI Tryd.underlying43 _ w.heap.size _ _ rfl own3 ?_; intro w4 hrg0 hg4 hs4)
    | go_in)
  have B1 : Below w.heap.size w w1 := hb0.grown hg1 hb0.size (fun k hk => by injection hk with hk; omega)
  have B2 : Below w.heap.size w w2 := B1.grown hg2 B1.size (fun k hk => by injection hk with hk; omega)
  have B3 : Below w.heap.size w w3 := B2.grown hg3 B2.size (fun k hk => by injection hk with hk; omega)
  have B4 : Below w.heap.size w w4 := B3.grown hg4 B3.size (fun k hk => by cases hk)
  obtain ⟨ri, hri⟩ : ∃ ri, ri = w3.heap.size := ⟨_, rfl⟩
  have hrile : w.heap.size ≤ ri := by rw [hri]; exact B3.size
  rw [← hri] at hrg0
  have HRI := Lib.hid hri
  rw [← hri]
  clear hri own0 own1 own2 own3 hg1 hg2 hg3 hg4 hb0 m0 m1 m2
  go_frame
  go_loopw [4] (fun v wr => ∃ (left : Lit → Bool) (cnt : Nat) (q : Int), v = .int .i64 q ∧ q = sumU a b c left ∧ (∀ kl, left kl = true → has unitsD kl = true) ∧ wr.ranges Tryd.prog 3 (plainElem Tryd.prog 3) w.heap.size ri 3 unitsD left cnt ∧ Below w.heap.size w wr) (fun _ wr => wr.rangeLeft w.heap.size ri)
  case atStart => exact ⟨_, _, 0, rfl, (sumU_start a b c).symm, fun _ h => h, hrg0, B4⟩
  case round =>
    obtain ⟨left, cnt, q, rfl, hq, hsub, hrg, hb⟩ := hrel
    have hqb := HBD.out left
    rw [← hq] at hqb
    have HQ := Lib.hid hq
    have HSUB := Lib.hid hsub
    clear hq hsub
    go_wp2_with (first
      | (at_next; refine wpList_next_ranges_ii _ rfl _ rfl 3 3 .i64 .i64 lawI Tryd.underlying3 Tryd.underlying3 w.heap.size ri 3 _ _ _ rfl hrg ?_ ?_)
      | go_in)
    · intro _ hl0
      have HEND := Lib.hid (show q = a * 3600000 + b * 60000 + c * 1000 by rw [HQ.out]; exact sumU_end hl0)
      have hqd : numT s.data.toList = q + d := by rw [HNUM.out, HEND.out]
      have HQD := Lib.hid hqd
      have w2' : IntKind.i64.wrap (q + d) = q + d := IntWalk.i64_in _ (by omega)
      obtain ⟨z, hz⟩ : ∃ z, z = q + d := ⟨_, rfl⟩
      rw [← hz] at w2'
      have HZ := Lib.hid hz
      clear hl0 hqd
      go_wp2_with fail
      refine (HA9.out _ (HE.out _ hb)).mono ?_
      rintro e w6 ⟨ev, rfl, b6⟩
      have B6 := hb.trans (b6.mono hb.size)
      go_wp2_with fail
      rw [← hz]
      clear hz
      refine (impl_FormatTime z _ (HT.out _ B6)).mono ?_
      cases hin : inB z 0 99999999
      · rintro e w7 ⟨rfl, b7⟩
        have HNO := Lib.hid (show ∀ t : Nat, t ≤ 99999999 → timeOf t ≠ s.data.toList from fun t ht he => by
          have h1 := numT_time ht he
          have h2 := HQD.out
          have h3 := HZ.out
          exact inB_not hin ⟨by omega, by omega⟩)
        clear hin
        go_wp2
        go_ret2
        exact parseT_no HNO.out (B6.trans (b7.mono B6.size))
      · rintro e w7 ⟨rfl, b7⟩
        have B7 := B6.trans (b7.mono B6.size)
        obtain ⟨z0, z9⟩ := inB_iff.1 hin
        have HTS := Lib.hid (show timeS z = ⟨(timeOf z.toNat).toArray⟩ by simp [timeS, hin])
        by_cases hts : timeS z = s
        · have HYES := Lib.hid (show TimeOk s.data.toList z true from .inl ⟨rfl, z.toNat, by omega, by omega, by
            have h1 := congrArg (fun x : ByteArray => x.data.toList) (HTS.out.symm.trans hts)
            simpa using h1⟩)
          clear hin
          rw [hts]
          clear hts
          go_wp2
          rw [← HZ.out]
          go_ret2
          exact ⟨z, true, rfl, HYES.out, B7⟩
        · have hne := str_other hts
          have HNO := Lib.hid (show ∀ t : Nat, t ≤ 99999999 → timeOf t ≠ s.data.toList from fun t ht he => by
            have h1 := numT_time ht he
            have h2 := HQD.out
            have h3 := HZ.out
            refine hts ?_
            rw [HTS.out, show z.toNat = t by omega, he])
          clear hts hin
          go_wp2
          go_ret2
          exact parseT_no HNO.out B7
    · intro x cu w5 cnt5 hwx hwc hlx hat hrg5 hlt5 hg5 hs5 hen
      have B5 : Below w.heap.size w w5 := hb.grown hg5 hb.size (fun k hk => by injection hk with hk; omega)
      have hx3 := units_has (HSUB.out _ hlx)
      have hxc := units_at hx3 hat
      clear hx3 hat hwx hwc hg5 hs5
      rcases hxc with ⟨rfl, rfl⟩ | ⟨rfl, rfl⟩ | ⟨rfl, rfl⟩
      · have hxl : left (lI 0) = true := hlx
        have hsm := sumU_zero (a := a) (b := b) (c := c) hxl
        have HSM := Lib.hid hsm
        have w1' : IntKind.i64.wrap (a * 3600000) = a * 3600000 := IntWalk.i64_in _ (by omega)
        have w2' : IntKind.i64.wrap (q + a * 3600000) = q + a * 3600000 := IntWalk.i64_in _ (by omega)
        clear hsm hxl
        go_wp2_with fail
        refine (HA0.out _ (HE.out _ B5)).mono ?_
        rintro e w6 ⟨ev, rfl, b6⟩
        have B6 := B5.trans (b6.mono B5.size)
        have hrg6 := hrg5.kept (grown_of_below b6) (by simp) (by simp)
        go_wp2
        go_roundw
        case rel => exact ⟨_, cnt5, q + a * 3600000, by first | rfl | go_num, by rw [HSM.out, HQ.out], fun kl hk => HSUB.out kl (by simp only [Bool.and_eq_true] at hk; exact hk.1), hrg6, B6⟩
        case measure => rw [hrg6.left_eq, hrg.left_eq]; exact hlt5
      · have hxl : left (lI 3) = true := hlx
        have hsm := sumU_three (a := a) (b := b) (c := c) hxl
        have HSM := Lib.hid hsm
        have w1' : IntKind.i64.wrap (b * 60000) = b * 60000 := IntWalk.i64_in _ (by omega)
        have w2' : IntKind.i64.wrap (q + b * 60000) = q + b * 60000 := IntWalk.i64_in _ (by omega)
        clear hsm hxl
        go_wp2_with fail
        refine (HA3.out _ (HE.out _ B5)).mono ?_
        rintro e w6 ⟨ev, rfl, b6⟩
        have B6 := B5.trans (b6.mono B5.size)
        have hrg6 := hrg5.kept (grown_of_below b6) (by simp) (by simp)
        go_wp2
        go_roundw
        case rel => exact ⟨_, cnt5, q + b * 60000, by first | rfl | go_num, by rw [HSM.out, HQ.out], fun kl hk => HSUB.out kl (by simp only [Bool.and_eq_true] at hk; exact hk.1), hrg6, B6⟩
        case measure => rw [hrg6.left_eq, hrg.left_eq]; exact hlt5
      · have hxl : left (lI 6) = true := hlx
        have hsm := sumU_six (a := a) (b := b) (c := c) hxl
        have HSM := Lib.hid hsm
        have w1' : IntKind.i64.wrap (c * 1000) = c * 1000 := IntWalk.i64_in _ (by omega)
        have w2' : IntKind.i64.wrap (q + c * 1000) = q + c * 1000 := IntWalk.i64_in _ (by omega)
        clear hsm hxl
        go_wp2_with fail
        refine (HA6.out _ (HE.out _ B5)).mono ?_
        rintro e w6 ⟨ev, rfl, b6⟩
        have B6 := B5.trans (b6.mono B5.size)
        have hrg6 := hrg5.kept (grown_of_below b6) (by simp) (by simp)
        go_wp2
        go_roundw
        case rel => exact ⟨_, cnt5, q + c * 1000, by first | rfl | go_num, by rw [HSM.out, HQ.out], fun kl hk => HSUB.out kl (by simp only [Bool.and_eq_true] at hk; exact hk.1), hrg6, B6⟩
        case measure => rw [hrg6.left_eq, hrg.left_eq]; exact hlt5
end Go.Proofs.YtjdnmknegpikcaaDoor
