/-
  The law FnStatisticsEntries returns true for every code: its walk over the contracts.
-/
import Derived.Test.YtoimkppjbabgeaaGreatDoorUnu
import Derived.Test.YtoimkppjbabgeaaGreatDoorUsePl
import Derived.Test.YtoimkppjbabgeaaGreatDoorRSum
import Derived.Test.YtoimkppjbabgeaaGreatDoorDrawP
import Derived.Test.YtoimkppjbabgeaaGreatDoorRText
namespace Go.Proofs.YtoimkppjbabgeaaGreatDoor
open Go.RowKit
set_option linter.unusedVariables false
set_option linter.unusedSimpArgs false
set_option maxRecDepth 100000

theorem uses_len40 (l : List EntD) (zs : List Int) : (usesD l zs).length ≤ 40 := by
  cases h : okD l zs with
  | true => exact usesD_40 h
  | false => simp [usesD, h]
theorem unused_len40 (l : List EntD) (zs : List Int) : (unusedD l zs).length ≤ 40 := by
  cases h : okD l zs with
  | true =>
    have e1 : usesD l zs = useD l zs := by simp [usesD, h]
    have h1 := uses_len40 l zs
    rw [e1] at h1
    unfold unusedD
    rw [if_pos h]
    exact Nat.le_trans (zerosT_len _ _) h1
  | false => simp [unusedD, h]

set_option maxHeartbeats 16000000 in
theorem law_StatisticsEntries (A : Option Addr) (n cap : Nat) (zs : List Int) (W : World) (h : Ints .u8 W A n cap zs) (hm : MaxOk W) :
    Calls Tryz.prog 3 #[.slice A n cap] W fun e W' => e = .returned (.bool true) ∧ Below W.heap.size W W' := by
  have HM := Lib.hid (show ∀ W', Below W.heap.size W W' → MaxOk W' from fun W' hb => hm.below hb)
  clear hm
  by_cases hbig : 65536 < n
  · go_enter Tryz.func3, Tryz.ntmps3
    go_wp2_with fail
    refine (rBigT_calls A n cap _).mono ?_
    rw [show decide (65536 < n) = true by simp [hbig]]
    rintro e w1 ⟨rfl, rfl⟩
    go_wp2
    go_ret
    exact ⟨rfl, Below.refl _ _⟩
  go_enter Tryz.func3, Tryz.ntmps3
  go_wp2_with fail
  refine (rBigT_calls A n cap _).mono ?_
  rw [show decide (65536 < n) = false by simp [hbig]]
  rintro e w0 ⟨rfl, rfl⟩
  go_wp2_with fail
  refine (drawEntryCounts_calls A n cap zs _ h).mono ?_
  rintro e w1 ⟨v, l, Az, cz, xs, rfl, hd, he, hz, hzl, hzc, hcm, b1⟩
  obtain ⟨Al, cl, rfl, hrd, -, -⟩ := hd.slice
  have HSH := Lib.hid (he.short (by omega))
  have hl41 := he.1
  have hln : l.length ≤ 1048576 := by omega
  have hzn : xs.length ≤ 1048576 := by omega
  obtain ⟨x1, hx1⟩ : ∃ x1, x1 = w1.alloc (.cells #[.slice Al l.length cl] 26) := ⟨_, rfl⟩
  have B1 : Below W.heap.size W x1 := by rw [hx1]; exact b1.alloc b1.size _
  have HRT := Lib.hid (show ∀ W', Below x1.heap.size x1 W' → DictR W' W'.heap.size Al l from fun W' hb => by
    rw [hx1] at hb
    exact ((((hrd.alloc (Nat.le_refl _) _).more (by simp)).below hb).more hb.size))
  have HZT := Lib.hid (show ∀ W', Below x1.heap.size x1 W' → Reads W' W'.heap.size 1 Az xs.length (ints xs) from fun W' hb => by
    rw [hx1] at hb
    exact ((((hz.alloc (Nat.le_refl _) _).more (by simp)).below hb).more hb.size))
  have HCT := Lib.hid (show ∀ W', Below x1.heap.size x1 W' → W'.cell? ⟨w1.heap.size, 0, none⟩ = some (.slice Al l.length cl) from fun W' hb => by
    rw [hx1] at hb
    exact ((Box.new w1 26 (.slice Al l.length cl)).far hb).cell)
  have HWT := Lib.hid (show ∀ W', Below x1.heap.size x1 W' → Below W.heap.size W W' from fun W' hb => B1.trans (hb.mono B1.size))
  have cT := HCT.out _ (Below.refl _ _)
  obtain ⟨q, hq⟩ : ∃ q, q = okD l xs := ⟨_, rfl⟩
  obtain ⟨us, hus⟩ : ∃ q, q = usesD l xs := ⟨_, rfl⟩
  obtain ⟨un, hun⟩ : ∃ q, q = unusedD l xs := ⟨_, rfl⟩
  obtain ⟨pn, hpn⟩ : ∃ q, q = perN l xs := ⟨_, rfl⟩
  obtain ⟨pp, hpp⟩ : ∃ q, q = perP l xs := ⟨_, rfl⟩
  have hul := uses_len40 l xs
  have hvl := unused_len40 l xs
  have hbd := per_bounds l xs
  have HMEM := Lib.hid (show ∀ (i : Nat) (x : Int), (usesD l xs)[i]? = some x → decide ((i : Int) ∈ unusedD l xs) = decide (x = 0) from fun i x h => unused_mem h)
  have HSUM := Lib.hid (@uses_sum l xs)
  have HUB := Lib.hid (show ∀ z ∈ us, 0 ≤ z ∧ z ≤ 1000000 from fun z hz => by
    rw [hus] at hz
    have h1 := uses_bd z hz
    have h2 := segD_len l xs
    omega)
  rw [← hus] at hul
  rw [← hun] at hvl
  rw [← hpn, ← hpp] at hbd
  rw [← hus, ← hun] at HMEM
  rw [← hus, ← hpp] at HSUM
  have HQ := Lib.hid hq
  have HUS := Lib.hid hus
  have HUN := Lib.hid hun
  have HPN := Lib.hid hpn
  have HPP := Lib.hid hpp
  clear h hd he hz b1 hrd hq hus hun hpn hpp hbig
  go_wp2_with fail
  rw [← hx1]
  clear hx1
  refine (impl_EntryCounts Al Az cl cz l xs _ (HRT.out _ (Below.refl _ _)) hln HSH.out (HM.out _ B1) (HZT.out _ (Below.refl _ _)) hzn hzc hcm).mono ?_
  unfold IntsRes
  rw [← HQ.out, ← HUS.out]
  rintro e w2 ⟨v2, rfl, o2, T2⟩
  have O2 := Lib.hid o2
  clear o2 cT
  have cT := HCT.out _ T2
  go_wp2_with fail
  refine (spec_EntryCounts Al Az cl cz l xs _ (HRT.out _ T2) hln HSH.out (HZT.out _ T2) hzn hzc hcm).mono ?_
  unfold IntsRes
  rw [← HQ.out, ← HUS.out]
  rintro e w3 ⟨v3, rfl, o3, b3⟩
  have O3 := Lib.hid o3
  have O23 := Lib.hid (O2.out.below b3)
  have T3 := T2.trans (b3.mono T2.size)
  clear o3 cT
  have cT := HCT.out _ T3
  go_wp2_with fail
  refine (impl_UnusedEntries Al Az cl cz l xs _ (HRT.out _ T3) hln HSH.out (HM.out _ (HWT.out _ T3)) (HZT.out _ T3) hzn hzc hcm).mono ?_
  unfold IntsRes
  rw [← HQ.out, ← HUN.out]
  rintro e w4 ⟨v4, rfl, o4, b4⟩
  have O4 := Lib.hid o4
  have O24 := Lib.hid (O23.out.below b4)
  have O34 := Lib.hid (O3.out.below b4)
  have T4 := T3.trans (b4.mono T3.size)
  clear o4 cT
  have cT := HCT.out _ T4
  go_wp2_with fail
  refine (impl_StrokesPerPiece Al Az cl cz l xs _ (HRT.out _ T4) hln HSH.out (HM.out _ (HWT.out _ T4)) (HZT.out _ T4) hzn hzc hcm).mono ?_
  unfold PerRes
  rw [← HQ.out, ← HPN.out, ← HPP.out]
  rintro e w5 ⟨rfl, b5⟩
  have O25 := Lib.hid (O24.out.below b5)
  have O35 := Lib.hid (O34.out.below b5)
  have O45 := Lib.hid (O4.out.below b5)
  have T5 := T4.trans (b5.mono T4.size)
  clear cT
  have cT := HCT.out _ T5
  go_wp2_with fail
  refine (spec_StrokesPerPiece Al Az cl cz l xs _ (HRT.out _ T5) hln HSH.out (HZT.out _ T5) hzn hzc hcm).mono ?_
  unfold PerRes
  rw [← HQ.out, ← HPN.out, ← HPP.out]
  rintro e w6 ⟨rfl, b6⟩
  have T6 := T5.trans (b6.mono T5.size)
  obtain ⟨A2, c2, hv2, r2, -, -⟩ := (O25.out.below b6).slice
  obtain ⟨A3, c3, hv3, r3, -, -⟩ := (O35.out.below b6).slice
  obtain ⟨A4, c4, hv4, r4, -, -⟩ := (O45.out.below b6).slice
  subst hv2 hv3 hv4
  have B6 := HWT.out _ T6
  have R2 := Lib.hid r2
  have R3 := Lib.hid r3
  have R4 := Lib.hid r4
  have hqq : (q != q) = false := by cases q <;> rfl
  have hnn : (pn != pn) = false := by simp
  have hpp2 : (pp != pp) = false := by simp
  clear r2 r3 r4 O2 O23 O3 O24 O34 O4 O25 O35 O45 b3 b4 b5 b6 cT T2 T3 T4 T5 T6 HRT HZT HCT HWT
  go_wp2_with fail
  refine (rInts_same A2 A3 c2 c3 us _ (by omega) R2.out R3.out).mono ?_
  rintro e w7 ⟨rfl, b7⟩
  have B7 := B6.trans (b7.mono B6.size)
  have R27 := Lib.hid ((R2.out.below b7).more b7.size)
  have R47 := Lib.hid ((R4.out.below b7).more b7.size)
  clear R2 R3 R4 b7 B6
  go_wp2
  go_loopw [17] (fun i wr => ∃ k : Nat, k ≤ us.length ∧ i = .int .i64 k ∧ Below w7.heap.size w7 wr) (fun i _ => us.length - (intOf i).toNat)
  case atStart => exact ⟨0, Nat.zero_le _, rfl, Below.refl _ _⟩
  case round =>
    obtain ⟨k, hk, rfl, hb⟩ := hrel
    by_cases hlt : k < us.length
    · obtain ⟨x, hx⟩ := some_at us hlt
      have hmem := HMEM.out k x hx
      have r2 := R27.out.below hb
      have r4 := (R47.out.below hb).more hb.size
      obtain ⟨b, off, hA2, -, hc⟩ := r2.2 (by omega)
      subst hA2
      have c1 : wr.cell? ⟨b, off + k, none⟩ = some (.int .i64 x) := hc k _ (ints_at _ hx)
      have i0 : (0 : Int) ≤ (k : Int) := by omega
      have i1 : (k : Int) < (us.length : Int) := by omega
      have HRH := Lib.hid (fun N => rHas_calls A4 c4 un (k : Int) (wr.drewN N) (r4.drewN N) (by omega))
      rw [hmem] at HRH
      clear hc r2 r4 hmem hx
      by_cases hx0 : x = 0
      · subst hx0
        rw [show decide ((0 : Int) = 0) = true from rfl] at HRH
        go_wp2
        go_quiet ((go_at_call 13; exact quiet_left (HRH.out _)))
        go_wp2
        go_roundw
        case rel => exact ⟨k + 1, hlt, by go_num, below_drewN hb _⟩
        case measure => simp [intOf]; omega
      · have e1 : (x == 0) = false := by simp [hx0]
        rw [show decide (x = 0) = false by simp [hx0]] at HRH
        clear hx0
        go_wp2
        go_quiet ((go_at_call 13; exact quiet_left (HRH.out _)))
        go_wp2
        go_roundw
        case rel => exact ⟨k + 1, hlt, by go_num, below_drewN hb _⟩
        case measure => simp [intOf]; omega
    · obtain rfl : k = us.length := by omega
      have BF := B7.trans (hb.mono B7.size)
      have R2F := Lib.hid ((R27.out.below hb).more hb.size)
      clear hb
      cases q with
      | false =>
        go_wp2
        go_ret
        exact ⟨rfl, BF⟩
      | true =>
        obtain ⟨d0, d1, d2⟩ := hbd
        go_wp2_with fail
        refine (rSumI_calls A2 c2 us _ R2F.out (by omega) HUB.out).mono ?_
        rw [HSUM.out]
        rintro e w8 ⟨rfl, rfl⟩
        have hpe : (pp == pp) = true := by simp
        go_wp2
        go_ret
        exact ⟨rfl, BF⟩
end Go.Proofs.YtoimkppjbabgeaaGreatDoor
