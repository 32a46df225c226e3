/-
  The law FnStatisticsSpeed returns true for every code: its walk over the contracts.
-/
import Derived.Test.YtoimkppjbabgeaaGreatDoorFewI
import Derived.Test.YtoimkppjbabgeaaGreatDoorDrawO
import Derived.Test.YtoimkppjbabgeaaGreatDoorRText
import Derived.Test.YtoimkppjbabgeaaGreatDoorCut
import Derived.Test.YtoimkppjbabgeaaGreatDoorWpm
namespace Go.Proofs.YtoimkppjbabgeaaGreatDoor
open Go.RowKit
set_option linter.unusedVariables false
set_option linter.unusedSimpArgs false
set_option maxRecDepth 100000

set_option maxHeartbeats 16000000 in
theorem law_StatisticsSpeed (A : Option Addr) (n cap : Nat) (zs : List Int) (W : World) (h : Ints .u8 W A n cap zs) (hm : MaxOk W) :
    Calls Tryz.prog 4 #[.slice A n cap] W fun e W' => e = .returned (.bool true) ∧ Below W.heap.size W W' := by
  have HM := Lib.hid (show ∀ W', Below W.heap.size W W' → MaxOk W' from fun W' hb => hm.below hb)
  clear hm
  by_cases hbig : 65536 < n
  · go_enter Tryz.func4, Tryz.ntmps4
    go_wp2_with fail
    refine (rBigT_calls A n cap _).mono ?_
    rw [show decide (65536 < n) = true by simp [hbig]]
    rintro e w1 ⟨rfl, rfl⟩
    go_wp2
    go_ret
    exact ⟨rfl, Below.refl _ _⟩
  go_enter Tryz.func4, Tryz.ntmps4
  go_wp2_with fail
  refine (rBigT_calls A n cap _).mono ?_
  rw [show decide (65536 < n) = false by simp [hbig]]
  rintro e w0 ⟨rfl, rfl⟩
  go_wp2_with fail
  refine (drawPieceExcess_calls A n cap zs _ h).mono ?_
  rintro e w1 ⟨v, l, Az, cz, xs, rfl, hd, he, hz, hzl, hzc, hcm, b1⟩
  obtain ⟨Al, cl, rfl, hrd, -, -⟩ := hd.slice
  have HSH := Lib.hid (he.short (by omega))
  have hl41 := he.1
  have hln : l.length ≤ 1048576 := by omega
  have hzn : xs.length ≤ 1048576 := by omega
  have hn6 : n ≤ 65536 := by omega
  have HI := Lib.hid (show ∀ W', Below W.heap.size W W' → Ints .u8 W' A n cap zs from fun W' hb => ⟨(h.1.below hb).more hb.size, h.2⟩)
  obtain ⟨x1, hx1⟩ : ∃ x1, x1 = w1.alloc (.cells #[.slice Al l.length cl] 26) := ⟨_, rfl⟩
  have B1 : Below W.heap.size W x1 := by rw [hx1]; exact b1.alloc b1.size _
  have HRT := Lib.hid (show ∀ W', Below x1.heap.size x1 W' → DictR W' W'.heap.size Al l from fun W' hb => by
    rw [hx1] at hb
    exact ((((hrd.alloc (Nat.le_refl _) _).more (by simp)).below hb).more hb.size))
  have HZT := Lib.hid (show ∀ W', Below x1.heap.size x1 W' → Reads W' W'.heap.size 1 Az xs.length (ints xs) from fun W' hb => by
    rw [hx1] at hb
    exact ((((hz.alloc (Nat.le_refl _) _).more (by simp)).below hb).more hb.size))
  have HCT := Lib.hid (show ∀ W', Below x1.heap.size x1 W' → W'.cell? ⟨w1.heap.size, 0, none⟩ = some (.slice Al l.length cl) from fun W' hb => by
    rw [hx1] at hb
    exact ((Box.new w1 26 (.slice Al l.length cl)).far hb).cell)
  have HWT := Lib.hid (show ∀ W', Below x1.heap.size x1 W' → Below W.heap.size W W' from fun W' hb => B1.trans (hb.mono B1.size))
  have cT := HCT.out _ (Below.refl _ _)
  obtain ⟨q, hq⟩ : ∃ q, q = okD l xs := ⟨_, rfl⟩
  obtain ⟨x, hx⟩ : ∃ q, q = exV l xs := ⟨_, rfl⟩
  have HQ := Lib.hid hq
  have HX := Lib.hid hx
  clear h hd he hz b1 hrd hq hx hbig
  go_wp2_with fail
  rw [← hx1]
  clear hx1
  refine (impl_PieceExcess Al Az cl cz l xs _ (HRT.out _ (Below.refl _ _)) hln HSH.out (HM.out _ B1) (HZT.out _ (Below.refl _ _)) hzn hzc hcm).mono ?_
  unfold ExRes
  rw [← HQ.out, ← HX.out]
  rintro e w2 ⟨rfl, T2⟩
  clear cT
  have cT := HCT.out _ T2
  go_wp2_with fail
  refine (spec_PieceExcess Al Az cl cz l xs _ (HRT.out _ T2) hln HSH.out (HZT.out _ T2) hzn hzc hcm).mono ?_
  unfold ExRes
  rw [← HQ.out, ← HX.out]
  rintro e w3 ⟨rfl, b3⟩
  have T3 := T2.trans (b3.mono T2.size)
  have B3 := HWT.out _ T3
  have hqq : (q != q) = false := by cases q <;> rfl
  have hxx : (x != x) = false := by simp
  clear cT b3 T2 T3
  go_wp2_with fail
  refine (rCut_calls A n cap zs 1 _ (HI.out _ B3) hn6 (by omega)).mono ?_
  rintro e w4 ⟨A4, n4, c4, z4, rfl, i4, b4⟩
  have B4 := B3.trans (b4.mono B3.size)
  clear hqq hxx b4 B3
  go_wp2_with fail
  refine (drawWPM_calls A4 n4 c4 z4 _ i4).mono ?_
  rintro e w5 ⟨a, b, rfl, b5⟩
  have B5 := B4.trans (b5.mono B4.size)
  clear i4 b5 B4
  obtain ⟨q2, hq2⟩ : ∃ q, q = wpmB a b := ⟨_, rfl⟩
  obtain ⟨x2, hx2⟩ : ∃ q, q = wpmV a b := ⟨_, rfl⟩
  have HQ2 := Lib.hid hq2
  have HX2 := Lib.hid hx2
  have HD := Lib.hid (@wpm_down a b)
  rw [← hq2, ← hx2] at HD
  clear hq2 hx2
  go_wp2_with fail
  refine (impl_WPM a b _).mono ?_
  rw [← HQ2.out, ← HX2.out]
  rintro e w6 ⟨rfl, rfl⟩
  go_wp2_with fail
  refine (spec_WPM a b _).mono ?_
  rw [← HQ2.out, ← HX2.out]
  rintro e w7 ⟨rfl, rfl⟩
  have hxx : (x2 != x2) = false := by simp
  cases q2 with
  | false =>
    go_wp2
    go_ret
    exact ⟨rfl, B5⟩
  | true =>
    obtain ⟨d0, d1, d2, d3, d4, d5, a0, a1, b0, b1⟩ := HD.out rfl
    have g1 : 0 ≤ (x2 + 1) * b := by omega
    go_wp2
    go_ret
    exact ⟨rfl, B5⟩
end Go.Proofs.YtoimkppjbabgeaaGreatDoor
