/-
  The law FnTranscriptText returns true for every code: its walk over the contracts.
-/
import Derived.Test.YtnndkdkmhjpcpaaDoorTextPl
import Derived.Test.YtnndkdkmhjpcpaaDoorSpeakI
import Derived.Test.YtnndkdkmhjpcpaaDoorAppendI
import Derived.Test.YtnndkdkmhjpcpaaDoorAppendS
import Derived.Test.YtnndkdkmhjpcpaaDoorParseTrans
import Derived.Test.YtnndkdkmhjpcpaaDoorDrawAppend
import Derived.Test.YtnndkdkmhjpcpaaDoorRTurns
import Derived.Test.YtnndkdkmhjpcpaaDoorRText
namespace Go.Proofs.YtnndkdkmhjpcpaaDoor
open Go.RowKit
set_option linter.unusedVariables false
set_option linter.unusedSimpArgs false
set_option maxRecDepth 100000

set_option maxHeartbeats 16000000 in
theorem law_TranscriptText (A : Option Addr) (n cap : Nat) (zs : List Int) (W : World) (h : Ints .u8 W A n cap zs) (hm : MaxOk W) :
    Calls Tryd.prog 3 #[.slice A n cap] W fun e W' => e = .returned (.bool true) ∧ Below W.heap.size W W' := by
  have HM := Lib.hid (show ∀ W', Below W.heap.size W W' → MaxOk W' from fun W' hb => hm.below hb)
  clear hm
  by_cases hbig : 65536 < n
  · go_enter Tryd.func3, Tryd.ntmps3
    go_wp2_with fail
    refine (rBigT_calls A n cap _).mono ?_
    rw [show decide (65536 < n) = true by simp [hbig]]
    rintro e w1 ⟨rfl, rfl⟩
    go_wp2
    go_ret
    exact ⟨rfl, Below.refl _ _⟩
  go_enter Tryd.func3, Tryd.ntmps3
  go_wp2_with fail
  refine (rBigT_calls A n cap _).mono ?_
  rw [show decide (65536 < n) = false by simp [hbig]]
  rintro e w0 ⟨rfl, rfl⟩
  go_wp2_with fail
  refine (drawAppendTurn_calls A n cap zs _ h).mono ?_
  rintro e w1 ⟨v, l, sp, tx, rfl, own1, hl, ht, hps, htx, b1⟩
  obtain ⟨A1, c1, rfl, -, -, -⟩ := own1.slice
  have HSH := Lib.hid (show ShortT l from fun c hc => by have := ht c hc; omega)
  have hln : l.length ≤ 1048576 := by omega
  have hfz : (formTB l).size ≤ 20000 := by
    unfold formTB
    split
    · next hv =>
      have h1 := formT_small (B := 112) l (fun c hc => by have := ht c hc; have := speaker_len hv hc; omega)
      have h2 : (transText l).size = (formT l).length := rfl
      have h3 := trans_len hv
      omega
    · decide
  have HRD := Lib.hid (form_read l)
  obtain ⟨q, hq⟩ : ∃ q, q = appB l sp tx := ⟨_, rfl⟩
  obtain ⟨M, hM⟩ : ∃ M, M = resT l sp tx := ⟨_, rfl⟩
  obtain ⟨s, hs⟩ : ∃ s, s = formTB l := ⟨_, rfl⟩
  obtain ⟨qv, hqv⟩ : ∃ qv, qv = transB l := ⟨_, rfl⟩
  have hMl : M.length ≤ 30 := by rw [hM]; exact resT_len l sp tx
  rw [← hs] at hfz HRD
  have HQ := Lib.hid hq
  have HMM := Lib.hid hM
  have HS := Lib.hid hs
  have HQV := Lib.hid hqv
  clear h ht hq hM hs hqv hbig
  have nb1 := Box.new w1 26 (.slice A1 l.length c1)
  have na2 : Below w1.heap.size w1 (w1.alloc (.cells #[.slice A1 l.length c1] 26)) := (Below.refl _ _).alloc (Nat.le_refl _) _
  have nz3 : (w1.alloc (.cells #[.slice A1 l.length c1] 26)).heap.size = w1.heap.size + 1 := by simp
  have sz4 := na2.size
  have ow5 := own1.below na2
  have hB6 := b1.trans (na2.mono b1.size)
  have ce7 := nb1.cell
  go_wp2_with fail
  generalize hWx1 : w1.alloc (.cells #[.slice A1 l.length c1] 26) = x1 at *
  clear hWx1
  refine (impl_AppendTurn A1 c1 l.length l sp tx _ rfl (Reads.of_own ow5.1) hln HSH.out (by omega) (by omega) (HM.out _ hB6)).mono ?_
  rintro e w2 hr2
  unfold AppRes at hr2
  rw [← HQ.out, ← HMM.out] at hr2
  obtain ⟨v2, rfl, o2, b2⟩ := hr2
  obtain ⟨A2, c2, rfl, -, -, -⟩ := o2.slice
  have sz8 := b2.size
  have bx9 := nb1.far b2
  have ow10 := ow5.below b2
  have hB11 := hB6.trans (b2.mono hB6.size)
  have ce12 := bx9.cell
  have nb13 := Box.new w2 26 (.slice A2 M.length c2)
  have na14 : Below w2.heap.size w2 (w2.alloc (.cells #[.slice A2 M.length c2] 26)) := (Below.refl _ _).alloc (Nat.le_refl _) _
  have nz15 : (w2.alloc (.cells #[.slice A2 M.length c2] 26)).heap.size = w2.heap.size + 1 := by simp
  have sz16 := na14.size
  have bx17 := bx9.far na14
  have ow18 := ow10.below na14
  have ow19 := o2.below na14
  have hB20 := hB11.trans (na14.mono hB11.size)
  have ce21 := bx17.cell
  have ce22 := nb13.cell
  clear ce7 ce12
  go_wp2_with fail
  generalize hWx2 : w2.alloc (.cells #[.slice A2 M.length c2] 26) = x2 at *
  clear hWx2
  refine (spec_AppendTurn A1 c1 l.length l sp tx _ rfl (Reads.of_own ow18.1) hln HSH.out (by omega) (by omega)).mono ?_
  rintro e w3 hr3
  unfold AppRes at hr3
  rw [← HQ.out, ← HMM.out] at hr3
  obtain ⟨v3, rfl, o3, b3⟩ := hr3
  obtain ⟨A3, c3, rfl, -, -, -⟩ := o3.slice
  have sz23 := b3.size
  have bx24 := bx17.far b3
  have bx25 := nb13.far b3
  have ow26 := ow18.below b3
  have ow27 := ow19.below b3
  have hB28 := hB20.trans (b3.mono hB20.size)
  have ce29 := bx24.cell
  have ce30 := bx25.cell
  have nb31 := Box.new w3 26 (.slice A3 M.length c3)
  have na32 : Below w3.heap.size w3 (w3.alloc (.cells #[.slice A3 M.length c3] 26)) := (Below.refl _ _).alloc (Nat.le_refl _) _
  have nz33 : (w3.alloc (.cells #[.slice A3 M.length c3] 26)).heap.size = w3.heap.size + 1 := by simp
  have sz34 := na32.size
  have bx35 := bx24.far na32
  have bx36 := bx25.far na32
  have ow37 := ow26.below na32
  have ow38 := ow27.below na32
  have ow39 := o3.below na32
  have hB40 := hB28.trans (na32.mono hB28.size)
  have ce41 := bx35.cell
  have ce42 := bx36.cell
  have ce43 := nb31.cell
  clear ce21 ce22 ce29 ce30
  go_wp2_with fail
  generalize hWx3 : w3.alloc (.cells #[.slice A3 M.length c3] 26) = x3 at *
  clear hWx3
  refine (impl_FormatTranscript A1 c1 l _ (Reads.of_own ow37.1) (by omega) HSH.out (HM.out _ hB40)).mono ?_
  rintro e w4 hr4
  rw [← HS.out, ← HQV.out] at hr4
  obtain ⟨rfl, b4⟩ := hr4
  have sz44 := b4.size
  have bx45 := bx35.far b4
  have bx46 := bx36.far b4
  have bx47 := nb31.far b4
  have ow48 := ow37.below b4
  have ow49 := ow38.below b4
  have ow50 := ow39.below b4
  have hB51 := hB40.trans (b4.mono hB40.size)
  have ce52 := bx45.cell
  have ce53 := bx46.cell
  have ce54 := bx47.cell
  clear ce41 ce42 ce43
  go_wp2_with fail
  refine (impl_ParseTranscript s _ (by omega) (HM.out _ hB51)).mono ?_
  rintro e w5 ⟨l5, v5, hcase, o5, b5⟩
  obtain ⟨m5, hm5, hm6⟩ := HRD.out
  have hc5 : transB l5 = true ∧ transText l5 = s ∧ e = .returned (.tuple #[.agg #[v5], .bool true]) := by
    rcases hcase with ⟨-, h1, h2, h3⟩ | ⟨h1, -, -⟩
    · exact ⟨h1, h2, h3⟩
    · exact absurd hm6 (h1 hfz m5 hm5)
  clear hcase
  obtain ⟨hv5, ht5, rfl⟩ := hc5
  have h30 := trans_len hv5
  obtain ⟨A5, c5, rfl, -, -, -⟩ := o5.slice
  have HB5 := Lib.hid (show qv = true → l5 = l from fun h => transText_inj hv5 (by rw [← HQV.out]; exact h) (by rw [ht5, HS.out, formTB, ← HQV.out, h]; rfl))
  clear hm5 hm6 hv5 ht5
  have sz55 := b5.size
  have bx56 := bx45.far b5
  have bx57 := bx46.far b5
  have bx58 := bx47.far b5
  have ow59 := ow48.below b5
  have ow60 := ow49.below b5
  have ow61 := ow50.below b5
  have hB62 := hB51.trans (b5.mono hB51.size)
  have ce63 := bx56.cell
  have ce64 := bx57.cell
  have ce65 := bx58.cell
  have nb66 := Box.new w5 26 (.slice A5 l5.length c5)
  have na67 : Below w5.heap.size w5 (w5.alloc (.cells #[.slice A5 l5.length c5] 26)) := (Below.refl _ _).alloc (Nat.le_refl _) _
  have nz68 : (w5.alloc (.cells #[.slice A5 l5.length c5] 26)).heap.size = w5.heap.size + 1 := by simp
  have sz69 := na67.size
  have bx70 := bx56.far na67
  have bx71 := bx57.far na67
  have bx72 := bx58.far na67
  have ow73 := ow59.below na67
  have ow74 := ow60.below na67
  have ow75 := ow61.below na67
  have ow76 := o5.below na67
  have hB77 := hB62.trans (na67.mono hB62.size)
  have ce78 := bx70.cell
  have ce79 := bx71.cell
  have ce80 := bx72.cell
  have ce81 := nb66.cell
  have hqq : (q != q) = false := by cases q <;> rfl
  have hvv : (qv != qv) = false := by cases qv <;> rfl
  clear ce52 ce53 ce54 ce63 ce64 ce65
  go_wp2_with fail
  generalize hWx5 : w5.alloc (.cells #[.slice A5 l5.length c5] 26) = x5 at *
  clear hWx5
  refine (rTurns_same A2 A3 c2 c3 M _ (by omega) (Reads.of_own ow74.1) (Reads.of_own ow75.1)).mono ?_
  rintro e w6 ⟨rfl, b6⟩
  have sz82 := b6.size
  have bx83 := bx70.far b6
  have bx84 := bx71.far b6
  have bx85 := bx72.far b6
  have bx86 := nb66.far b6
  have ow87 := ow73.below b6
  have ow88 := ow74.below b6
  have ow89 := ow75.below b6
  have ow90 := ow76.below b6
  have hB91 := hB77.trans (b6.mono hB77.size)
  have ce92 := bx83.cell
  have ce93 := bx84.cell
  have ce94 := bx85.cell
  have ce95 := bx86.cell
  clear ce78 ce79 ce80 ce81
  go_wp2_with fail
  refine (impl_IsValidTranscript A1 c1 l _ (Reads.of_own ow87.1) (by omega) HSH.out (HM.out _ hB91)).mono ?_
  rintro e w7 hr7
  rw [← HQV.out] at hr7
  obtain ⟨rfl, b7⟩ := hr7
  have sz96 := b7.size
  have bx97 := bx83.far b7
  have bx98 := bx84.far b7
  have bx99 := bx85.far b7
  have bx100 := bx86.far b7
  have ow101 := ow87.below b7
  have ow102 := ow88.below b7
  have ow103 := ow89.below b7
  have ow104 := ow90.below b7
  have hB105 := hB91.trans (b7.mono hB91.size)
  have ce106 := bx97.cell
  have ce107 := bx98.cell
  have ce108 := bx99.cell
  have ce109 := bx100.cell
  clear ce92 ce93 ce94 ce95
  cases hqv : qv
  · have hqf : q = false := by rw [HQ.out]; unfold appB; rw [← HQV.out, hqv]; rfl
    subst hqf
    clear hqv hvv hqq
    go_wp2
    go_ret
    exact ⟨rfl, hB105⟩
  have hl5 := HB5.out hqv
  subst hl5
  have HQT := Lib.hid hqv
  clear hvv
  subst hqv
  go_wp2_with fail
  refine (rTurns_same A5 A1 c5 c1 l5 _ (by omega) (Reads.of_own ow104.1) (Reads.of_own ow101.1)).mono ?_
  rintro e w8 ⟨rfl, b8⟩
  have sz110 := b8.size
  have bx111 := bx97.far b8
  have bx112 := bx98.far b8
  have bx113 := bx99.far b8
  have bx114 := bx100.far b8
  have ow115 := ow101.below b8
  have ow116 := ow102.below b8
  have ow117 := ow103.below b8
  have ow118 := ow104.below b8
  have hB119 := hB105.trans (b8.mono hB105.size)
  have ce120 := bx111.cell
  have ce121 := bx112.cell
  have ce122 := bx113.cell
  have ce123 := bx114.cell
  clear ce106 ce107 ce108 ce109
  cases hq : q
  · clear hqq hq
    go_wp2
    go_ret
    exact ⟨rfl, hB119⟩
  have HQ1 := Lib.hid hq
  clear hqq
  subst hq
  obtain ⟨hva, htb, hvo⟩ := app_parts HQ.out.symm
  have hMo : M = outT l5 sp tx := by rw [HMM.out, resT_yes HQ.out.symm]
  have hvM : transB M = true := by rw [hMo]; exact hvo
  have hsaid : allSaid M = allSaid l5 + (wordsV tx).length := by rw [hMo]; exact said_out hva htb
  have hst : splitB tx = true := text_split (by simp only [turnB, Bool.and_eq_true] at htb; exact htb.2)
  have hSM : ShortT M := by rw [hMo]; exact outT_short hva htb
  have hsa := says_all l5
  have hsm := says_all M
  have hza := sum_bounds (ns := namesL l5) hva
  have hzm := sum_bounds (ns := namesL M) hvM
  have hwl := (text_len (by simp only [turnB, Bool.and_eq_true] at htb; exact htb.2 : textB tx = true)).1
  have e1 : spkC l5 = saysL (namesL l5) l5 := by rw [spkC, hva]; rfl
  have e2 : spkC M = saysL (namesL M) M := by rw [spkC, hvM]; rfl
  have f1 : (spkC l5).length ≤ 30 := by rw [spkC_len]; exact spkN_len l5
  have f2 : (spkC M).length ≤ 30 := by rw [spkC_len]; exact spkN_len M
  rw [← e1] at hsa hza
  rw [← e2] at hsm hzm
  have HZA := Lib.hid hza
  have HZM := Lib.hid hzm
  have HST := Lib.hid hst
  have HSM := Lib.hid hSM
  have HVA := Lib.hid hva
  have HVM := Lib.hid hvM
  have HSUM := Lib.hid (show (spkC M).sum = (spkC l5).sum + ((wordsV tx).length : Int) by rw [hsa, hsm, hsaid]; simp)
  have hbnd : (0 : Int) ≤ (spkC l5).sum ∧ (spkC l5).sum ≤ 1000000 := by
    rw [hsa]
    have h1 : allSaid l5 ≤ 30 * 40 := by
      have : ∀ k, k ≤ l5.length → allSaid (l5.take k) ≤ k * 40 := fun k => by
        induction k with
        | zero => intro _; simp [allSaid]
        | succ k ih =>
          intro hk
          obtain ⟨c, hc⟩ := some_at l5 (show k < l5.length by omega)
          rw [take_succ_of hc, said_app, said_one]
          have := (text_len (turn_text hva hc)).1
          have := ih (by omega)
          omega
      have h2 := this l5.length (Nat.le_refl _)
      rw [List.take_length] at h2
      omega
    omega
  clear hza hzm hst hSM hva hvM hsaid hsa hsm e1 e2 htb hvo hMo
  go_wp2_with fail
  refine (impl_SpeakerWords A1 c1 l5 _ (Reads.of_own ow115.1) hln HSH.out (HM.out _ hB119)).mono ?_
  rintro e w9 ⟨v9, u9, rfl, o9, p9, b9⟩
  rw [HVA.out]
  obtain ⟨A9, c9, rfl, -, -, -⟩ := o9.slice
  obtain ⟨C9, d9, rfl, -, -, -⟩ := p9.slice
  have sz124 := b9.size
  have bx125 := bx111.far b9
  have bx126 := bx112.far b9
  have bx127 := bx113.far b9
  have bx128 := bx114.far b9
  have ow129 := ow115.below b9
  have ow130 := ow116.below b9
  have ow131 := ow117.below b9
  have ow132 := ow118.below b9
  have hB133 := hB119.trans (b9.mono hB119.size)
  have ce134 := bx125.cell
  have ce135 := bx126.cell
  have ce136 := bx127.cell
  have ce137 := bx128.cell
  clear ce120 ce121 ce122 ce123
  go_wp2_with fail
  refine (impl_SpeakerWords A2 c2 M _ (Reads.of_own ow130.1) (by omega) HSM.out (HM.out _ hB133)).mono ?_
  rintro e w10 ⟨v10, u10, rfl, o10, p10, b10⟩
  rw [HVM.out]
  obtain ⟨A10, c10, rfl, -, -, -⟩ := o10.slice
  obtain ⟨C10, d10, rfl, -, -, -⟩ := p10.slice
  have sz138 := b10.size
  have bx139 := bx125.far b10
  have bx140 := bx126.far b10
  have bx141 := bx127.far b10
  have bx142 := bx128.far b10
  have ow143 := ow129.below b10
  have ow144 := ow130.below b10
  have ow145 := ow131.below b10
  have ow146 := ow132.below b10
  have ow147 := p9.below b10
  have hB148 := hB133.trans (b10.mono hB133.size)
  have ce149 := bx139.cell
  have ce150 := bx140.cell
  have ce151 := bx141.cell
  have ce152 := bx142.cell
  clear ce134 ce135 ce136 ce137
  go_wp2_with fail
  refine (impl_SplitWords tx _ HST.out (HM.out _ hB148)).mono ?_
  rintro e w11 ⟨v11, rfl, o11, b11⟩
  obtain ⟨A11, c11, rfl, -, -, -⟩ := o11.slice
  have sz153 := b11.size
  have bx154 := bx139.far b11
  have bx155 := bx140.far b11
  have bx156 := bx141.far b11
  have bx157 := bx142.far b11
  have ow158 := ow143.below b11
  have ow159 := ow144.below b11
  have ow160 := ow145.below b11
  have ow161 := ow146.below b11
  have ow162 := ow147.below b11
  have ow163 := p10.below b11
  have hB164 := hB148.trans (b11.mono hB148.size)
  have ce165 := bx154.cell
  have ce166 := bx155.cell
  have ce167 := bx156.cell
  have ce168 := bx157.cell
  clear ce149 ce150 ce151 ce152
  go_wp2_with fail
  refine (rSum_calls C10 d10 (spkC M) _ (Reads.of_own ow163.1) (by omega) HZM.out).mono ?_
  rintro e w12 ⟨rfl, rfl⟩
  go_wp2_with fail
  refine (rSum_calls C9 d9 (spkC l5) _ (Reads.of_own ow162.1) (by omega) HZA.out).mono ?_
  rintro e w13 ⟨rfl, rfl⟩
  rw [HSUM.out]
  obtain ⟨sa, hsa⟩ : ∃ sa, sa = (spkC l5).sum := ⟨_, rfl⟩
  rw [← hsa] at hbnd ⊢
  have hwr : IntKind.i64.wrap (sa + ((wordsV tx).length : Int)) = sa + ((wordsV tx).length : Int) := IntWalk.i64_in _ (by omega)
  clear hsa
  go_wp2
  go_ret
  exact ⟨rfl, hB164⟩
end Go.Proofs.YtnndkdkmhjpcpaaDoor
