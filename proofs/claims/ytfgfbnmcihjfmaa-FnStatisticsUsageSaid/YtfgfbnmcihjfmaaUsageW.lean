/-
  The law FnStatisticsUsage returns true for every code: its walk over the contracts.
-/
import Derived.Test.YtfgfbnmcihjfmaaFreqW
import Derived.Test.YtfgfbnmcihjfmaaHand
import Derived.Test.YtfgfbnmcihjfmaaDrawUsage
import Derived.Test.YtfgfbnmcihjfmaaRSum
namespace Go.Proofs.Ytfgfbnmcihjfmaa
open Go.RowKit
set_option linter.unusedVariables false
set_option linter.unusedSimpArgs false
set_option maxRecDepth 100000

set_option maxHeartbeats 1000000 in
theorem rBigU_calls (A : Option Addr) (n cap : Nat) (w : World) : Calls Try.prog 11 #[.slice A n cap] w fun e w' => e = .returned (.bool (decide (65536 < n))) ∧ w = w' := by
  by_cases h : 65536 < n
  · have h' : (65536 : Int) < (n : Int) := by omega
    go_enter Try.func11, Try.ntmps11
    go_wp2
    go_ret
    exact ⟨ret_bool (by simp [h]), rfl⟩
  · have h' : ¬ (65536 : Int) < (n : Int) := by omega
    go_enter Try.func11, Try.ntmps11
    go_wp2
    go_ret
    exact ⟨ret_bool (by simp [h]), rfl⟩
set_option maxHeartbeats 2000000 in
theorem rIntsU_same (A B : Option Addr) (ca cb : Nat) (l : List Int) (w : World) (hn : l.length ≤ 1048576) (ha : Reads w w.heap.size 1 A l.length (ints l)) (hb : Reads w w.heap.size 1 B l.length (ints l)) :
    Calls Try.prog 16 #[.slice A l.length ca, .slice B l.length cb] w fun e w' => e = .returned (.bool true) ∧ Below w.heap.size w w' := by
  go_enter Try.func16, Try.ntmps16
  go_wp2
  go_loopw [5] (fun i wr => ∃ k : Nat, k ≤ l.length ∧ i = .int .i64 k ∧ Below w.heap.size w wr) (fun i _ => l.length - (intOf i).toNat)
  case atStart => exact ⟨0, Nat.zero_le _, rfl, Below.refl _ _⟩
  case round =>
    obtain ⟨k, hk, rfl, hbl⟩ := hrel
    have ra := ha.below hbl
    have rb := hb.below hbl
    by_cases hlt : k < l.length
    · obtain ⟨b, off, rfl, hb0, hc⟩ := ra.2 (by omega)
      obtain ⟨b', off', rfl, hb0', hc'⟩ := rb.2 (by omega)
      obtain ⟨x, hx⟩ := some_at l hlt
      have cx : wr.cell? ⟨b, off + k, none⟩ = some (.int .i64 x) := hc k _ (ints_at l hx)
      have cy : wr.cell? ⟨b', off' + k, none⟩ = some (.int .i64 x) := hc' k _ (ints_at l hx)
      have hxx : (x != x) = false := by simp
      have i1 : (k : Int) < (l.length : Int) := by omega
      clear hx hc hc' ra rb ha hb
      go_wp2
      go_quiet (fail)
      go_wp2
      go_roundw
      case rel => exact ⟨k + 1, by omega, by go_num, below_drewN hbl _⟩
      case measure => simp [intOf]; omega
    · obtain rfl : k = l.length := by omega
      clear ra rb ha hb
      go_wp2
      go_ret
      exact ⟨rfl, hbl⟩
theorem sum_le {l : List Int} {B : Int} (h : Bd l B) (hB : 0 ≤ B) : 0 ≤ l.sum ∧ l.sum ≤ B * l.length := sum_bd l hB h
theorem parts_sum (u : List Int) : (leftL u).sum + (midL u).sum + (rightL u).sum = u.sum := by
  have h1 : u = u.take 8 ++ (u.drop 8).take 5 ++ u.drop 13 := by
    have a := List.take_append_drop 8 u
    have b := List.take_append_drop 5 (u.drop 8)
    rw [List.drop_drop] at b
    rw [List.append_assoc, b, a]
  unfold leftL midL rightL
  conv => rhs; rw [h1]
  rw [List.sum_append, List.sum_append]
/-- What HandBalance answers. -/
theorem handed_three {zs : List Int} {w w' : World} {e : Ending} (h : Handed zs w e w') : ∃ L M R : Int, e = .returned (.tuple #[.int .i64 L, .int .i64 M, .int .i64 R, .bool (strokesB zs)]) ∧ Below w.heap.size w w' ∧
    (strokesB zs = true → L + M + R = (usedL zs).sum ∧ 0 ≤ L ∧ 0 ≤ M ∧ 0 ≤ R ∧ L ≤ 1000000 ∧ M ≤ 1000000 ∧ R ≤ 1000000) := by
  obtain ⟨he, hb⟩ := h
  cases hv : strokesB zs
  · rw [hv] at he
    exact ⟨0, 0, 0, he, hb, fun h => by cases h⟩
  · rw [hv, if_pos rfl] at he
    have hl := (strokes_rng hv).1
    have hbd : Bd (usageL zs) 1380 := fun x hx => by have := usageL_bd zs x hx; omega
    have b1 : Bd (leftL (usageL zs)) 1380 := fun x hx => hbd x (List.mem_of_mem_take hx)
    have b2 : Bd (midL (usageL zs)) 1380 := fun x hx => hbd x (List.mem_of_mem_drop (List.mem_of_mem_take hx))
    have b3 : Bd (rightL (usageL zs)) 1380 := fun x hx => hbd x (List.mem_of_mem_drop hx)
    have s1 := sum_le b1 (by decide)
    have s2 := sum_le b2 (by decide)
    have s3 := sum_le b3 (by decide)
    have l1 : (leftL (usageL zs)).length ≤ 23 := by unfold leftL; rw [List.length_take, usageL_length]; omega
    have l2 : (midL (usageL zs)).length ≤ 23 := by unfold midL; rw [List.length_take, List.length_drop, usageL_length]; omega
    have l3 : (rightL (usageL zs)).length ≤ 23 := by unfold rightL; rw [List.length_drop, usageL_length]; omega
    refine ⟨_, _, _, he, hb, fun _ => ⟨?_, s1.1, s2.1, s3.1, by omega, by omega, by omega⟩⟩
    rw [parts_sum]
    unfold usedL
    rw [if_pos hv]
theorem used_bd (zs : List Int) : ∀ z ∈ usedL zs, 0 ≤ z ∧ z ≤ 1000000 := by
  intro z hz
  unfold usedL at hz
  split at hz
  · rename_i hv
    have hl := (strokes_rng hv).1
    have := usageL_bd zs z hz
    omega
  · cases hz

set_option maxHeartbeats 16000000 in
theorem law_Usage (A : Option Addr) (n cap : Nat) (zs0 : List Int) (W : World) (h : Ints .u8 W A n cap zs0) :
    Calls Try.prog 4 #[.slice A n cap] W fun e W' => e = .returned (.bool true) ∧ Below W.heap.size W W' := by
  by_cases hbig : 65536 < n
  · go_enter Try.func4, Try.ntmps4
    go_wp2_with fail
    refine (rBigU_calls A n cap _).mono ?_
    rw [show decide (65536 < n) = true by simp [hbig]]
    rintro e w1 ⟨rfl, rfl⟩
    go_wp2
    go_ret
    exact ⟨rfl, Below.refl _ _⟩
  go_enter Try.func4, Try.ntmps4
  go_wp2_with fail
  refine (rBigU_calls A n cap _).mono ?_
  rw [show decide (65536 < n) = false by simp [hbig]]
  rintro e w0 ⟨rfl, rfl⟩
  go_wp2_with fail
  refine (drawKeyUsage_calls A n cap zs0 _ h).mono ?_
  rintro e w1 ⟨v1, zs, rfl, own1, hzl, b1⟩
  obtain ⟨A1, c1, rfl, -, -, -⟩ := own1.slice
  have O1 := Lib.hid own1
  have B1 := Lib.hid b1
  obtain ⟨q, hq⟩ : ∃ q, q = strokesB zs := ⟨_, rfl⟩
  have HQ := Lib.hid hq
  clear h own1 b1 hq
  go_wp2_with fail
  refine (impl_KeyUsage A1 c1 zs _ (Reads.of_own O1.out.1) (by omega)).mono ?_
  rintro e w2 ⟨v2, rfl, own2, b2⟩
  rw [← HQ.out]
  obtain ⟨A2, c2, rfl, -, -, -⟩ := own2.slice
  have O2 := Lib.hid own2
  have O12 := Lib.hid (O1.out.below b2)
  have B2 := Lib.hid (B1.out.trans (b2.mono B1.out.size))
  have hul := usedL_le zs
  have HUB := Lib.hid (used_bd zs)
  obtain ⟨us, hus⟩ : ∃ us, us = usedL zs := ⟨_, rfl⟩
  rw [← hus] at O2 hul HUB ⊢
  have HUS := Lib.hid hus
  clear own2 b2 hus
  go_wp2_with fail
  refine (spec_KeyUsage A1 c1 zs _ (Reads.of_own O12.out.1) (by omega)).mono ?_
  rintro e w3 ⟨v3, rfl, own3, b3⟩
  rw [← HQ.out]
  rw [← HUS.out] at own3
  obtain ⟨A3, c3, rfl, -, -, -⟩ := own3.slice
  have O3 := Lib.hid own3
  have O13 := Lib.hid (O12.out.below b3)
  have O23 := Lib.hid (O2.out.below b3)
  have B3 := Lib.hid (B2.out.trans (b3.mono B2.out.size))
  clear own3 b3
  go_wp2_with fail
  refine (impl_HandBalance A1 c1 zs _ (Reads.of_own O13.out.1) (by omega)).mono ?_
  intro e w4 hh
  obtain ⟨L, M, R, rfl, b4, hlmr⟩ := handed_three hh
  rw [← HQ.out] at hlmr ⊢
  rw [← HUS.out] at hlmr
  have HL := Lib.hid hlmr
  have O14 := Lib.hid (O13.out.below b4)
  have O24 := Lib.hid (O23.out.below b4)
  have O34 := Lib.hid (O3.out.below b4)
  have B4 := Lib.hid (B3.out.trans (b4.mono B3.out.size))
  clear hh b4 hlmr O1 O12 O13 O2 O23 O3
  go_wp2_with fail
  refine (impl_StrokeFrequencies A1 c1 zs _ (Reads.of_own O14.out.1) (by omega)).mono ?_
  rintro e w5 ⟨v5, u5, ns, rfl, hf1, hf2, own5, pwn5, b5, -⟩
  rw [← HQ.out]
  obtain ⟨A5, c5, rfl, -, -, -⟩ := own5.slice
  obtain ⟨C5, d5, rfl, -, -, -⟩ := pwn5.slice
  have O5 := Lib.hid own5
  have P5 := Lib.hid pwn5
  have HF1 := Lib.hid hf1
  have HF2 := Lib.hid hf2
  have O15 := Lib.hid (O14.out.below b5)
  have O25 := Lib.hid (O24.out.below b5)
  have O35 := Lib.hid (O34.out.below b5)
  have B5 := Lib.hid (B4.out.trans (b5.mono B4.out.size))
  clear own5 pwn5 b5 hf1 hf2 O14 O24 O34
  go_wp2_with fail
  refine (spec_StrokeFrequencies A1 c1 zs _ (Reads.of_own O15.out.1) (by omega)).mono ?_
  rintro e w6 ⟨v6, u6, ms, rfl, hf3, hf4, own6, pwn6, b6, -⟩
  rw [← HQ.out]
  obtain ⟨hms, hnl⟩ := freq_both hf3 hf4 HF1.out HF2.out
  subst hms
  obtain ⟨A6, c6, rfl, -, -, -⟩ := own6.slice
  obtain ⟨C6, d6, rfl, -, -, -⟩ := pwn6.slice
  have O6 := Lib.hid own6
  have P6 := Lib.hid pwn6
  have O26 := Lib.hid (O25.out.below b6)
  have O36 := Lib.hid (O35.out.below b6)
  have O56 := Lib.hid (O5.out.below b6)
  have P56 := Lib.hid (P5.out.below b6)
  have B6 := Lib.hid (B5.out.trans (b6.mono B5.out.size))
  obtain ⟨cs, hcs⟩ : ∃ cs, cs = ms.map (cntS zs) := ⟨_, rfl⟩
  have hcl : cs.length = ms.length := by rw [hcs]; exact List.length_map _
  have HCB := Lib.hid (show ∀ z ∈ cs, 0 ≤ z ∧ z ≤ 1000000 from fun z hz => by
    rw [hcs] at hz
    obtain ⟨y, -, rfl⟩ := List.mem_map.1 hz
    have := cntS_range zs y
    omega)
  have HSUM := Lib.hid (show q = true → cs.sum = (zs.length : Int) from fun e => by rw [hcs]; exact (hf3 (by rw [← HQ.out]; exact e)).sum)
  rw [← hcs, ← hcl] at P6 P56
  have HCL := Lib.hid hcl
  have hql : q = true → zs.length ≤ 60 := fun e => (strokes_rng (by rw [← HQ.out]; exact e)).1
  have HQL := Lib.hid hql
  rw [← hcl]
  have O6' := Lib.hid (show Own w6 w5.heap.size w6.heap.size 3 1 (.slice A6 cs.length c6) cs.length (ints ms) by rw [HCL.out]; exact O6.out)
  have O56' := Lib.hid (show Own w6 w4.heap.size w5.heap.size 3 1 (.slice A5 cs.length c5) cs.length (ints ms) by rw [HCL.out]; exact O56.out)
  rw [← hcl] at hnl
  clear own6 pwn6 b6 hf3 hf4 HF1 HF2 O15 O25 O35 O5 P5 hcs hcl O6 O56 hql
  have hqq : (q != q) = false := by cases q <;> rfl
  have HEQ := Lib.hid (show ∀ (A B : Option Addr) (ca cb : Nat) (w : World), Reads w w.heap.size 1 A cs.length (ints ms) → Reads w w.heap.size 1 B cs.length (ints ms) → Calls Try.prog 16 #[.slice A cs.length ca, .slice B cs.length cb] w fun e w' => e = .returned (.bool true) ∧ Below w.heap.size w w' from fun A B ca cb w h1 h2 => by
    have hl := HCL.out
    rw [hl] at h1 h2 ⊢
    exact rIntsU_same A B ca cb ms w (by omega) h1 h2)
  go_wp2_with fail
  refine (rIntsU_same A2 A3 c2 c3 us _ (by omega) (Reads.of_own O26.out.1) (Reads.of_own O36.out.1)).mono ?_
  rintro e w7 ⟨rfl, b7⟩
  have O27 := Lib.hid (O26.out.below b7)
  have O57 := Lib.hid (O56'.out.below b7)
  have O67 := Lib.hid (O6'.out.below b7)
  have P57 := Lib.hid (P56.out.below b7)
  have P67 := Lib.hid (P6.out.below b7)
  have B7 := Lib.hid (B6.out.trans (b7.mono B6.out.size))
  clear b7 O26 O36 O56' O6' P56 P6
  go_wp2_with fail
  refine (HEQ.out A5 A6 c5 c6 _ (Reads.of_own O57.out.1) (Reads.of_own O67.out.1)).mono ?_
  rintro e w8 ⟨rfl, b8⟩
  have O28 := Lib.hid (O27.out.below b8)
  have P58 := Lib.hid (P57.out.below b8)
  have P68 := Lib.hid (P67.out.below b8)
  have B8 := Lib.hid (B7.out.trans (b8.mono B7.out.size))
  clear b8 O27 O57 O67 P57 P67
  go_wp2_with fail
  refine (rIntsU_same C5 C6 d5 d6 cs _ (by omega) (Reads.of_own P58.out.1) (Reads.of_own P68.out.1)).mono ?_
  rintro e w9 ⟨rfl, b9⟩
  have O29 := Lib.hid (O28.out.below b9)
  have P59 := Lib.hid (P58.out.below b9)
  have B9 := Lib.hid (B8.out.trans (b9.mono B8.out.size))
  clear b9 O28 P58 P68
  cases q with
  | false =>
    go_wp2
    go_ret
    exact ⟨rfl, B9.out⟩
  | true =>
    obtain ⟨hs, h1, h2, h3, h4, h5, h6⟩ := HL.out rfl
    have hS := HSUM.out rfl
    have HS := Lib.hid (show cs.sum = (zs.length : Int) from hS)
    have hbe : ((L + M + R : Int) == us.sum) = true := by rw [hs]; simp
    have hbe2 : (((zs.length : Int)) == (zs.length : Int)) = true := by simp
    have w1' : IntKind.i64.wrap (L + M) = L + M := IntWalk.i64_in _ (by omega)
    have w2' : IntKind.i64.wrap (L + M + R) = L + M + R := IntWalk.i64_in _ (by omega)
    clear hs hS
    go_wp2_with fail
    refine (rSumI_calls A2 c2 us _ (Reads.of_own O29.out.1) (by omega) HUB.out).mono ?_
    rintro e w10 ⟨rfl, rfl⟩
    go_wp2_with fail
    refine (rSumI_calls C5 d5 cs _ (Reads.of_own P59.out.1) (by omega) HCB.out).mono ?_
    rw [HS.out]
    rintro e w11 ⟨rfl, rfl⟩
    go_wp2
    go_ret
    exact ⟨rfl, B9.out⟩
end Go.Proofs.Ytfgfbnmcihjfmaa
