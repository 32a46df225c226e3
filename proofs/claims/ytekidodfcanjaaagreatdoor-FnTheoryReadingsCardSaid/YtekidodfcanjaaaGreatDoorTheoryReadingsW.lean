/-
  The law FnTheoryReadings returns true for every code: its walk over the contracts.
-/
import Derived.Test.YtekidodfcanjaaaGreatDoorAllJ
import Derived.Test.YtekidodfcanjaaaGreatDoorCountI
import Derived.Test.YtekidodfcanjaaaGreatDoorDrawM
import Derived.Test.YtekidodfcanjaaaGreatDoorRText
import Derived.Test.YtekidodfcanjaaaGreatDoorIns
namespace Go.Proofs.YtekidodfcanjaaaGreatDoor
open Go.RowKit
set_option linter.unusedVariables false
set_option linter.unusedSimpArgs false
set_option maxRecDepth 100000

/-! ### The listed readings, as plain values -/
def preD (l : List EntD) (q : List Nat) (m : Nat) : List Int := (wordsOf l (q.take m)).flatten
theorem preD_zero (l : List EntD) (q : List Nat) : preD l q 0 = [] := by simp [preD, wordsOf]
theorem preD_succ {l : List EntD} {q : List Nat} {m k : Nat} {c : EntD} (hk : q[m]? = some k) (hc : l[k]? = some c) : preD l q (m + 1) = preD l q m ++ c.1 := by
  unfold preD
  rw [List.take_add_one, hk]
  simp [wordsOf, hc]
theorem preD_len {l : List EntD} {q : List Nat} {zs : List Int} (h : (wordsOf l q).flatten = zs) (m : Nat) : (preD l q m).length ≤ zs.length := by
  rw [← h]
  unfold preD wordsOf
  rw [← List.take_append_drop m q, List.map_append, List.flatten_append, List.length_append, List.take_append_drop]
  omega
theorem preD_all {l : List EntD} {q : List Nat} {zs : List Int} (h : (wordsOf l q).flatten = zs) : preD l q q.length = zs := by
  unfold preD
  rw [List.take_length, h]
theorem allD_what {l : List EntD} {zs : List Int} {mo : Int} {r : List Int} (h : r ∈ allD l zs mo) : dictB l = true ∧ ∃ q : List Nat, r = q.map Int.ofNat ∧ (∀ k ∈ q, k < l.length) ∧ (wordsOf l q).flatten = zs := by
  unfold allD at h
  split at h
  · rename_i hb
    simp only [allB, Bool.and_eq_true] at hb
    refine ⟨hb.1.1, ?_⟩
    unfold allR takeM rowsOf at h
    simp only [List.nil_append] at h
    obtain ⟨q, hq, rfl⟩ := List.mem_map.1 (List.mem_of_mem_take h)
    obtain ⟨h1, h2⟩ := readF_mem _ _ _ hq
    exact ⟨q, rfl, h2, h1⟩
  · cases h
theorem allD_num {l : List EntD} {zs : List Int} {mo : Int} (h : allB l zs mo = true) (hc : countB l zs = true) : (((allD l zs mo).length : Nat) : Int) = countV l zs ∨ ((((allD l zs mo).length : Nat) : Int) = mo ∧ mo < countV l zs) := by
  rw [allD_yes h]
  simp only [allB, Bool.and_eq_true] at h
  have h0 := inB_iff.1 h.2
  have hd : (dictB l && strokesB zs) = true := by rw [h.1.1, h.1.2]; rfl
  have hn := cntD_num (dict_ne h.1.1) zs
  unfold numR cap1 at hn
  by_cases hle : cntD l zs ≤ 1000000
  · have hv : countV l zs = ((cntD l zs : Nat) : Int) := by
      unfold countV countD
      rw [if_pos hd, if_pos hle]
    have hl : (allR l zs mo.toNat).length = min mo.toNat (readD l zs).length := by
      unfold allR takeM rowsOf
      simp
    rw [hv, hl]
    omega
  · unfold countB countD at hc
    rw [if_pos hd, if_neg hle] at hc
    cases hc

theorem cells_int (xs : List Int) : ∀ u ∈ ints xs, u.oneCell' = true := fun u hu => by obtain ⟨z, _, rfl⟩ := List.mem_map.1 hu; rfl
/-- Rows of ints that can be read at any later time. -/
theorem ownSS_reads {w : World} {lo hi : Nat} {v : Value} {rows : List (List Int)} (h : OwnSS w lo hi v rows) : ∃ A cap, v = .slice A rows.length cap ∧ rows.length ≤ cap ∧ ∀ W', Below w.heap.size w W' → ∀ (k : Nat) r, rows[k]? = some r → ∃ (b off : Nat) (a : Option Addr) (c : Nat), A = some ⟨b, off, none⟩ ∧ b < w.heap.size ∧ W'.cell? ⟨b, off + k, none⟩ = some (.slice a r.length c) ∧ Reads W' w.heap.size 1 a r.length (ints r) := by
  obtain ⟨vs, h1, h2, h3⟩ := h
  obtain ⟨A, cap, rfl, hr, hn, hm⟩ := h1.slice
  refine ⟨A, cap, rfl, hn, fun W' hb k r hk => ?_⟩
  have hkl := (List.getElem?_eq_some_iff.1 hk).1
  obtain ⟨b, off, hA, hbl, hc⟩ := hr.2 (by omega)
  obtain ⟨u, hu, ru⟩ := h2.at_ hk
  obtain ⟨a, c, rfl, rd, -, -⟩ := (Own.of_row ru).slice
  exact ⟨b, off, a, c, hA, hbl, (hb.cell (p := ⟨b, off + k, none⟩) hbl).trans (hc k _ hu), rd.below hb⟩

set_option maxHeartbeats 16000000 in
theorem law_TheoryReadings (A : Option Addr) (n cap : Nat) (zs : List Int) (W : World) (h : Ints .u8 W A n cap zs) (hm : MaxOk W) :
    Calls Tryz.prog 6 #[.slice A n cap] W fun e W' => e = .returned (.bool true) ∧ Below W.heap.size W W' := by
  have HM := Lib.hid (show ∀ W', Below W.heap.size W W' → MaxOk W' from fun W' hb => hm.below hb)
  clear hm
  by_cases hbig : 65536 < n
  · go_enter Tryz.func6, Tryz.ntmps6
    go_wp2_with fail
    refine (rBigT_calls A n cap _).mono ?_
    rw [show decide (65536 < n) = true by simp [hbig]]
    rintro e w1 ⟨rfl, rfl⟩
    go_wp2
    go_ret
    exact ⟨rfl, Below.refl _ _⟩
  go_enter Tryz.func6, Tryz.ntmps6
  go_wp2_with fail
  refine (rBigT_calls A n cap _).mono ?_
  rw [show decide (65536 < n) = false by simp [hbig]]
  rintro e w0 ⟨rfl, rfl⟩
  go_wp2_with fail
  refine (drawAllReadings_calls A n cap zs _ h).mono ?_
  rintro e w1 ⟨v, l, Az, cz, xs, mo, rfl, hd, he, hz, hzl, hzc, hcm, hmo, b1⟩
  obtain ⟨Al, cl, rfl, hrd, -, -⟩ := hd.slice
  have HSH := Lib.hid (he.short (by omega))
  have hl41 := he.1
  have hln : l.length ≤ 1048576 := by omega
  have hzn : xs.length ≤ 1048576 := by omega
  obtain ⟨x1, hx1⟩ : ∃ x1, x1 = w1.alloc (.cells #[.slice Al l.length cl] 31) := ⟨_, rfl⟩
  have B1 : Below W.heap.size W x1 := by rw [hx1]; exact b1.alloc b1.size _
  have HRT := Lib.hid (show ∀ W', Below x1.heap.size x1 W' → DictR W' W'.heap.size Al l from fun W' hb => by
    rw [hx1] at hb
    exact ((((hrd.alloc (Nat.le_refl _) _).more (by simp)).below hb).more hb.size))
  have HRX := Lib.hid (show ∀ W', Below x1.heap.size x1 W' → DictR W' x1.heap.size Al l from fun W' hb => by
    rw [hx1] at hb ⊢
    exact ((hrd.alloc (Nat.le_refl _) _).more (by simp)).below hb)
  have hx1s : w1.heap.size < x1.heap.size := by rw [hx1]; simp
  have HZT := Lib.hid (show ∀ W', Below x1.heap.size x1 W' → Reads W' W'.heap.size 1 Az xs.length (ints xs) from fun W' hb => by
    rw [hx1] at hb
    exact ((((hz.alloc (Nat.le_refl _) _).more (by simp)).below hb).more hb.size))
  have HCT := Lib.hid (show ∀ W', Below x1.heap.size x1 W' → W'.cell? ⟨w1.heap.size, 0, none⟩ = some (.slice Al l.length cl) from fun W' hb => by
    rw [hx1] at hb
    exact ((Box.new w1 31 (.slice Al l.length cl)).far hb).cell)
  have HWT := Lib.hid (show ∀ W', Below x1.heap.size x1 W' → Below W.heap.size W W' from fun W' hb => B1.trans (hb.mono B1.size))
  have cT := HCT.out _ (Below.refl _ _)
  have HNUM := Lib.hid (@allD_num l xs mo)
  have HROW := Lib.hid (show ∀ r ∈ allD l xs mo, r.length ≤ 1048576 from fun r hr => Nat.le_trans (allD_row l xs mo r hr) (by omega))
  have HWH := Lib.hid (show ∀ r ∈ allD l xs mo, dictB l = true ∧ ∃ q : List Nat, r = q.map Int.ofNat ∧ (∀ k ∈ q, k < l.length) ∧ (wordsOf l q).flatten = xs from fun r hr => allD_what hr)
  have hal := allD_len l xs mo
  obtain ⟨q, hq⟩ : ∃ q, q = allB l xs mo := ⟨_, rfl⟩
  obtain ⟨rows, hrows⟩ : ∃ q, q = allD l xs mo := ⟨_, rfl⟩
  obtain ⟨cB, hcB⟩ : ∃ q, q = countB l xs := ⟨_, rfl⟩
  obtain ⟨cV, hcV⟩ : ∃ q, q = countV l xs := ⟨_, rfl⟩
  rw [← hq, ← hrows, ← hcB, ← hcV] at HNUM
  rw [← hrows] at HROW HWH hal
  have HQ := Lib.hid hq
  have HROWS := Lib.hid hrows
  have HCB := Lib.hid hcB
  have HCV := Lib.hid hcV
  clear h hd he hz b1 hrd hq hrows hcB hcV hbig
  go_wp2_with fail
  rw [← hx1]
  clear hx1
  refine (impl_AllReadings Al Az cl cz l xs mo _ (HRT.out _ (Below.refl _ _)) hln HSH.out (HM.out _ B1) (HZT.out _ (Below.refl _ _)) hzn hzc hcm).mono ?_
  unfold RowsRes
  rw [← HQ.out, ← HROWS.out]
  rintro e w2 ⟨v2, rfl, o2, b2⟩
  have O2 := Lib.hid o2
  have T2 := b2
  clear o2 cT
  have cT := HCT.out _ T2
  go_wp2_with fail
  refine (spec_AllReadings Al Az cl cz l xs mo _ (HRT.out _ T2) hln HSH.out (HZT.out _ T2) hzn hzc hcm).mono ?_
  unfold RowsRes
  rw [← HQ.out, ← HROWS.out]
  rintro e w3 ⟨v3, rfl, o3, b3⟩
  have O3 := Lib.hid o3
  have O23 := Lib.hid (O2.out.below b3)
  have T3 := T2.trans (b3.mono T2.size)
  clear o3 cT
  have cT := HCT.out _ T3
  go_wp2_with fail
  refine (impl_CountReadings Al Az cl cz l xs _ (HRT.out _ T3) hln HSH.out (HM.out _ (HWT.out _ T3)) (HZT.out _ T3) hzn hzc hcm).mono ?_
  unfold CountRes
  rw [← HCB.out, ← HCV.out]
  rintro e w4 ⟨rfl, b4⟩
  have O24 := Lib.hid (O23.out.below b4)
  have O34 := Lib.hid (O3.out.below b4)
  have T4 := T3.trans (b4.mono T3.size)
  clear cT
  have cT := HCT.out _ T4
  go_wp2_with fail
  refine (spec_CountReadings Al Az cl cz l xs _ (HRT.out _ T4) hln HSH.out (HZT.out _ T4) hzn hzc hcm).mono ?_
  unfold CountRes
  rw [← HCB.out, ← HCV.out]
  rintro e w5 ⟨rfl, b5⟩
  have O25 := Lib.hid (O24.out.below b5)
  have O35 := Lib.hid (O34.out.below b5)
  have T5 := T4.trans (b5.mono T4.size)
  clear cT
  have hqq : (q != q) = false := by cases q <;> rfl
  have hcc : (cB != cB) = false := by cases cB <;> rfl
  have hvv : (cV != cV) = false := by simp
  go_wp2_with fail
  refine (rLists_same _ _ _ _ v2 v3 rows _ O25.out O35.out (by omega) HROW.out).mono ?_
  rintro e w7 ⟨rfl, b6⟩
  have T7 := T5.trans (b6.mono T5.size)
  have O26 := Lib.hid (O25.out.below b6)
  obtain ⟨AL, cL, hvL, hcL, hRL⟩ := ownSS_reads O26.out
  subst hvL
  have HRL := Lib.hid hRL
  clear hRL hqq O2 O3 O23 O24 O34 O25 O35 O26 b2 b3 b4 b5 b6
  have HT7 := Lib.hid (show ∀ W', Below w7.heap.size w7 W' → Below x1.heap.size x1 W' from fun W' hb => T7.trans (hb.mono T7.size))
  go_wp2
  go_loopw [14] (fun i wr => ∃ k : Nat, k ≤ rows.length ∧ i = .int .i64 k ∧ Below w7.heap.size w7 wr) (fun i _ => rows.length - (intOf i).toNat)
  case atStart => exact ⟨0, Nat.zero_le _, rfl, Below.refl _ _⟩
  case round =>
    obtain ⟨k, hk, rfl, hb⟩ := hrel
    by_cases hlt : k < rows.length
    · obtain ⟨r, hr⟩ := some_at rows hlt
      obtain ⟨hvd, qs, hrq, hqs, hfl⟩ := HWH.out r (List.mem_of_getElem? hr)
      have hrl := HROW.out r (List.mem_of_getElem? hr)
      have HR0 := Lib.hid hr
      have HVD := Lib.hid hvd
      have HFL := Lib.hid hfl
      have HRQ := Lib.hid hrq
      have HQS := Lib.hid hqs
      have HB0 := Lib.hid hb
      have k0 : (0 : Int) ≤ (k : Int) := by omega
      have k1 : (k : Int) < (rows.length : Int) := by omega
      have hqr : r.length = qs.length := by rw [hrq]; simp
      have HQR := Lib.hid hqr
      have HLN := Lib.hid (preD_len hfl)
      have own0 : (wr.alloc (.cells #[] 3)).ownsRow w7.heap.size 3 1 (.slice (some ⟨wr.heap.size, 0, none⟩) 0 0) (preD l qs 0).length (ints (preD l qs 0)) := by rw [preD_zero]; exact World.ownsRow_made _ _ _ hb.size (by simp) rfl
      have SB0 := hb.alloc hb.size (.cells #[] 3)
      clear hr hvd hfl hrq hqs hb hqr
      go_wp2
      go_loopw [15, 16] (fun v i wr => ∃ m : Nat, m ≤ r.length ∧ i = .int .i64 m ∧ wr.ownsRow w7.heap.size 3 1 v (preD l qs m).length (ints (preD l qs m)) ∧ Below w7.heap.size w7 wr) (fun _ i _ => r.length - (intOf i).toNat)
      case atStart => exact ⟨0, Nat.zero_le _, rfl, own0, SB0⟩
      case round =>
        obtain ⟨m, hm2, rfl, own, hb⟩ := hrel
        obtain ⟨bL, oL, aR, cR, hAL, hbL, cL1, rdR⟩ := HRL.out wr hb k _ HR0.out
        subst hAL
        by_cases hmt : m < r.length
        · obtain ⟨bR, oR, hAR, hbR, hcR⟩ := rdR.2 (by omega)
          subst hAR
          obtain ⟨i, hqi⟩ := some_at qs (show m < qs.length by rw [← HQR.out]; exact hmt)
          have hxm : r[m]? = some (i : Int) := by rw [HRQ.out, List.getElem?_map, hqi]; rfl
          have hi := HQS.out i (List.mem_of_getElem? hqi)
          have cRm : wr.cell? ⟨bR, oR + m, none⟩ = some (.int .i64 (i : Int)) := hcR m _ (ints_at _ hxm)
          obtain ⟨ca, hai⟩ := some_at l hi
          have HPS := Lib.hid (preD_succ hqi hai)
          have hPL := HLN.out (m + 1)
          rw [HPS.out, List.length_append] at hPL
          obtain ⟨bD, oD, hAD, hbD, hcD⟩ := (HRX.out _ (HT7.out _ hb)) (by omega)
          subst hAD
          have cT := HCT.out _ (HT7.out _ hb)
          obtain ⟨o1, t1⟩ := ca
          simp only at hPL HPS
          obtain ⟨ai, ci, cD1, -, rI, -, -⟩ := DictR.at_ hcD hai
          have i0 : (0 : Int) ≤ (i : Int) := by omega
          have i1 : (i : Int) < (l.length : Int) := by omega
          have j0 : (0 : Int) ≤ (m : Int) := by omega
          have j1 : (m : Int) < (r.length : Int) := by omega
          have S0 : wr.drew.cell? ⟨w1.heap.size, 0, none⟩ = some (.slice (some ⟨bD, oD, none⟩) l.length cl) ∧ wr.drew.cell? ⟨bL, oL + k, none⟩ = some (.slice (some ⟨bR, oR, none⟩) r.length cR) ∧ wr.drew.cell? ⟨bR, oR + m, none⟩ = some (.int .i64 (i : Int)) ∧ wr.drew.cell? ⟨bD, oD + i * 2, none⟩ = some (.slice ai o1.length ci) := ⟨cT, cL1, cRm, cD1⟩
          have hp1 : w1.heap.size < w7.heap.size := Nat.lt_of_lt_of_le hx1s T7.size
          have hp4 : bD < w7.heap.size := Nat.lt_of_lt_of_le hbD T7.size
          have HKEEP := Lib.hid (show ∀ W', Below w7.heap.size w7 W' → W'.cell? ⟨w1.heap.size, 0, none⟩ = some (.slice (some ⟨bD, oD, none⟩) l.length cl) ∧ W'.cell? ⟨bL, oL + k, none⟩ = some (.slice (some ⟨bR, oR, none⟩) r.length cR) ∧ W'.cell? ⟨bR, oR + m, none⟩ = some (.int .i64 (i : Int)) ∧ W'.cell? ⟨bD, oD + i * 2, none⟩ = some (.slice ai o1.length ci) from fun W' h' => ⟨((h'.cell (p := ⟨w1.heap.size, 0, none⟩) hp1).trans (hb.cell (p := ⟨w1.heap.size, 0, none⟩) hp1).symm).trans cT, ((h'.cell (p := ⟨bL, oL + k, none⟩) hbL).trans (hb.cell (p := ⟨bL, oL + k, none⟩) hbL).symm).trans cL1, ((h'.cell (p := ⟨bR, oR + m, none⟩) hbR).trans (hb.cell (p := ⟨bR, oR + m, none⟩) hbR).symm).trans cRm, ((h'.cell (p := ⟨bD, oD + i * 2, none⟩) hp4).trans (hb.cell (p := ⟨bD, oD + i * 2, none⟩) hp4).symm).trans cD1⟩)
          have ownD := own.drew
          have SD := hb.drew
          have RD : Reads wr.drew x1.heap.size 1 ai o1.length (ints o1) := rI
          clear hqi hxm hcR hcD hai rdR cT cRm cD1 own
          go_wp2
          first | refine wp_region_noPanic ?_ | skip
          refine wp_region_held_drew (S := fun w' => w'.cell? ⟨w1.heap.size, 0, none⟩ = some (.slice (some ⟨bD, oD, none⟩) l.length cl) ∧ w'.cell? ⟨bL, oL + k, none⟩ = some (.slice (some ⟨bR, oR, none⟩) r.length cR) ∧ w'.cell? ⟨bR, oR + m, none⟩ = some (.int .i64 (i : Int)) ∧ w'.cell? ⟨bD, oD + i * 2, none⟩ = some (.slice ai o1.length ci)) (by kernel_rfl) (by exact S0) (fun hHeld => ?_)
          (refine wpAnyH_take (i := 0) (v := ?_) rfl (by kernel_rfl) (by kernel_rfl) (by kernel_rfl) (fun _ _ _ h => h) (Or.inl ⟨by rfl, ?_⟩) (by assumption) ?_; rotate_left; focus (intro w hSw; (try dsimp only at hSw); go_simp; try with_reducible rfl))
          (try simp only [List.getElem_toArray, List.getElem_cons_succ, List.getElem_cons_zero, Act.put, List.setIfInBounds_toArray, List.set_cons_zero, List.set_cons_succ])
          (refine wpAnyH_take (i := 1) (v := ?_) rfl (by kernel_rfl) (by kernel_rfl) (by kernel_rfl) (fun _ _ _ h => h) (Or.inl ⟨by rfl, ?_⟩) (by assumption) ?_; rotate_left; focus (intro w hSw; (try dsimp only at hSw); go_simp; try with_reducible rfl))
          (try simp only [List.getElem_toArray, List.getElem_cons_succ, List.getElem_cons_zero, Act.put, List.setIfInBounds_toArray, List.set_cons_zero, List.set_cons_succ])
          (refine wpAnyH_take (i := 2) (v := ?_) rfl (by kernel_rfl) (by kernel_rfl) (by kernel_rfl) (fun _ _ _ h => h) (Or.inl ⟨by rfl, ?_⟩) (by assumption) ?_; rotate_left; focus (intro w hSw; (try dsimp only at hSw); go_simp; try with_reducible rfl))
          (try simp only [List.getElem_toArray, List.getElem_cons_succ, List.getElem_cons_zero, Act.put, List.setIfInBounds_toArray, List.set_cons_zero, List.set_cons_succ])
          (refine wpAnyH_take (i := 3) (v := ?_) rfl (by kernel_rfl) (by kernel_rfl) (by kernel_rfl) (fun _ _ _ h => h) (Or.inl ⟨by rfl, ?_⟩) (by assumption) ?_; rotate_left; focus (intro w hSw; (try dsimp only at hSw); go_simp; try with_reducible rfl))
          (try simp only [List.getElem_toArray, List.getElem_cons_succ, List.getElem_cons_zero, Act.put, List.setIfInBounds_toArray, List.set_cons_zero, List.set_cons_succ])
          (refine wpAnyH_take (i := 4) (v := ?_) rfl (by kernel_rfl) (by kernel_rfl) (by kernel_rfl) (fun _ _ _ h => h) (Or.inl ⟨by rfl, ?_⟩) (by assumption) ?_; rotate_left; focus (intro w hSw; (try dsimp only at hSw); go_simp; try with_reducible rfl))
          (try simp only [List.getElem_toArray, List.getElem_cons_succ, List.getElem_cons_zero, Act.put, List.setIfInBounds_toArray, List.set_cons_zero, List.set_cons_succ])
          (refine wpAnyH_take (i := 5) (v := ?_) rfl (by kernel_rfl) (by kernel_rfl) (by kernel_rfl) (fun _ _ _ h => h) (Or.inl ⟨by rfl, ?_⟩) (by assumption) ?_; rotate_left; focus (intro w hSw; (try dsimp only at hSw); go_simp; try with_reducible rfl))
          (try simp only [List.getElem_toArray, List.getElem_cons_succ, List.getElem_cons_zero, Act.put, List.setIfInBounds_toArray, List.set_cons_zero, List.set_cons_succ])
          (refine wpAnyH_take (i := 6) (v := ?_) rfl (by kernel_rfl) (by kernel_rfl) (by kernel_rfl) (fun _ _ _ h => h) (Or.inl ⟨by rfl, ?_⟩) (by assumption) ?_; rotate_left; focus (intro w hSw; (try dsimp only at hSw); go_simp; try with_reducible rfl))
          (try simp only [List.getElem_toArray, List.getElem_cons_succ, List.getElem_cons_zero, Act.put, List.setIfInBounds_toArray, List.set_cons_zero, List.set_cons_succ])
          (refine wpAnyH_take (i := 7) (v := ?_) rfl (by kernel_rfl) (by kernel_rfl) (by kernel_rfl) (fun _ _ _ h => h) (Or.inl ⟨by rfl, ?_⟩) (by assumption) ?_; rotate_left; focus (intro w hSw; (try dsimp only at hSw); go_simp; try with_reducible rfl))
          (try simp only [List.getElem_toArray, List.getElem_cons_succ, List.getElem_cons_zero, Act.put, List.setIfInBounds_toArray, List.set_cons_zero, List.set_cons_succ])
          (refine wpAnyH_take (i := 8) (v := ?_) rfl (by kernel_rfl) (by kernel_rfl) (by kernel_rfl) (fun _ _ _ h => h) (Or.inl ⟨by rfl, ?_⟩) (by assumption) ?_; rotate_left; focus (intro w hSw; (try dsimp only at hSw); go_simp; try with_reducible rfl))
          (try simp only [List.getElem_toArray, List.getElem_cons_succ, List.getElem_cons_zero, Act.put, List.setIfInBounds_toArray, List.set_cons_zero, List.set_cons_succ])
          (refine wpAnyH_take (i := 9) (v := ?_) rfl (by kernel_rfl) (by kernel_rfl) (by kernel_rfl) (fun _ _ _ h => h) (Or.inl ⟨by rfl, ?_⟩) (by assumption) ?_; rotate_left; focus (intro w hSw; (try dsimp only at hSw); go_simp; try with_reducible rfl))
          (try simp only [List.getElem_toArray, List.getElem_cons_succ, List.getElem_cons_zero, Act.put, List.setIfInBounds_toArray, List.set_cons_zero, List.set_cons_succ])
          (refine wpAnyH_take (i := 10) (v := ?_) rfl (by kernel_rfl) (by kernel_rfl) (by kernel_rfl) (fun _ _ _ h => h) (Or.inl ⟨by rfl, ?_⟩) (by assumption) ?_; rotate_left; focus (intro w hSw; (try dsimp only at hSw); go_simp; try with_reducible rfl))
          (try simp only [List.getElem_toArray, List.getElem_cons_succ, List.getElem_cons_zero, Act.put, List.setIfInBounds_toArray, List.set_cons_zero, List.set_cons_succ])
          (refine wpAnyH_take (i := 11) (v := ?_) rfl (by kernel_rfl) (by kernel_rfl) (by kernel_rfl) (fun _ _ _ h => h) (Or.inl ⟨by rfl, ?_⟩) (by assumption) ?_; rotate_left; focus (intro w hSw; (try dsimp only at hSw); go_simp; try with_reducible rfl))
          (try simp only [List.getElem_toArray, List.getElem_cons_succ, List.getElem_cons_zero, Act.put, List.setIfInBounds_toArray, List.set_cons_zero, List.set_cons_succ])
          (refine wpAnyH_take (i := 12) (v := ?_) rfl (by kernel_rfl) (by kernel_rfl) (by kernel_rfl) (fun _ _ _ h => h) (Or.inl ⟨by rfl, ?_⟩) (by assumption) ?_; rotate_left; focus (intro w hSw; (try dsimp only at hSw); go_simp; try with_reducible rfl))
          (try simp only [List.getElem_toArray, List.getElem_cons_succ, List.getElem_cons_zero, Act.put, List.setIfInBounds_toArray, List.set_cons_zero, List.set_cons_succ])
          refine wpAnyH_ready (rs := [13]) (by kernel_rfl) (by simp) ?_
          refine AllReadyH.cons rfl (fun K hK => ?_) AllReadyH.nil
          refine step_append_src ownD SD.size RD (cells_int o1) (.tmp 86) (.tmp 98) 26 Tryz.underlying26 info_int (by omega) (by unfold maxLen; omega) ⟨rfl, rfl, rfl, rfl, rfl, by decide⟩ (.inl ⟨rfl, rfl⟩) ?_
          intro v9 w9 own9 gr9
          have S9 := SD.grown gr9 SD.size (fun g hg => (ownD.lt g hg).1)
          have own10 : w9.ownsRow w7.heap.size 3 1 v9 (preD l qs (m + 1)).length (ints (preD l qs (m + 1))) := by rw [HPS.out, List.length_append]; simpa [ints] using own9
          refine hK.out _ _ (by exact HKEEP.out w9 S9) (fun hHeld => ?_)
          clear hK K
          (try simp only [List.getElem_toArray, List.getElem_cons_succ, List.getElem_cons_zero, Act.put, List.setIfInBounds_toArray, List.set_cons_zero, List.set_cons_succ])
          (refine wpAnyH_take (i := 14) (v := ?_) rfl (by kernel_rfl) (by kernel_rfl) (by kernel_rfl) (fun _ _ _ h => h) (Or.inl ⟨by rfl, ?_⟩) (by assumption) ?_; rotate_left; focus (intro w hSw; (try dsimp only at hSw); go_simp; try with_reducible rfl))
          (try simp only [List.getElem_toArray, List.getElem_cons_succ, List.getElem_cons_zero, Act.put, List.setIfInBounds_toArray, List.set_cons_zero, List.set_cons_succ])
          refine wpAnyH_done (by kernel_rfl) ?_ _
          first | refine NoPanic.normal ?_ | skip
          clear hHeld S0 RD ownD
          go_wp2
          go_roundw
          case rel => exact ⟨m + 1, by omega, by go_num, own10, S9⟩
          case measure => simp [intOf]; omega
        · obtain rfl : m = r.length := by omega
          obtain ⟨A10, k10, hv10, rd10, hk10, hm10⟩ := (Own.of_row own).slice
          subst hv10
          have hpa : preD l qs r.length = xs := by rw [HQR.out]; exact preD_all HFL.out
          rw [hpa] at rd10 hk10
          have hpl : (preD l qs r.length).length = xs.length := by rw [hpa]
          have HZR := Lib.hid (HZT.out _ (HT7.out _ hb))
          clear rdR own
          go_wp2_with fail
          rw [hpl]
          refine (rInts_same A10 Az k10 cz xs _ hzn rd10 HZR.out).mono ?_
          rintro e w11 ⟨rfl, b11⟩
          have B11 := hb.trans (b11.mono hb.size)
          go_wp2
          go_roundw
          case rel => exact ⟨k + 1, hlt, by go_num, B11⟩
          case measure => simp [intOf]; omega
    · obtain rfl : k = rows.length := by omega
      have BF := HWT.out _ (HT7.out _ hb)
      cases q with
      | false =>
        go_wp2
        go_ret
        exact ⟨rfl, BF⟩
      | true =>
        cases cB with
        | false =>
          go_wp2
          go_ret
          exact ⟨rfl, BF⟩
        | true =>
          rcases HNUM.out rfl rfl with e1 | ⟨e1, e2⟩
          · have g1 : ((rows.length : Int) == cV) = true := by simp [e1]
            clear e1
            go_wp2
            go_ret
            exact ⟨rfl, BF⟩
          · have g1 : ((rows.length : Int) == cV) = false := by simp; omega
            have g2 : ((rows.length : Int) == mo) = true := by simp [e1]
            have g3 : decide (cV > mo) = true := by simp [e2]
            clear e1
            go_wp2
            go_ret
            exact ⟨rfl, BF⟩
end Go.Proofs.YtekidodfcanjaaaGreatDoor
