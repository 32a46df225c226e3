/-
  The program's StrokeFrequencies.
-/
import Derived.Test.YtfgfbnmcihjfmaaFreqO
import Derived.Test.YtfgfbnmcihjfmaaFreqS
namespace Go.Proofs.Ytfgfbnmcihjfmaa
open Go.RowKit Go.Maps
set_option linter.unusedVariables false
set_option linter.unusedSimpArgs false
set_option maxRecDepth 100000

theorem strokes_rng {l : List Int} (h : strokesB l = true) : l.length ≤ 60 ∧ ∀ x ∈ l, I64 x := by
  unfold strokesB goodB at h
  simp only [Bool.and_eq_true, decide_eq_true_eq, List.all_eq_true, inB_iff] at h
  exact ⟨h.1, fun x hx => by have := h.2 x hx; unfold I64; omega⟩
/-- The map as it stands with its variable. -/
structure Cnt2 (w wr : World) (gb bm : Nat) (m : List Int) : Prop where
  box : Box wr gb 37 (.map (some bm))
  cnt : CntMap wr bm m
  ne : bm < gb
  lo : w.heap.size ≤ bm
  bel : Below w.heap.size w wr
theorem Cnt2.below {w wr w' : World} {gb bm : Nat} {m : List Int} (h : Cnt2 w wr gb bm m) (hb : Below wr.heap.size wr w') : Cnt2 w w' gb bm m :=
  ⟨h.box.far hb, h.cnt.below hb, h.ne, h.lo, h.bel.trans (hb.mono h.bel.size)⟩
theorem Cnt2.only {w wr w' : World} {gb bm g : Nat} {m : List Int} (h : Cnt2 w wr gb bm m) (ho : Only g (g + 1) wr w') (hg : gb < g) : Cnt2 w w' gb bm m :=
  ⟨h.box.only ho (.inl hg), h.cnt.only ho (.inl (by have := h.ne; omega)), h.ne, h.lo, h.bel.trans (ho.below (by have := h.lo; have := h.ne; omega) (by have := h.bel.size; omega))⟩

theorem Cnt2.grown {w wr w' : World} {gb bm : Nat} {m : List Int} {row : Option Nat} (h : Cnt2 w wr gb bm m) (hg : wr.grownBy w' row) (hr : ∀ g, row = some g → gb < g) : Cnt2 w w' gb bm m := by
  have hne := h.ne
  have hlo := h.lo
  refine ⟨h.box.grown hg (fun e => by have := hr _ e; omega), h.cnt.kept hg (fun e => by have := hr _ e.symm; omega), h.ne, h.lo, h.bel.grown hg h.bel.size (fun g e => by have := hr g e; omega)⟩
theorem Cnt2.next {w wr w1 : World} {gb bm n0 : Nat} {m : List Int} {D : DataW Unit} {x c : Int} (h : Cnt2 w wr gb bm m) (hD : wr.ownsMap Try.prog 3 (plainElem Try.prog 3) bm n0 D) (hn : n0 ≤ m.length) (hat : ∀ x : Int, D.atKey (.int .i64 x) (.lit (.int .i64 0)) = .lit (.int .i64 (cntS m x)))
    (hc : c = cntS m x) (ho : w1.ownsMap Try.prog 3 (plainElem Try.prog 3) bm (n0 + 1) (D.put (.int .i64 x) (.lit (.int .i64 (c + 1))))) (hg : wr.grownBy w1 (some bm)) : Cnt2 w w1 gb bm (m ++ [x]) := by
  have hne := h.ne
  refine ⟨h.box.grown hg (fun e => by injection e with e; omega), ⟨n0 + 1, _, by rw [List.length_append, List.length_singleton]; omega, ho, cnt_put hD.isMap hat (by rw [hc])⟩, h.ne, h.lo, h.bel.grown hg h.bel.size (fun g e => by injection e with e; have := h.lo; omega)⟩

set_option maxHeartbeats 4000000 in
theorem impl_freq_nil (A : Option Addr) (cap : Nat) (w : World) (hr : Reads w w.heap.size 1 A 0 []) :
    Calls Try.prog 7 #[.slice A 0 cap] w (FreqRes [] w) := by
  have hmm := @run_makeMap Try.prog
  have hmf : ∀ (fn : Fn) (first cap : Array Value) (w : World), (Instr.makeFunc fn first cap).run Try.prog w = .ok (.func fn first cap) w := fun _ _ _ _ => rfl
  have HR := Lib.hid (show ∀ W', Below w.heap.size w W' → Reads W' W'.heap.size 1 A ([] : List Int).length (ints []) from fun W' hb => (hr.below hb).more hb.size)
  go_enter Try.func7, Try.ntmps7
  go_wp2_with fail
  refine (impl_isStrokeList A cap [] _ hr (by simp)).mono ?_
  rw [show strokesB [] = true from rfl]
  clear hr
  rintro e w3 ⟨rfl, b3⟩
  have B4 := (b3.alloc b3.size (.map #[] 0)).alloc (Nat.le_trans b3.size (by simp)) (.cells #[.map (some w3.heap.size)] 37)
  go_wp2
  generalize hW4 : (w3.alloc (.map #[] 0)).alloc (.cells #[.map (some w3.heap.size)] 37) = w4 at *
  clear hW4
  refine wp_loop_rounds 1 ?_
  rw [rounds_succ]
  go_wp2_with fail
  refine (impl_copyOfF A cap [] _ (HR.out _ B4) (by simp)).mono ?_
  rintro e w5 ⟨v5, rfl, own5, b5⟩
  obtain ⟨A5, c5, rfl, -, -, -⟩ := (Own.of_row own5).slice
  have B5 := B4.trans (b5.mono B4.size)
  have OT := Lib.hid (show (w5.alloc (.cells #[] 3)).ownsRow w5.heap.size 3 1 (.slice (some ⟨w5.heap.size, 0, none⟩) 0 0) 0 [] from World.ownsRow_made _ _ _ (Nat.le_refl _) (by simp) rfl)
  have O5 := Lib.hid (own5.alloc (.cells #[] 3))
  have B6 := Lib.hid (B5.alloc B5.size (.cells #[] 3))
  have LO := Lib.hid (show w.heap.size ≤ w4.heap.size ∧ w.heap.size ≤ w5.heap.size from ⟨B4.size, B5.size⟩)
  have hlt := own5.lt
  have HLT := Lib.hid hlt
  clear own5 b5 B5 B4 b3 hlt
  go_wp2_with fail
  generalize hW6 : w5.alloc (.cells #[] 3) = w6 at *
  clear hW6
  refine (Try.slices_Sort_int_none A5 c5 _).mono ?_
  rintro e w7 ⟨rfl, rfl⟩
  go_wp2_with fail
  refine (Try.slices_Compact_int_empty A5 c5 _).mono ?_
  rintro e w8 ⟨rfl, rfl⟩
  go_wp2_with fail
  refine (sortStable_none A5 c5 _ _).mono ?_
  rintro e w9 ⟨rfl, rfl⟩
  go_wp2
  refine wp_loop_rounds 1 ?_
  rw [rounds_succ]
  go_wp2
  go_ret3
  refine ⟨.slice A5 0 c5, .slice (some ⟨w5.heap.size, 0, none⟩) 0 0, [], rfl, fun _ => ⟨List.Pairwise.nil, fun x => Iff.rfl⟩, fun h => (by cases h), Own.of_row (O5.out.base LO.out.1), Own.of_row (OT.out.base LO.out.2), B6.out, fun g hg hg2 => ?_⟩
  have := HLT.out g hg
  simp only [Value.ownBlock, Option.some.injEq] at hg2
  omega

set_option maxHeartbeats 16000000 in
theorem impl_StrokeFrequencies (A : Option Addr) (cap : Nat) (l : List Int) (w : World) (hr : Reads w w.heap.size 1 A l.length (ints l)) (hn : l.length ≤ 1048576) :
    Calls Try.prog 7 #[.slice A l.length cap] w (FreqRes l w) := by
  rcases Nat.eq_zero_or_pos l.length with hl0 | hl0
  · obtain rfl : l = [] := List.eq_nil_of_length_eq_zero hl0
    exact impl_freq_nil A cap w hr
  cases hv : strokesB l
  · have HV := Lib.hid hv
    go_enter Try.func7, Try.ntmps7
    go_wp2_with fail
    refine (impl_isStrokeList A cap l _ hr hn).mono ?_
    rw [hv]
    clear hv
    rintro e w3 ⟨rfl, b3⟩
    go_wp2
    go_ret3
    exact freq_no HV.out b3
  have HV := Lib.hid hv
  obtain ⟨h60, hrng⟩ := strokes_rng hv
  have HRG := Lib.hid hrng
  have HR := Lib.hid (show ∀ W', Below w.heap.size w W' → Reads W' W'.heap.size 1 A l.length (ints l) from fun W' hb => (hr.below hb).more hb.size)
  clear hrng
  have hmm := @run_makeMap Try.prog
  have hmf : ∀ (fn : Fn) (first cap : Array Value) (w : World), (Instr.makeFunc fn first cap).run Try.prog w = .ok (.func fn first cap) w := fun _ _ _ _ => rfl
  go_enter Try.func7, Try.ntmps7
  go_wp2_with fail
  refine (impl_isStrokeList A cap l _ hr hn).mono ?_
  rw [hv]
  clear hv hr
  rintro e w3 ⟨rfl, b3⟩
  have C4 : Cnt2 w ((w3.alloc (.map #[] 0)).alloc (.cells #[.map (some w3.heap.size)] 37)) (w3.heap.size + 1) w3.heap.size [] := by
    have hz : (w3.alloc (.map #[] 0)).heap.size = w3.heap.size + 1 := by simp
    refine ⟨?_, (CntMap.made w3).below ((Below.refl _ _).alloc (Nat.le_refl _) _), by omega, b3.size, (b3.alloc b3.size _).alloc (Nat.le_trans b3.size (by simp)) _⟩
    rw [← hz]
    exact Box.new _ _ _
  go_wp2
  generalize hW4 : (w3.alloc (.map #[] 0)).alloc (.cells #[.map (some w3.heap.size)] 37) = w4 at *
  obtain ⟨gb, hgb⟩ : ∃ gb, gb = w3.heap.size + 1 := ⟨_, rfl⟩
  rw [← hgb] at C4 ⊢
  obtain ⟨bm, hbm⟩ : ∃ bm, bm = w3.heap.size := ⟨_, rfl⟩
  rw [← hbm] at C4 ⊢
  clear hW4 hgb hbm b3
  go_loopw [18] (fun i wr => ∃ k : Nat, k ≤ l.length ∧ i = .int .i64 k ∧ Cnt2 w wr gb bm (l.take k)) (fun i _ => l.length - (intOf i).toNat)
  case atStart => exact ⟨0, Nat.zero_le _, rfl, C4⟩
  case round =>
    clear C4
    obtain ⟨k, hk, rfl, hC⟩ := hrel
    by_cases hlt : k < l.length
    · obtain ⟨b, off, rfl, hb0, hc⟩ := (HR.out _ hC.bel).2 (by omega)
      obtain ⟨x, hx⟩ := some_at l hlt
      have c1 : wr.cell? ⟨b, off + k, none⟩ = some (.int .i64 x) := hc k _ (ints_at _ hx)
      have hx64 := HRG.out x (List.mem_of_getElem? hx)
      have hkey : keyOf Try.prog 3 (.int .i64 x) = some (.int .i64 x) := keyOf_int_mk Try.underlying3 (wf_of hx64)
      have cb := hC.box.cell
      obtain ⟨n0, D, hn0, hown, hat⟩ := hC.cnt
      obtain ⟨c, hrun, ha, -⟩ := hown.lookup_int lawInt Try.underlying37 Try.underlying3 (zeroInt _) hkey
      have hcc : c = cntS (l.take k) x := by rw [hat x] at ha; injection ha with ha; injection ha with _ ha; exact ha.symm
      have hcr := cntS_range (l.take k) x
      rw [← hcc, List.length_take] at hcr
      rw [List.length_take] at hn0
      have hcr2 : 0 ≤ c ∧ c ≤ 60 := by omega
      have HTK := Lib.hid (take_succ_of hx)
      have HNX := Lib.hid (fun (w1 : World) ho hg => Cnt2.next (w1 := w1) (x := x) hC hown (by rw [List.length_take]; exact hn0) hat hcc ho hg)
      have HOW := Lib.hid hown
      have HKEY := Lib.hid hkey
      have i1 : (k : Int) < (l.length : Int) := by omega
      clear hx hc hat ha hcc hcr hown hkey hC hx64
      go_wp2_with (first | (at_mapUpdate; refine wpList_mapUpdate_own _ rfl _ _ _ 37 rfl 3 3 lawInt Try.underlying37 _ bm n0 _ rfl HOW.out (by unfold maxLen; omega) _ _ _ rfl rfl HKEY.out _ [] (plainElem_int Try.underlying3 (WalkArith.wf_i64 (by omega))) ?_; intro w1 hown1 hgrow1) | go_in)
      go_roundw
      case rel => exact ⟨k + 1, by omega, by go_num, by rw [HTK.out]; exact HNX.out w1 hown1 hgrow1⟩
      case measure => simp [intOf]; omega
    · obtain rfl : k = l.length := by omega
      rw [List.take_length] at hC
      have HC := Lib.hid hC
      have gbl := hC.box.lt
      clear hC
      go_wp2_with fail
      refine (impl_copyOfF A cap l _ (HR.out _ HC.out.bel) hn).mono ?_
      rintro e w5 ⟨v5, rfl, own5, b5⟩
      obtain ⟨g, c5, rfl, hg1, hg2, hg3, hg4⟩ := row_some own5 hl0
      have C5 := Lib.hid ((HC.out.below b5).below ((Below.refl _ _).alloc (Nat.le_refl _) (.cells #[] 3)))
      have O5 := Lib.hid (own5.alloc (.cells #[] 3))
      have OT := Lib.hid (show (w5.alloc (.cells #[] 3)).ownsRow w5.heap.size 3 1 (.slice (some ⟨w5.heap.size, 0, none⟩) 0 0) 0 [] from World.ownsRow_made _ _ _ (Nat.le_refl _) (by simp) rfl)
      have hlo : w.heap.size ≤ wr.heap.size := HC.out.bel.size
      clear own5 b5
      go_wp2_with fail
      generalize hW6 : w5.alloc (.cells #[] 3) = w6 at *
      clear hW6
      obtain ⟨lo5, hlo5⟩ : ∃ x, x = wr.heap.size := ⟨_, rfl⟩
      rw [← hlo5] at O5 hg1 hlo gbl
      clear hlo5
      obtain ⟨t0, ht0⟩ : ∃ t0, t0 = w5.heap.size := ⟨_, rfl⟩
      rw [← ht0] at OT hg2 ⊢
      clear ht0
      refine (sortZ_own l _ O5.out hn).mono ?_
      rintro e w7 ⟨rfl, own7, ho7⟩
      have C7 := Lib.hid (C5.out.only ho7 (by omega))
      have OT7 := Lib.hid (ownsRow_only OT.out ho7 (fun x hx => by have := OT.out.lt x hx; omega))
      have O7 := Lib.hid own7
      clear own7 ho7
      go_wp2_with fail
      refine (compactZ_own _ _ O7.out hn).mono ?_
      have HASC := Lib.hid (ascZ_srt l)
      have HMEM := Lib.hid (ascZ_mem l)
      have hol : (ascZ l).length ≤ l.length := by have := compactZ_le (l.mergeSort fun x y => decide (x ≤ y)); rw [List.length_mergeSort] at this; exact this
      rw [show Lib.compact (l.mergeSort fun x y => decide (x ≤ y)) = ascZ l from rfl]
      generalize hO : ascZ l = O at *
      clear hO
      obtain ⟨n7, hn7⟩ : ∃ n7, n7 = O.length := ⟨_, rfl⟩
      rw [← hn7] at hol ⊢
      have HN7 := Lib.hid hn7
      clear hn7
      rintro e w8 ⟨rfl, own8, ho8⟩
      have C8 := Lib.hid (C7.out.only ho8 (by omega))
      have OT8 := Lib.hid (ownsRow_only OT7.out ho8 (fun x hx => by have := OT7.out.lt x hx; omega))
      have HRZ := Lib.hid (show RowZ w8 w8 lo5 g c5 n7 O from ⟨HN7.out.symm, own8, Only.refl _, fun x hx => HRG.out x ((HMEM.out x).1 hx)⟩)
      have HCO := Lib.hid (cmpOk_of C8.out.box C8.out.cnt (show gb ≠ g by omega) (by have := C8.out.ne; omega))
      clear own8 ho8
      go_wp2_with fail
      refine (sortStable_calls _ g c5 n7 gb _ O w8 w8 HRZ.out HASC.out HCO.out (by omega)).mono ?_
      rintro e w9 ⟨rfl, ys, hpm, hpw, hrz⟩
      have C9 := Lib.hid (C8.out.only hrz.only (by omega))
      have OT9 := Lib.hid (ownsRow_only OT8.out hrz.only (fun x hx => by have := OT8.out.lt x hx; omega))
      have O9 := Lib.hid hrz.own
      have hyl := hrz.len
      have HYL := Lib.hid hyl
      have HF := Lib.hid (show Freq l ys from ⟨hpw, fun x => (hpm.mem_iff).trans (HMEM.out x)⟩)
      have HYR := Lib.hid hrz.rng
      clear hpm hpw hrz hyl hmf hmm
      go_wp2
      go_loopw [9, 39] (fun u i wr => ∃ k : Nat, k ≤ n7 ∧ i = .int .i64 k ∧ (∃ gt ct, u = .slice (some ⟨gt, 0, none⟩) k ct ∧ wr.ownsRow t0 3 1 u k (ints ((ys.take k).map (cntS l)))) ∧ wr.ownsRow lo5 3 1 (.slice (some ⟨g, 0, none⟩) n7 c5) n7 (ints ys) ∧ Cnt2 w wr gb bm l) (fun _ i _ => n7 - (intOf i).toNat)
      case atStart => exact ⟨0, Nat.zero_le _, rfl, ⟨_, _, rfl, OT9.out⟩, O9.out, C9.out⟩
      case round =>
        obtain ⟨k, hk, rfl, ⟨gt, ct, rfl, owt⟩, owo, hC⟩ := hrel
        have HT := Lib.hid owt
        have HO := Lib.hid owo
        have HC2 := Lib.hid hC
        have hgt := owt.lt gt rfl
        have hgo := owo.lt g rfl
        clear owt owo hC
        by_cases hlt : k < n7
        · obtain ⟨x, hx⟩ := some_at ys (show k < ys.length by have := HYL.out; omega)
          have c1 : wr.cell? ⟨g, k, none⟩ = some (.int .i64 x) := (HO.out.cellAt k (by omega)).trans (ints_at _ hx)
          have hx64 := HYR.out x (List.mem_of_getElem? hx)
          have hkey : keyOf Try.prog 3 (.int .i64 x) = some (.int .i64 x) := keyOf_int_mk Try.underlying3 (wf_of hx64)
          have cb := HC2.out.box.cell
          obtain ⟨n0, D, hn0, hown, hat⟩ := HC2.out.cnt
          obtain ⟨c, hrun, ha, -⟩ := hown.lookup_int lawInt Try.underlying37 Try.underlying3 (zeroInt _) hkey
          have hcc : c = cntS l x := by rw [hat x] at ha; injection ha with ha; injection ha with _ ha; exact ha.symm
          have HNX := Lib.hid (show ints ((ys.take (k + 1)).map (cntS l)) = ints ((ys.take k).map (cntS l)) ++ [.int .i64 c] by rw [take_succ_of hx, hcc]; simp [ints])
          have i1 : (k : Int) < (n7 : Int) := by omega
          have hz : t0 ≤ wr.heap.size := by omega
          clear hx hn0 hat ha hcc hown hkey hx64
          go_wp2_with (at_builtin; refine wpList_append_oneA HT.out hz (.tmp 43) (.tmp 47) 22 Try.underlying22 info_int (by omega) (by unfold maxLen; omega) ⟨rfl, rfl, rfl, rfl, rfl, rfl⟩ rfl ?_; intro v2 w2 own2 gr2 hat2)
          obtain ⟨g2, c2, hv2, -, -, -, -⟩ := row_some own2 (by omega)
          subst hv2
          have HT2 := Lib.hid (show w2.ownsRow t0 3 1 (.slice (some ⟨g2, 0, none⟩) (k + 1) c2) (k + 1) (ints ((ys.take (k + 1)).map (cntS l))) by rw [HNX.out]; exact own2)
          have HO2 := Lib.hid (HO.out.kept gr2 (.inr (by simp only [Value.ownBlock, ne_eq, Option.some.injEq]; omega)))
          have HC3 := Lib.hid (HC2.out.grown gr2 (fun x hx => by simp only [Value.ownBlock, Option.some.injEq] at hx; omega))
          clear own2 gr2 hat2 hrun
          go_wp2
          go_roundw
          case rel => exact ⟨k + 1, by omega, by go_num, ⟨g2, c2, rfl, HT2.out⟩, HO2.out, HC3.out⟩
          case measure => simp [intOf]; omega
        · obtain rfl : k = n7 := by omega
          have ht : ys.take k = ys := List.take_of_length_le (by rw [HYL.out]; exact Nat.le_refl _)
          have HT2 := HT.out
          rw [ht] at HT2
          have HT3 := Lib.hid HT2
          clear ht HT2
          go_wp2
          go_ret3
          refine ⟨.slice (some ⟨g, 0, none⟩) k c5, .slice (some ⟨gt, 0, none⟩) k ct, ys, by rw [HV.out]; rfl, fun _ => HF.out, fun h => (by rw [HV.out] at h; cases h), ?_, ?_, HC2.out.bel, fun x hx hx2 => ?_⟩
          · rw [HYL.out]
            exact Own.of_row (HO.out.base hlo)
          · rw [HYL.out]
            exact Own.of_row (HT3.out.base (by omega))
          · simp only [Value.ownBlock, Option.some.injEq] at hx hx2
            omega
end Go.Proofs.Ytfgfbnmcihjfmaa
