/-
  The program's longest match and segmentation.
-/
import Derived.Test.YtoimkppjbabgeaaGreatDoorSegS
import Derived.Test.YtoimkppjbabgeaaGreatDoorAtI
namespace Go.Proofs.YtoimkppjbabgeaaGreatDoor
open Go.RowKit
set_option linter.unusedVariables false
set_option linter.unusedSimpArgs false
set_option maxRecDepth 100000

theorem tryN_min (l : List EntD) (zs : List Int) (i : Nat) : tryN l zs i 6 = tryN l zs i (min 6 (zs.length - i)) := by
  by_cases h : zs.length - i ≤ 6
  · rw [Nat.min_eq_right h]
    exact tryN_cap l zs i 6 _ (Nat.le_refl _) h
  · rw [Nat.min_eq_left (by omega)]
set_option maxHeartbeats 4000000 in
theorem impl_matchAt (A B : Option Addr) (cap cb : Nat) (l : List EntD) (zs : List Int) (i m : Nat) (t : ByteArray) (w : World) (hr : DictR w w.heap.size A l) (hv : dictB l = true) (hz : Reads w w.heap.size 1 B zs.length (ints zs)) (hn : zs.length ≤ 1048576) (hi : i < zs.length) (hcb : zs.length ≤ cb) (hcm : cb ≤ maxLen) (hm : matchD l zs i = (m, t)) :
    Calls Tryz.prog 55 #[.agg #[.slice A l.length cap], .slice B zs.length cb, .int .i64 (i : Int)] w fun e w' => e = .returned (.agg #[.int .i64 (i : Int), .int .i64 (m : Int), .string t]) ∧ Below w.heap.size w w' := by
  obtain ⟨W1, hW1⟩ : ∃ W1, W1 = w.alloc (.cells #[.slice A l.length cap] 26) := ⟨_, rfl⟩
  have hb1 : Below w.heap.size w W1 := by rw [hW1]; exact (Below.refl _ _).alloc (Nat.le_refl _) _
  have bP : Box W1 w.heap.size 26 (.slice A l.length cap) := by rw [hW1]; exact Box.new w _ _
  have hs1 : W1.heap.size = w.heap.size + 1 := by rw [hW1]; simp
  obtain ⟨W2, hW2⟩ : ∃ W2, W2 = W1.alloc (.cells #[.int .i64 0, .int .i64 0, .string ⟨#[]⟩] 58) := ⟨_, rfl⟩
  have hb2 : Below w.heap.size w W2 := by rw [hW2]; exact hb1.alloc hb1.size _
  have bP2 : Box W2 w.heap.size 26 (.slice A l.length cap) := by rw [hW2]; exact bP.alloc _
  have tR2 : Three W2 (w.heap.size + 1) 58 (.int .i64 0) (.int .i64 0) (.string ⟨#[]⟩) := by rw [hW2, ← hs1]; exact Three.new W1 _ _ _ _
  have HV := Lib.hid hv
  have HM := Lib.hid (show (m, t) = tryN l zs i 6 from hm.symm)
  unfold maxLen at hcm
  clear hv bP hb1 hs1 hm
  go_enter Tryz.func55, Tryz.ntmps55
  go_wp2
  rw [← hW1, ← hW2]
  clear hW1 hW2
  go_loopw [7] (fun v wr => ∃ n : Nat, n ≤ 6 ∧ i + n ≤ zs.length ∧ v = .int .i64 n ∧ (m, t) = tryN l zs i n ∧ Box wr w.heap.size 26 (.slice A l.length cap) ∧ Three wr (w.heap.size + 1) 58 (.int .i64 0) (.int .i64 0) (.string ⟨#[]⟩) ∧ Below w.heap.size w wr) (fun v _ => (intOf v).toNat)
  case atStart => exact ⟨min 6 (zs.length - i), by omega, by omega, by congr 1; omega, HM.out.trans (tryN_min l zs i), bP2, tR2, hb2⟩
  case round =>
    obtain ⟨n, hn6, hle, rfl, hmt, bP, tR, hb⟩ := hrel
    have HT := Lib.hid hmt
    have cP := bP.cell
    clear hmt bP2 tR2 hb2 HM
    by_cases h0 : 0 < n
    · obtain ⟨bz, oz, rfl, hz0, -⟩ := (hz.below hb).2 (by omega)
      have hpl := part_length hle
      have HB := Lib.hid (show ∀ W, Below wr.heap.size wr W → Calls Tryz.prog 57 #[.agg #[.slice A l.length cap], .slice (some ⟨bz, oz + i, none⟩) n (cb - i)] W fun e w' => e = .returned (lookV l (part zs i n)) ∧ Below W.heap.size W w' from fun W hW => by
        have h := impl_lookup A (some ⟨bz, oz + i, none⟩) cap (cb - i) l (part zs i n) W (((((hr.below hb).more hb.size)).below hW).more hW.size) HV.out (((((hz.below hb).part hle).more hb.size).below hW).more hW.size) (by rw [hpl]; omega)
        rw [hpl] at h
        exact h)
      have hp1 : (⟨w.heap.size, 0, none⟩ : Addr).block < wr.heap.size := bP.lt
      have x1 : IntKind.i64.wrap ((i : Int) + (n : Int)) = (i : Int) + (n : Int) := IntWalk.i64_in _ (by omega)
      have x2 : (0 : Int) ≤ (i : Int) + (n : Int) := by omega
      have x3 : ((i : Int) + (n : Int)).toNat = i + n := by omega
      have x4 : ¬ (zs.length : Int) < (i : Int) + (n : Int) := by omega
      have x5 : (0 : Int) ≤ (i : Int) := by omega
      have x6 : i + n ≤ cb := by omega
      have x7 : i ≤ i + n := by omega
      have x8 : ¬ cb = i := by omega
      have x9 : i + n - i = n := by omega
      have xa : (1 : Int) ≤ (n : Int) := by omega
      have xb : (i : Int) ≤ (i : Int) + (n : Int) := by omega
      have xc : (i : Int) + (n : Int) ≤ (cb : Int) := by omega
      clear hpl
      cases hl : lookD l (part zs i n) with
      | none =>
        have HN := Lib.hid (tryN_miss' h0 hle hl)
        have HL := Lib.hid (lookV_none hl)
        clear hl
        go_wp2
        have S0 : wr.cell? ⟨w.heap.size, 0, none⟩ = some (.slice A l.length cap) ∧ Below wr.heap.size wr wr := ⟨by assumption, Below.refl _ _⟩
        first | refine wp_region_noPanic ?_ | skip
        refine wp_region_held_drew (S := fun w' => w'.cell? ⟨w.heap.size, 0, none⟩ = some (.slice A l.length cap) ∧ Below wr.heap.size wr w') (by kernel_rfl) (by first | exact S0 | exact held1_drew S0 | assumption | exact held1_step hp1 (by assumption) (by assumption) | exact held1_drew (by assumption)) (fun hHeld => ?_)
        (refine wpAnyH_take (i := 0) (v := ?_) rfl (by kernel_rfl) (by kernel_rfl) (by kernel_rfl) (fun _ _ _ h => h) (Or.inl ⟨by rfl, ?_⟩) (by assumption) ?_; rotate_left; focus (intro w hSw; (try dsimp only at hSw); go_simp; try with_reducible rfl))
        (try simp only [List.getElem_toArray, List.getElem_cons_succ, List.getElem_cons_zero, Act.put, List.setIfInBounds_toArray, List.set_cons_zero, List.set_cons_succ])
        (refine wpAnyH_take (i := 1) (v := ?_) rfl (by kernel_rfl) (by kernel_rfl) (by kernel_rfl) (fun _ _ _ h => h) (Or.inl ⟨by rfl, ?_⟩) (by assumption) ?_; rotate_left; focus (intro w hSw; (try dsimp only at hSw); go_simp; try with_reducible rfl))
        (try simp only [List.getElem_toArray, List.getElem_cons_succ, List.getElem_cons_zero, Act.put, List.setIfInBounds_toArray, List.set_cons_zero, List.set_cons_succ])
        (refine wpAnyH_take (i := 2) (v := ?_) rfl (by kernel_rfl) (by kernel_rfl) (by kernel_rfl) (fun _ _ _ h => h) (Or.inl ⟨by rfl, ?_⟩) (by assumption) ?_; rotate_left; focus (intro w hSw; (try dsimp only at hSw); go_simp; try with_reducible rfl))
        (try simp only [List.getElem_toArray, List.getElem_cons_succ, List.getElem_cons_zero, Act.put, List.setIfInBounds_toArray, List.set_cons_zero, List.set_cons_succ])
        (refine wpAnyH_take (i := 3) (v := ?_) rfl (by kernel_rfl) (by kernel_rfl) (by kernel_rfl) (fun _ _ _ h => h) (Or.inl ⟨by rfl, ?_⟩) (by assumption) ?_; rotate_left; focus (intro w hSw; (try dsimp only at hSw); go_simp; try with_reducible rfl))
        (try simp only [List.getElem_toArray, List.getElem_cons_succ, List.getElem_cons_zero, Act.put, List.setIfInBounds_toArray, List.set_cons_zero, List.set_cons_succ])
        (refine wpAnyH_take (i := 4) (v := ?_) rfl (by kernel_rfl) (by kernel_rfl) (by kernel_rfl) (fun _ _ _ h => h) (Or.inl ⟨by rfl, ?_⟩) (by assumption) ?_; rotate_left; focus (intro w hSw; (try dsimp only at hSw); go_simp; try with_reducible rfl))
        (try simp only [List.getElem_toArray, List.getElem_cons_succ, List.getElem_cons_zero, Act.put, List.setIfInBounds_toArray, List.set_cons_zero, List.set_cons_succ])
        (refine wpAnyH_take (i := 5) (v := ?_) rfl (by kernel_rfl) (by kernel_rfl) (by kernel_rfl) (fun _ _ _ h => h) (Or.inl ⟨by rfl, ?_⟩) (by assumption) ?_; rotate_left; focus (intro w hSw; (try dsimp only at hSw); go_simp; try with_reducible rfl))
        (try simp only [List.getElem_toArray, List.getElem_cons_succ, List.getElem_cons_zero, Act.put, List.setIfInBounds_toArray, List.set_cons_zero, List.set_cons_succ])
        (refine wpAnyH_take (i := 6) (v := ?_) rfl (by kernel_rfl) (by kernel_rfl) (by kernel_rfl) (fun _ _ _ h => h) (Or.inl ⟨by rfl, ?_⟩) (by assumption) ?_; rotate_left; focus (intro w hSw; (try dsimp only at hSw); go_simp; try with_reducible rfl))
        (try simp only [List.getElem_toArray, List.getElem_cons_succ, List.getElem_cons_zero, Act.put, List.setIfInBounds_toArray, List.set_cons_zero, List.set_cons_succ])
        refine wpAnyH_ready (rs := [7]) (by kernel_rfl) (by simp) ?_
        refine AllReadyH.cons rfl (fun K hK => ?_) AllReadyH.nil
        go_simp
        refine (HB.out _ (held1_below (by assumption))).mono ?_; rw [HL.out]; rintro e w9 ⟨rfl, b9⟩; go_wp2_with fail
        refine hK.out _ _ (by first | exact S0 | exact held1_drew S0 | assumption | exact held1_step hp1 (by assumption) (by assumption) | exact held1_drew (by assumption)) (fun hHeld => ?_)
        clear hK K
        (try simp only [List.getElem_toArray, List.getElem_cons_succ, List.getElem_cons_zero, Act.put, List.setIfInBounds_toArray, List.set_cons_zero, List.set_cons_succ])
        (refine wpAnyH_take (i := 8) (v := ?_) rfl (by kernel_rfl) (by kernel_rfl) (by kernel_rfl) (fun _ _ _ h => h) (Or.inl ⟨by rfl, ?_⟩) (by assumption) ?_; rotate_left; focus (intro w hSw; (try dsimp only at hSw); go_simp; try with_reducible rfl))
        (try simp only [List.getElem_toArray, List.getElem_cons_succ, List.getElem_cons_zero, Act.put, List.setIfInBounds_toArray, List.set_cons_zero, List.set_cons_succ])
        (refine wpAnyH_take (i := 9) (v := ?_) rfl (by kernel_rfl) (by kernel_rfl) (by kernel_rfl) (fun _ _ _ h => h) (Or.inl ⟨by rfl, ?_⟩) (by assumption) ?_; rotate_left; focus (intro w hSw; (try dsimp only at hSw); go_simp; try with_reducible rfl))
        (try simp only [List.getElem_toArray, List.getElem_cons_succ, List.getElem_cons_zero, Act.put, List.setIfInBounds_toArray, List.set_cons_zero, List.set_cons_succ])
        (refine wpAnyH_take (i := 10) (v := ?_) rfl (by kernel_rfl) (by kernel_rfl) (by kernel_rfl) (fun _ _ _ h => h) (Or.inl ⟨by rfl, ?_⟩) (by assumption) ?_; rotate_left; focus (intro w hSw; (try dsimp only at hSw); go_simp; try with_reducible rfl))
        (try simp only [List.getElem_toArray, List.getElem_cons_succ, List.getElem_cons_zero, Act.put, List.setIfInBounds_toArray, List.set_cons_zero, List.set_cons_succ])
        (refine wpAnyH_take (i := 11) (v := ?_) rfl (by kernel_rfl) (by kernel_rfl) (by kernel_rfl) (fun _ _ _ h => h) (Or.inl ⟨by rfl, ?_⟩) (by assumption) ?_; rotate_left; focus (intro w hSw; (try dsimp only at hSw); go_simp; try with_reducible rfl))
        (try simp only [List.getElem_toArray, List.getElem_cons_succ, List.getElem_cons_zero, Act.put, List.setIfInBounds_toArray, List.set_cons_zero, List.set_cons_succ])
        (refine wpAnyH_take (i := 12) (v := ?_) rfl (by kernel_rfl) (by kernel_rfl) (by kernel_rfl) (fun _ _ _ h => h) (Or.inl ⟨by rfl, ?_⟩) (by assumption) ?_; rotate_left; focus (intro w hSw; (try dsimp only at hSw); go_simp; try with_reducible rfl))
        (try simp only [List.getElem_toArray, List.getElem_cons_succ, List.getElem_cons_zero, Act.put, List.setIfInBounds_toArray, List.set_cons_zero, List.set_cons_succ])
        refine wpAnyH_done (by kernel_rfl) ?_ _
        first | refine NoPanic.normal ?_ | skip
        have SZ : w9.cell? ⟨w.heap.size, 0, none⟩ = some (.slice A l.length cap) ∧ Below wr.heap.size wr w9 := by assumption
        have bz_ := held1_below SZ
        have B9 := hb.trans (bz_.mono hb.size)
        clear S0 SZ hHeld x1
        go_wp2
        go_roundw
        case rel => exact ⟨n - 1, by omega, by omega, by go_num, HT.out.trans HN.out, bP.far bz_, tR.far bz_, B9⟩
        case measure => simp [intOf]; omega
      | some s =>
        have HN := Lib.hid (HT.out.trans (tryN_hit' h0 hle hl))
        have HL := Lib.hid (lookV_some hl)
        clear hl
        go_wp2
        have S0 : wr.cell? ⟨w.heap.size, 0, none⟩ = some (.slice A l.length cap) ∧ Below wr.heap.size wr wr := ⟨by assumption, Below.refl _ _⟩
        first | refine wp_region_noPanic ?_ | skip
        refine wp_region_held_drew (S := fun w' => w'.cell? ⟨w.heap.size, 0, none⟩ = some (.slice A l.length cap) ∧ Below wr.heap.size wr w') (by kernel_rfl) (by first | exact S0 | exact held1_drew S0 | assumption | exact held1_step hp1 (by assumption) (by assumption) | exact held1_drew (by assumption)) (fun hHeld => ?_)
        (refine wpAnyH_take (i := 0) (v := ?_) rfl (by kernel_rfl) (by kernel_rfl) (by kernel_rfl) (fun _ _ _ h => h) (Or.inl ⟨by rfl, ?_⟩) (by assumption) ?_; rotate_left; focus (intro w hSw; (try dsimp only at hSw); go_simp; try with_reducible rfl))
        (try simp only [List.getElem_toArray, List.getElem_cons_succ, List.getElem_cons_zero, Act.put, List.setIfInBounds_toArray, List.set_cons_zero, List.set_cons_succ])
        (refine wpAnyH_take (i := 1) (v := ?_) rfl (by kernel_rfl) (by kernel_rfl) (by kernel_rfl) (fun _ _ _ h => h) (Or.inl ⟨by rfl, ?_⟩) (by assumption) ?_; rotate_left; focus (intro w hSw; (try dsimp only at hSw); go_simp; try with_reducible rfl))
        (try simp only [List.getElem_toArray, List.getElem_cons_succ, List.getElem_cons_zero, Act.put, List.setIfInBounds_toArray, List.set_cons_zero, List.set_cons_succ])
        (refine wpAnyH_take (i := 2) (v := ?_) rfl (by kernel_rfl) (by kernel_rfl) (by kernel_rfl) (fun _ _ _ h => h) (Or.inl ⟨by rfl, ?_⟩) (by assumption) ?_; rotate_left; focus (intro w hSw; (try dsimp only at hSw); go_simp; try with_reducible rfl))
        (try simp only [List.getElem_toArray, List.getElem_cons_succ, List.getElem_cons_zero, Act.put, List.setIfInBounds_toArray, List.set_cons_zero, List.set_cons_succ])
        (refine wpAnyH_take (i := 3) (v := ?_) rfl (by kernel_rfl) (by kernel_rfl) (by kernel_rfl) (fun _ _ _ h => h) (Or.inl ⟨by rfl, ?_⟩) (by assumption) ?_; rotate_left; focus (intro w hSw; (try dsimp only at hSw); go_simp; try with_reducible rfl))
        (try simp only [List.getElem_toArray, List.getElem_cons_succ, List.getElem_cons_zero, Act.put, List.setIfInBounds_toArray, List.set_cons_zero, List.set_cons_succ])
        (refine wpAnyH_take (i := 4) (v := ?_) rfl (by kernel_rfl) (by kernel_rfl) (by kernel_rfl) (fun _ _ _ h => h) (Or.inl ⟨by rfl, ?_⟩) (by assumption) ?_; rotate_left; focus (intro w hSw; (try dsimp only at hSw); go_simp; try with_reducible rfl))
        (try simp only [List.getElem_toArray, List.getElem_cons_succ, List.getElem_cons_zero, Act.put, List.setIfInBounds_toArray, List.set_cons_zero, List.set_cons_succ])
        (refine wpAnyH_take (i := 5) (v := ?_) rfl (by kernel_rfl) (by kernel_rfl) (by kernel_rfl) (fun _ _ _ h => h) (Or.inl ⟨by rfl, ?_⟩) (by assumption) ?_; rotate_left; focus (intro w hSw; (try dsimp only at hSw); go_simp; try with_reducible rfl))
        (try simp only [List.getElem_toArray, List.getElem_cons_succ, List.getElem_cons_zero, Act.put, List.setIfInBounds_toArray, List.set_cons_zero, List.set_cons_succ])
        (refine wpAnyH_take (i := 6) (v := ?_) rfl (by kernel_rfl) (by kernel_rfl) (by kernel_rfl) (fun _ _ _ h => h) (Or.inl ⟨by rfl, ?_⟩) (by assumption) ?_; rotate_left; focus (intro w hSw; (try dsimp only at hSw); go_simp; try with_reducible rfl))
        (try simp only [List.getElem_toArray, List.getElem_cons_succ, List.getElem_cons_zero, Act.put, List.setIfInBounds_toArray, List.set_cons_zero, List.set_cons_succ])
        refine wpAnyH_ready (rs := [7]) (by kernel_rfl) (by simp) ?_
        refine AllReadyH.cons rfl (fun K hK => ?_) AllReadyH.nil
        go_simp
        refine (HB.out _ (held1_below (by assumption))).mono ?_; rw [HL.out]; rintro e w9 ⟨rfl, b9⟩; go_wp2_with fail
        refine hK.out _ _ (by first | exact S0 | exact held1_drew S0 | assumption | exact held1_step hp1 (by assumption) (by assumption) | exact held1_drew (by assumption)) (fun hHeld => ?_)
        clear hK K
        (try simp only [List.getElem_toArray, List.getElem_cons_succ, List.getElem_cons_zero, Act.put, List.setIfInBounds_toArray, List.set_cons_zero, List.set_cons_succ])
        (refine wpAnyH_take (i := 8) (v := ?_) rfl (by kernel_rfl) (by kernel_rfl) (by kernel_rfl) (fun _ _ _ h => h) (Or.inl ⟨by rfl, ?_⟩) (by assumption) ?_; rotate_left; focus (intro w hSw; (try dsimp only at hSw); go_simp; try with_reducible rfl))
        (try simp only [List.getElem_toArray, List.getElem_cons_succ, List.getElem_cons_zero, Act.put, List.setIfInBounds_toArray, List.set_cons_zero, List.set_cons_succ])
        (refine wpAnyH_take (i := 9) (v := ?_) rfl (by kernel_rfl) (by kernel_rfl) (by kernel_rfl) (fun _ _ _ h => h) (Or.inl ⟨by rfl, ?_⟩) (by assumption) ?_; rotate_left; focus (intro w hSw; (try dsimp only at hSw); go_simp; try with_reducible rfl))
        (try simp only [List.getElem_toArray, List.getElem_cons_succ, List.getElem_cons_zero, Act.put, List.setIfInBounds_toArray, List.set_cons_zero, List.set_cons_succ])
        (refine wpAnyH_take (i := 10) (v := ?_) rfl (by kernel_rfl) (by kernel_rfl) (by kernel_rfl) (fun _ _ _ h => h) (Or.inl ⟨by rfl, ?_⟩) (by assumption) ?_; rotate_left; focus (intro w hSw; (try dsimp only at hSw); go_simp; try with_reducible rfl))
        (try simp only [List.getElem_toArray, List.getElem_cons_succ, List.getElem_cons_zero, Act.put, List.setIfInBounds_toArray, List.set_cons_zero, List.set_cons_succ])
        (refine wpAnyH_take (i := 11) (v := ?_) rfl (by kernel_rfl) (by kernel_rfl) (by kernel_rfl) (fun _ _ _ h => h) (Or.inl ⟨by rfl, ?_⟩) (by assumption) ?_; rotate_left; focus (intro w hSw; (try dsimp only at hSw); go_simp; try with_reducible rfl))
        (try simp only [List.getElem_toArray, List.getElem_cons_succ, List.getElem_cons_zero, Act.put, List.setIfInBounds_toArray, List.set_cons_zero, List.set_cons_succ])
        (refine wpAnyH_take (i := 12) (v := ?_) rfl (by kernel_rfl) (by kernel_rfl) (by kernel_rfl) (fun _ _ _ h => h) (Or.inl ⟨by rfl, ?_⟩) (by assumption) ?_; rotate_left; focus (intro w hSw; (try dsimp only at hSw); go_simp; try with_reducible rfl))
        (try simp only [List.getElem_toArray, List.getElem_cons_succ, List.getElem_cons_zero, Act.put, List.setIfInBounds_toArray, List.set_cons_zero, List.set_cons_succ])
        refine wpAnyH_done (by kernel_rfl) ?_ _
        first | refine NoPanic.normal ?_ | skip
        have SZ : w9.cell? ⟨w.heap.size, 0, none⟩ = some (.slice A l.length cap) ∧ Below wr.heap.size wr w9 := by assumption
        have bz_ := held1_below SZ
        have B9 := hb.trans (bz_.mono hb.size)
        have tR9 := tR.far bz_
        have q0 := tR9.cell0
        have q1 := tR9.cell1
        have q2 := tR9.cell2
        have qf := tR9.free
        clear S0 SZ hHeld x1
        go_wp2
        have hmn := HN.out
        simp only [Prod.mk.injEq] at hmn
        obtain ⟨rfl, rfl⟩ := hmn
        refine bodyPost_ret (v := .agg #[.int .i64 (i : Int), .int .i64 (m : Int), .string t]) (by simp [results, go_sem, q0, q1, q2]) rfl ?_
        exact ⟨rfl, (((B9.setCell (p := ⟨w.heap.size + 1, 0, none⟩) (by show w.heap.size ≤ w.heap.size + 1; omega) _).setCell (p := ⟨w.heap.size + 1, 1, none⟩) (by show w.heap.size ≤ w.heap.size + 1; omega) _).setCell (p := ⟨w.heap.size + 1, 2, none⟩) (by show w.heap.size ≤ w.heap.size + 1; omega) _)⟩
    · obtain rfl : n = 0 := by omega
      have q0 := tR.cell0
      have q1 := tR.cell1
      have q2 := tR.cell2
      have qf := tR.free
      go_wp2
      have hmn : (m, t) = (1, ⟨#[]⟩) := HT.out
      simp only [Prod.mk.injEq] at hmn
      obtain ⟨rfl, rfl⟩ := hmn
      refine bodyPost_ret (v := .agg #[.int .i64 (i : Int), .int .i64 ((1 : Nat) : Int), .string ⟨#[]⟩]) (by simp [results, go_sem, q0, q1, q2]) rfl ?_
      exact ⟨rfl, (((hb.setCell (p := ⟨w.heap.size + 1, 0, none⟩) (by show w.heap.size ≤ w.heap.size + 1; omega) _).setCell (p := ⟨w.heap.size + 1, 1, none⟩) (by show w.heap.size ≤ w.heap.size + 1; omega) _).setCell (p := ⟨w.heap.size + 1, 2, none⟩) (by show w.heap.size ≤ w.heap.size + 1; omega) _)⟩

set_option maxHeartbeats 4000000 in
theorem impl_segment (A B : Option Addr) (cap cb : Nat) (l : List EntD) (zs : List Int) (w : World) (hr : DictR w w.heap.size A l) (hv : dictB l = true) (hz : Reads w w.heap.size 1 B zs.length (ints zs)) (hn : zs.length ≤ 1048576) (hcb : zs.length ≤ cb) (hcm : cb ≤ maxLen) :
    Calls Tryz.prog 33 #[.agg #[.slice A l.length cap], .slice B zs.length cb] w (SegRes (segD l zs) w) := by
  obtain ⟨W1, hW1⟩ : ∃ W1, W1 = w.alloc (.cells #[.slice A l.length cap] 26) := ⟨_, rfl⟩
  have hb1 : Below w.heap.size w W1 := by rw [hW1]; exact (Below.refl _ _).alloc (Nat.le_refl _) _
  have bP : Box W1 w.heap.size 26 (.slice A l.length cap) := by rw [hW1]; exact Box.new w _ _
  have hs1 : W1.heap.size = w.heap.size + 1 := by rw [hW1]; simp
  have own0 : (W1.alloc (.cells #[] 58)).ownsRow (w.heap.size + 1) 58 3 (.slice (some ⟨W1.heap.size, 0, none⟩) 0 0) 0 [] := World.ownsRow_made _ _ _ (by omega) (by simp) rfl
  have bP1 := bP.alloc (.cells #[] 58)
  have B1 := hb1.alloc hb1.size (.cells #[] 58)
  rw [hs1] at own0
  have HV := Lib.hid hv
  have HCM := Lib.hid hcm
  unfold maxLen at hcm
  clear hv bP hb1 hs1
  go_enter Tryz.func33, Tryz.ntmps33
  go_wp2
  rw [← hW1]
  clear hW1
  go_loopw [5, 6] (fun v x wr => ∃ (ps : List PieceD) (i : Nat), i ≤ zs.length ∧ ps.length ≤ i ∧ x = .int .i64 i ∧ SegAt l zs ps i ∧ wr.ownsRow (w.heap.size + 1) 58 3 v ps.length (piecesV ps) ∧ Box wr w.heap.size 26 (.slice A l.length cap) ∧ Below w.heap.size w wr) (fun _ x _ => zs.length - (intOf x).toNat)
  case atStart => exact ⟨[], 0, Nat.zero_le _, Nat.le_refl _, rfl, segAt_zero l zs, own0, bP1, B1⟩
  case round =>
    obtain ⟨ps, i, hi, hpi, rfl, hsg, hown, bP, hb⟩ := hrel
    have HSG := Lib.hid hsg
    have cP := bP.cell
    clear hsg
    by_cases hlt : i < zs.length
    · obtain ⟨⟨m, t⟩, hmd⟩ : ∃ x, x = matchD l zs i := ⟨_, rfl⟩
      have hrg := tryN_range l zs i hlt 6
      have hm1 : 1 ≤ m ∧ i + m ≤ zs.length := by
        have h : tryN l zs i 6 = (m, t) := hmd.symm
        rw [h] at hrg
        exact ⟨hrg.1, hrg.2.1⟩
      have HM := Lib.hid hmd.symm
      have HNX := Lib.hid (show SegAt l zs (ps ++ [(i, m, t)]) (i + m) by have h := segAt_next HSG.out hlt; rw [← hmd] at h; exact h)
      clear hmd hrg
      go_wp2_with fail
      refine (impl_matchAt A B cap cb l zs i m t _ ((hr.below hb).more hb.size) HV.out ((hz.below hb).more hb.size) hn hlt hcb HCM.out HM.out).mono ?_
      rintro e w5 ⟨rfl, b5⟩
      have B5 := hb.trans (b5.mono hb.size)
      have bP5 := bP.far b5
      have own5 := row_below hown b5
      have hz5 : w.heap.size + 1 ≤ w5.heap.size := bP5.lt
      have bb := (Below.refl w5.heap.size w5).alloc (Nat.le_refl _) (.cells #[.int .i64 (i : Int), .int .i64 (m : Int), .string t] 58)
      have tb := Three.new w5 58 (.int .i64 (i : Int)) (.int .i64 (m : Int)) (.string t)
      obtain ⟨g, hgg⟩ : ∃ g, g = w5.heap.size := ⟨_, rfl⟩
      have hgo : u5.ownBlock ≠ some g := fun h => by have := (own5.lt g h).2; omega
      go_upto_region 5 with (fail)
      rw [← hgg] at tb
      generalize hX : w5.alloc (.cells #[.int .i64 (i : Int), .int .i64 (m : Int), .string t] 58) = xr at *
      try rw [← hgg]
      clear hX hgg
      have hownx := row_below own5 bb
      have bPx := bP5.far bb
      have Bx := B5.trans (bb.mono B5.size)
      have szx : w.heap.size + 1 ≤ xr.heap.size := bPx.lt
      have e0 := tb.cell0
      have e1 := tb.cell1
      have e2 := tb.cell2
      go_wp2_with (at_builtin; refine wpList_append_threeG hownx szx (.tmp 17) (.tmp 19) 55 Tryz.underlying55 info_piece (by omega) (by unfold maxLen; omega) ⟨rfl, rfl, rfl, rfl, rfl, rfl, rfl, rfl⟩ rfl ?_; intro v10 w10 hown10 gr10; have e3 := (tb.grown gr10 hgo).cell1; clear e0 e1 e2)
      go_roundw
      case rel =>
        exact ⟨ps ++ [(i, m, t)], i + m, by omega, by simp; omega, by go_num, HNX.out, by rw [piecesV_snoc, List.length_append]; exact hown10, bPx.grown gr10 (bPx.ne_own hownx (by decide)), below_grown Bx gr10 Bx.size hownx rfl (by omega)⟩
      case measure => simp [intOf]; omega
    · have HE := Lib.hid (segAt_end HSG.out (by omega))
      go_wp2
      go_ret
      exact ⟨_, rfl, by rw [← HE.out]; exact ⟨hown.base (by omega), fun g hg => (hown.lt g hg).2⟩, hb⟩
end Go.Proofs.YtoimkppjbabgeaaGreatDoor
