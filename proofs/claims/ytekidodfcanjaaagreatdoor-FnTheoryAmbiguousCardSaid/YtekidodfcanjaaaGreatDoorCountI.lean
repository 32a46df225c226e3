/-
  The program's numbers of readings.
-/
import Derived.Test.YtekidodfcanjaaaGreatDoorCountS
import Derived.Test.YtekidodfcanjaaaGreatDoorAtI
namespace Go.Proofs.YtekidodfcanjaaaGreatDoor
open Go.RowKit
set_option linter.unusedVariables false
set_option linter.unusedSimpArgs false
set_option maxRecDepth 100000

set_option maxHeartbeats 4000000 in
theorem impl_readings (A B : Option Addr) (cap cb : Nat) (l : List EntD) (zs : List Int) (w : World) (hr : DictR w w.heap.size A l) (hv : dictB l = true) (hz : Reads w w.heap.size 1 B zs.length (ints zs)) (hn : zs.length ≤ 60) (hcb : zs.length ≤ cb) (hcm : cb ≤ maxLen) :
    Calls Tryz.prog 56 #[.agg #[.slice A l.length cap], .slice B zs.length cb] w fun e w' => ∃ g, e = .returned (.slice (some ⟨g, 0, none⟩) (zs.length + 1) (zs.length + 1)) ∧ Own w' w.heap.size w'.heap.size 3 1 (.slice (some ⟨g, 0, none⟩) (zs.length + 1) (zs.length + 1)) (zs.length + 1) (ints (cntRow l zs zs.length)) ∧ Below w.heap.size w w' := by
  obtain ⟨W1, hW1⟩ : ∃ W1, W1 = w.alloc (.cells #[.slice A l.length cap] 31) := ⟨_, rfl⟩
  have hb1 : Below w.heap.size w W1 := by rw [hW1]; exact (Below.refl _ _).alloc (Nat.le_refl _) _
  have bP : Box W1 w.heap.size 31 (.slice A l.length cap) := by rw [hW1]; exact Box.new w _ _
  have hs1 : W1.heap.size = w.heap.size + 1 := by rw [hW1]; simp
  have h40 := dict_len hv
  have HV := Lib.hid hv
  clear hv
  unfold maxLen at hcm
  have hmk := run_make_rowN (P := Tryz.prog) 26 3 Tryz.underlying26 info_int .i64 .i64 (zs.length + 1) (zs.length + 1) (Nat.le_refl _) (by omega) (by omega)
  have hcast : ((zs.length + 1 : Nat) : Int) = (zs.length : Int) + 1 := by omega
  rw [hcast] at hmk
  have own1 : Own (W1.alloc (.cells ((madeCells #[Value.int .i64 0] (zs.length + 1)).setIfInBounds zs.length (Value.int .i64 1)) 3)) (w.heap.size + 1) (w.heap.size + 2) 3 1 (.slice (some ⟨w.heap.size + 1, 0, none⟩) (zs.length + 1) (zs.length + 1)) (zs.length + 1) (ints (cntRow l zs 0)) := by
    have h := World.ownsRow_lit (base := W1.heap.size) (e := 3) (size := 1) W1 ((madeCells #[Value.int .i64 0] (zs.length + 1)).setIfInBounds zs.length (Value.int .i64 1)) (zs.length + 1) (Nat.le_refl _) (by unfold maxLen; omega) (by simp [madeCells])
    have e : ints (cntRow l zs 0) = ((madeCells #[Value.int .i64 0] (zs.length + 1)).setIfInBounds zs.length (Value.int .i64 1)).toList := by rw [Array.toList_setIfInBounds, toList_madeCells_one, cntRow_zero]; simp [ints, List.map_set]
    rw [hs1] at h
    rw [e]
    exact ⟨h, fun g hg => by simp [Value.ownBlock] at hg; omega⟩
  have bP1 := bP.alloc (.cells ((madeCells #[Value.int .i64 0] (zs.length + 1)).setIfInBounds zs.length (Value.int .i64 1)) 3)
  have B1 := hb1.alloc hb1.size (.cells ((madeCells #[Value.int .i64 0] (zs.length + 1)).setIfInBounds zs.length (Value.int .i64 1)) 3)
  have z1 : w.heap.size + 1 < (W1.alloc (.cells ((madeCells #[Value.int .i64 0] (zs.length + 1)).setIfInBounds zs.length (Value.int .i64 1)) 3)).heap.size := by simp; omega
  have hmc : (madeCells #[Value.int .i64 0] (zs.length + 1))[zs.length]? = some (.int .i64 0) := by rw [← Array.getElem?_toList, toList_madeCells_one]; simp
  have hle1 : (zs.length : Int) < (zs.length : Int) + 1 := by omega
  have hge0 : (0 : Int) ≤ (zs.length : Int) := by omega
  have HS1 := Lib.hid hs1
  clear bP hb1 hs1
  go_enter Tryz.func56, Tryz.ntmps56
  go_wp2
  rw [← hW1]
  go_loopw [6] (fun i wr => ∃ r : Nat, r ≤ zs.length ∧ i = .int .i64 ((zs.length : Int) - 1 - (r : Int)) ∧ Own wr (w.heap.size + 1) (w.heap.size + 2) 3 1 (.slice (some ⟨w.heap.size + 1, 0, none⟩) (zs.length + 1) (zs.length + 1)) (zs.length + 1) (ints (cntRow l zs r)) ∧ Box wr w.heap.size 31 (.slice A l.length cap) ∧ Below w.heap.size w wr ∧ (w.heap.size + 1) < wr.heap.size) (fun i _ => Int.toNat (intOf i + (1 : Int)))
  case atStart => exact ⟨0, Nat.zero_le _, by go_num, own1, bP1, by first | exact B1 | exact below_drewN B1 _, z1⟩
  case round =>
    obtain ⟨r, hrn, rfl, hown, bP, hb, hsz⟩ := hrel
    have cP := bP.cell
    by_cases hlt : r < zs.length
    · obtain ⟨q, hq⟩ : ∃ q, q = zs.length - (r + 1) := ⟨_, rfl⟩
      have hqi : (zs.length : Int) - 1 - (r : Int) = (q : Int) := by omega
      rw [hqi]
      have HR := Lib.hid (cntAt_zero (l := l) hlt)
      rw [← HR.out] at hown
      have i0 : (0 : Int) ≤ (q : Int) := by omega
      go_wp2
      go_loopw [27] (fun j wr => ∃ k : Nat, k ≤ l.length ∧ j = .int .i64 k ∧ Own wr (w.heap.size + 1) (w.heap.size + 2) 3 1 (.slice (some ⟨w.heap.size + 1, 0, none⟩) (zs.length + 1) (zs.length + 1)) (zs.length + 1) (ints (cntAt l zs r k)) ∧ Box wr w.heap.size 31 (.slice A l.length cap) ∧ Below w.heap.size w wr ∧ (w.heap.size + 1) < wr.heap.size) (fun j _ => l.length - (intOf j).toNat)
      case atStart => exact ⟨0, Nat.zero_le _, rfl, hown, bP, hb, hsz⟩
      case round =>
        obtain ⟨k, hk, rfl, hown, bP, hb, hsz⟩ := hrel
        clear cP
        by_cases hkl : k < l.length
        · obtain ⟨b, off, rfl, hb0, hc⟩ := (hr.below hb) (by omega)
          obtain ⟨bz, oz, rfl, hz0, -⟩ := (hz.below hb).2 (by omega)
          obtain ⟨⟨o, t⟩, hx⟩ := some_at l hkl
          obtain ⟨ao, co, c1, c2, r1, hco, hcom⟩ := DictR.at_ hc hx
          have hol := dict_out HV.out hx
          simp only at hol
          have i2 : (0 : Int) ≤ (k : Int) := by omega
          have i3 : (k : Int) < (l.length : Int) := by omega
          have i4 : (q : Int) ≤ (cb : Int) := by omega
          have ba := (Below.refl wr.heap.size wr).alloc (Nat.le_refl _) (.cells #[.slice ao o.length co, .string t] 50)
          have ta := Two.new wr 50 (.slice ao o.length co) (.string t)
          obtain ⟨g, hgg⟩ : ∃ g, g = wr.heap.size := ⟨_, rfl⟩
          have hgw : w.heap.size + 1 < g := by rw [hgg]; exact hsz
          have i5 : q ≤ zs.length := by omega
          have hqc : ¬ cb = q := by omega
          have hdl : (zs.drop q).length = zs.length - q := by simp
          have HX := Lib.hid hx
          have HQ := Lib.hid hq
          clear hx hq
          go_upto_region 9 with (fail)
          rw [← hgg] at ta
          generalize hX : wr.alloc (.cells #[.slice ao o.length co, .string t] 50) = xr at *
          try rw [← hgg]
          clear hX
          have hownx := hown.below ba
          have bPx := bP.far ba
          have hbx := hb.trans (ba.mono hb.size)
          have hszx : w.heap.size + 1 < xr.heap.size := by have := ba.size; omega
          have g1 := ta.cell0
          have hp1 : (⟨g, 0, none⟩ : Addr).block < xr.heap.size := ta.lt
          have HB := Lib.hid (show ∀ W, Below xr.heap.size xr W → Calls Tryz.prog 53 #[.slice (some ⟨bz, oz + q, none⟩) (zs.length - q) (cb - q), .slice ao o.length co] W fun e w' => e = .returned (.bool (beginsB (zs.drop q) o)) ∧ Below W.heap.size W w' from fun W hW => by
            have h := impl_startsWith (some ⟨bz, oz + q, none⟩) ao (cb - q) co (zs.drop q) o W (((((hz.below hbx).back q).more hbx.size).below hW).more hW.size) (((((r1.more hb.size).below ba).more ba.size).below hW).more hW.size) (by rw [hdl]; omega) (by omega) (by rw [hdl]; omega) (by unfold maxLen; omega)
            rw [hdl] at h
            exact h)
          have HNEG := Lib.hid (fun (h : beginsB (zs.drop q) o = false) => cntAt_no (r := r) HX.out (by rw [← HQ.out]; exact h))
          clear hc r1 c1 c2 hgg hown bP hb hsz
          cases hbg : beginsB (zs.drop q) o
          · have HBG := Lib.hid hbg
            have HNO := Lib.hid (HNEG.out hbg)
            clear hbg
            go_wp2
            have S0 : xr.cell? ⟨g, 0, none⟩ = some (.slice ao o.length co) ∧ Below xr.heap.size xr xr := ⟨by assumption, Below.refl _ _⟩
            first | refine wp_region_noPanic ?_ | skip
            refine wp_region_held_drew (S := fun w' => w'.cell? ⟨g, 0, none⟩ = some (.slice ao o.length co) ∧ Below xr.heap.size xr w') (by kernel_rfl) (by first | exact S0 | exact held1_drew S0 | assumption | exact held1_step hp1 (by assumption) (by assumption) | exact held1_drew (by assumption)) (fun hHeld => ?_)
            (refine wpAnyH_take (i := 0) (v := ?_) rfl (by kernel_rfl) (by kernel_rfl) (by kernel_rfl) (fun _ _ _ h => h) (Or.inl ⟨by rfl, ?_⟩) (by assumption) ?_; rotate_left; focus (intro w hSw; (try dsimp only at hSw); go_simp; try with_reducible rfl))
            (try simp only [List.getElem_toArray, List.getElem_cons_succ, List.getElem_cons_zero, Act.put, List.setIfInBounds_toArray, List.set_cons_zero, List.set_cons_succ])
            (refine wpAnyH_take (i := 1) (v := ?_) rfl (by kernel_rfl) (by kernel_rfl) (by kernel_rfl) (fun _ _ _ h => h) (Or.inl ⟨by rfl, ?_⟩) (by assumption) ?_; rotate_left; focus (intro w hSw; (try dsimp only at hSw); go_simp; try with_reducible rfl))
            (try simp only [List.getElem_toArray, List.getElem_cons_succ, List.getElem_cons_zero, Act.put, List.setIfInBounds_toArray, List.set_cons_zero, List.set_cons_succ])
            (refine wpAnyH_take (i := 2) (v := ?_) rfl (by kernel_rfl) (by kernel_rfl) (by kernel_rfl) (fun _ _ _ h => h) (Or.inl ⟨by rfl, ?_⟩) (by assumption) ?_; rotate_left; focus (intro w hSw; (try dsimp only at hSw); go_simp; try with_reducible rfl))
            (try simp only [List.getElem_toArray, List.getElem_cons_succ, List.getElem_cons_zero, Act.put, List.setIfInBounds_toArray, List.set_cons_zero, List.set_cons_succ])
            (refine wpAnyH_take (i := 3) (v := ?_) rfl (by kernel_rfl) (by kernel_rfl) (by kernel_rfl) (fun _ _ _ h => h) (Or.inl ⟨by rfl, ?_⟩) (by assumption) ?_; rotate_left; focus (intro w hSw; (try dsimp only at hSw); go_simp; try with_reducible rfl))
            (try simp only [List.getElem_toArray, List.getElem_cons_succ, List.getElem_cons_zero, Act.put, List.setIfInBounds_toArray, List.set_cons_zero, List.set_cons_succ])
            (refine wpAnyH_take (i := 4) (v := ?_) rfl (by kernel_rfl) (by kernel_rfl) (by kernel_rfl) (fun _ _ _ h => h) (Or.inl ⟨by rfl, ?_⟩) (by assumption) ?_; rotate_left; focus (intro w hSw; (try dsimp only at hSw); go_simp; try with_reducible rfl))
            (try simp only [List.getElem_toArray, List.getElem_cons_succ, List.getElem_cons_zero, Act.put, List.setIfInBounds_toArray, List.set_cons_zero, List.set_cons_succ])
            refine wpAnyH_ready (rs := [5]) (by kernel_rfl) (by simp) ?_
            refine AllReadyH.cons rfl (fun K hK => ?_) AllReadyH.nil
            go_simp
            refine (HB.out _ (held1_below (by assumption))).mono ?_; rw [HBG.out]; rintro e w9 ⟨rfl, b9⟩; go_wp2_with fail
            refine hK.out _ _ (by first | exact S0 | exact held1_drew S0 | assumption | exact held1_step hp1 (by assumption) (by assumption) | exact held1_drew (by assumption)) (fun hHeld => ?_)
            clear hK K
            (try simp only [List.getElem_toArray, List.getElem_cons_succ, List.getElem_cons_zero, Act.put, List.setIfInBounds_toArray, List.set_cons_zero, List.set_cons_succ])
            refine wpAnyH_done (by kernel_rfl) ?_ _
            first | refine NoPanic.normal ?_ | skip
            have SZ : w9.cell? ⟨g, 0, none⟩ = some (.slice ao o.length co) ∧ Below xr.heap.size xr w9 := by assumption
            have bz9 := held1_below SZ
            have B9 := hbx.trans (bz9.mono hbx.size)
            clear S0 SZ hHeld
            go_wp2
            go_roundw
            case rel => exact ⟨k + 1, by omega, by go_num, by rw [HNO.out]; exact hownx.below bz9, bPx.far bz9, B9, by have := bz9.size; omega⟩
            case measure => simp [intOf]; omega
          · have HBG := Lib.hid hbg
            have HYS := Lib.hid (cntAt_yes (r := r) (l := l) (zs := zs) HX.out (by rw [← HQ.out]; exact hbg))
            have hle := begins_le hbg
            rw [hdl] at hle
            obtain ⟨x, hx⟩ : ∃ x, x = foldC l (zs.drop (zs.length - (r + 1))) (cntT l zs r) k := ⟨_, rfl⟩
            obtain ⟨y, hy⟩ : ∃ y, y = (cntT l zs r).getD (o.length - 1) 0 := ⟨_, rfl⟩
            have hx1 : x ≤ 1000001 := by rw [hx]; exact foldC_le _ _ _ _
            have hy1 : y ≤ 1000001 := by rw [hy]; exact getD_le_cap _ _ _ _
            have hq2 := HQ.out
            have hcl : (cntAt l zs r k).length = zs.length + 1 := cntAt_length hlt k
            have hh1 := cntAt_here l zs r k
            have hh2 := cntAt_there (l := l) (zs := zs) (r := r) (k := k) (m := o.length) (by omega) (by omega)
            rw [← hx] at hh1
            rw [← hy] at hh2
            rw [← hq2] at hh1 hh2
            have e1 := (hownx.1.cellAt q (by omega)).trans (ints_at _ hh1)
            have e2 := (hownx.1.cellAt (q + o.length) (by omega)).trans (ints_at _ hh2)
            simp only at HYS
            rw [← hx, ← hy, ← hq2] at HYS
            clear hbg hx hy hh1 hh2 hcl hq2
            go_wp2
            have S0 : xr.cell? ⟨g, 0, none⟩ = some (.slice ao o.length co) ∧ Below xr.heap.size xr xr := ⟨by assumption, Below.refl _ _⟩
            first | refine wp_region_noPanic ?_ | skip
            refine wp_region_held_drew (S := fun w' => w'.cell? ⟨g, 0, none⟩ = some (.slice ao o.length co) ∧ Below xr.heap.size xr w') (by kernel_rfl) (by first | exact S0 | exact held1_drew S0 | assumption | exact held1_step hp1 (by assumption) (by assumption) | exact held1_drew (by assumption)) (fun hHeld => ?_)
            (refine wpAnyH_take (i := 0) (v := ?_) rfl (by kernel_rfl) (by kernel_rfl) (by kernel_rfl) (fun _ _ _ h => h) (Or.inl ⟨by rfl, ?_⟩) (by assumption) ?_; rotate_left; focus (intro w hSw; (try dsimp only at hSw); go_simp; try with_reducible rfl))
            (try simp only [List.getElem_toArray, List.getElem_cons_succ, List.getElem_cons_zero, Act.put, List.setIfInBounds_toArray, List.set_cons_zero, List.set_cons_succ])
            (refine wpAnyH_take (i := 1) (v := ?_) rfl (by kernel_rfl) (by kernel_rfl) (by kernel_rfl) (fun _ _ _ h => h) (Or.inl ⟨by rfl, ?_⟩) (by assumption) ?_; rotate_left; focus (intro w hSw; (try dsimp only at hSw); go_simp; try with_reducible rfl))
            (try simp only [List.getElem_toArray, List.getElem_cons_succ, List.getElem_cons_zero, Act.put, List.setIfInBounds_toArray, List.set_cons_zero, List.set_cons_succ])
            (refine wpAnyH_take (i := 2) (v := ?_) rfl (by kernel_rfl) (by kernel_rfl) (by kernel_rfl) (fun _ _ _ h => h) (Or.inl ⟨by rfl, ?_⟩) (by assumption) ?_; rotate_left; focus (intro w hSw; (try dsimp only at hSw); go_simp; try with_reducible rfl))
            (try simp only [List.getElem_toArray, List.getElem_cons_succ, List.getElem_cons_zero, Act.put, List.setIfInBounds_toArray, List.set_cons_zero, List.set_cons_succ])
            (refine wpAnyH_take (i := 3) (v := ?_) rfl (by kernel_rfl) (by kernel_rfl) (by kernel_rfl) (fun _ _ _ h => h) (Or.inl ⟨by rfl, ?_⟩) (by assumption) ?_; rotate_left; focus (intro w hSw; (try dsimp only at hSw); go_simp; try with_reducible rfl))
            (try simp only [List.getElem_toArray, List.getElem_cons_succ, List.getElem_cons_zero, Act.put, List.setIfInBounds_toArray, List.set_cons_zero, List.set_cons_succ])
            (refine wpAnyH_take (i := 4) (v := ?_) rfl (by kernel_rfl) (by kernel_rfl) (by kernel_rfl) (fun _ _ _ h => h) (Or.inl ⟨by rfl, ?_⟩) (by assumption) ?_; rotate_left; focus (intro w hSw; (try dsimp only at hSw); go_simp; try with_reducible rfl))
            (try simp only [List.getElem_toArray, List.getElem_cons_succ, List.getElem_cons_zero, Act.put, List.setIfInBounds_toArray, List.set_cons_zero, List.set_cons_succ])
            refine wpAnyH_ready (rs := [5]) (by kernel_rfl) (by simp) ?_
            refine AllReadyH.cons rfl (fun K hK => ?_) AllReadyH.nil
            go_simp
            refine (HB.out _ (held1_below (by assumption))).mono ?_; rw [HBG.out]; rintro e w9 ⟨rfl, b9⟩; go_wp2_with fail
            refine hK.out _ _ (by first | exact S0 | exact held1_drew S0 | assumption | exact held1_step hp1 (by assumption) (by assumption) | exact held1_drew (by assumption)) (fun hHeld => ?_)
            clear hK K
            (try simp only [List.getElem_toArray, List.getElem_cons_succ, List.getElem_cons_zero, Act.put, List.setIfInBounds_toArray, List.set_cons_zero, List.set_cons_succ])
            refine wpAnyH_done (by kernel_rfl) ?_ _
            first | refine NoPanic.normal ?_ | skip
            have SZ : w9.cell? ⟨g, 0, none⟩ = some (.slice ao o.length co) ∧ Below xr.heap.size xr w9 := by assumption
            have bz9 := held1_below SZ
            have B9 := hbx.trans (bz9.mono hbx.size)
            have own9 := hownx.below bz9
            have bP9 := bPx.far bz9
            have e1' := (bz9.cell (p := ⟨w.heap.size + 1, q, none⟩) (by show w.heap.size + 1 < _; omega)).trans e1
            have e2' := (bz9.cell (p := ⟨w.heap.size + 1, q + o.length, none⟩) (by show w.heap.size + 1 < _; omega)).trans e2
            have ef' := own9.1.frozenAt q
            have d0 := SZ.1
            have z9 : w.heap.size + 1 < w9.heap.size := by have := bz9.size; omega
            clear S0 SZ hHeld e1 e2 g1
            have x1 : IntKind.i64.wrap ((q : Int) + (o.length : Int)) = (q : Int) + (o.length : Int) := IntWalk.i64_in _ (by omega)
            have x2 : (0 : Int) ≤ (q : Int) + (o.length : Int) := by omega
            have x3 : ((q : Int) + (o.length : Int)).toNat = q + o.length := by omega
            have x4 : (q : Int) + (o.length : Int) < (zs.length : Int) + 1 := by omega
            have x5 : (q : Int) < (zs.length : Int) + 1 := by omega
            have x6 : IntKind.i64.wrap ((x : Int) + (y : Int)) = (x : Int) + (y : Int) := IntWalk.i64_in _ (by omega)
            go_wp2
            go_still_tail 17, (by kernel_rfl)
            change wpList _ _ _ _ _ w9.drew
            clear x1 x6
            go_wp2
            go_roundw
            case rel =>
              have em : min (1000001 : Int) ((x : Int) + (y : Int)) = ((min cap1 (x + y) : Nat) : Int) := by unfold cap1; omega
              have h1 := own9.set_ q (.int .i64 ((min cap1 (x + y) : Nat) : Int))
              rw [ints_set, HYS.out] at h1
              rw [em]
              exact ⟨k + 1, by omega, by go_num, h1, bP9.setOther (by show w.heap.size + 1 ≠ _; omega) _, (B9.setCell (p := ⟨w.heap.size + 1, q, none⟩) (by show w.heap.size ≤ w.heap.size + 1; omega) _).drew, by first | exact z9 | simpa [World.setCell] using z9⟩
            case measure => simp [intOf]; omega
        · obtain rfl : k = l.length := by omega
          have HL := Lib.hid (cntAt_last l zs r)
          clear hq
          go_wp2
          go_roundw
          case rel => exact ⟨r + 1, by omega, by go_num, by rw [← HL.out]; exact hown, bP, hb, hsz⟩
          case measure => simp [intOf]; try omega
    · obtain rfl : r = zs.length := by omega
      have hqi : (zs.length : Int) - 1 - (zs.length : Int) = -1 := by omega
      rw [hqi]
      go_wp2
      go_ret
      have h9 := hown
      exact ⟨_, rfl, ⟨h9.1.base (Nat.le_succ _), fun g hg => by have := h9.2 g hg; show g < wr.heap.size; omega⟩, hb⟩

set_option maxHeartbeats 2000000 in
theorem impl_CountReadings (A B : Option Addr) (cap cb : Nat) (l : List EntD) (zs : List Int) (w : World) (hr : DictR w w.heap.size A l) (hn : l.length ≤ 1048576) (hs : ShortD l) (hmx : MaxOk w) (hz : Reads w w.heap.size 1 B zs.length (ints zs)) (hzn : zs.length ≤ 1048576) (hcb : zs.length ≤ cb) (hcm : cb ≤ maxLen) :
    Calls Tryz.prog 25 #[.agg #[.slice A l.length cap], .slice B zs.length cb] w (CountRes l zs w) := by
  obtain ⟨W1, hW1⟩ : ∃ W1, W1 = w.alloc (.cells #[.slice A l.length cap] 31) := ⟨_, rfl⟩
  have hb1 : Below w.heap.size w W1 := by rw [hW1]; exact (Below.refl _ _).alloc (Nat.le_refl _) _
  have bP : Box W1 w.heap.size 31 (.slice A l.length cap) := by rw [hW1]; exact Box.new w _ _
  have HM := Lib.hid (impl_isMatched A B cap cb l zs W1 ((hr.below hb1).more hb1.size) hn hs (hmx.below hb1) ((hz.below hb1).more hb1.size) hzn)
  have cP := bP.cell
  clear hs hmx
  cases hm : (dictB l && strokesB zs)
  · have HR := Lib.hid hm
    clear hm
    go_enter Tryz.func25, Tryz.ntmps25
    go_wp2_with fail
    rw [← hW1]
    clear hW1
    refine HM.out.mono ?_
    rw [HR.out]
    rintro e w3 ⟨rfl, b3⟩
    go_wp2
    go_ret2
    exact count_no HR.out (hb1.trans (b3.mono hb1.size))
  have HR := Lib.hid hm
  rw [Bool.and_eq_true] at hm
  have HV := Lib.hid hm.1
  have h60 := strokes_len hm.2
  clear hm
  go_enter Tryz.func25, Tryz.ntmps25
  go_wp2_with fail
  rw [← hW1]
  clear hW1
  refine HM.out.mono ?_
  rw [HR.out]
  rintro e w3 ⟨rfl, b3⟩
  have B3 := hb1.trans (b3.mono hb1.size)
  have cP3 := (bP.far b3).cell
  clear cP
  go_wp2_with fail
  refine (impl_readings A B cap cb l zs _ ((hr.below B3).more B3.size) HV.out ((hz.below B3).more B3.size) h60 hcb hcm).mono ?_
  rintro e w5 ⟨g, rfl, o5, b5⟩
  have B5 := B3.trans (b5.mono B3.size)
  have c5 := (o5.1.cellAt 0 (by omega)).trans (ints_at _ cntRow_first)
  have x0 : (0 : Int) < (zs.length : Int) + 1 := by omega
  clear cP3
  by_cases hc : cntD l zs ≤ 1000000
  · have i1 : ¬ (1000000 : Int) < ((cntD l zs : Nat) : Int) := by omega
    go_wp2
    go_ret2
    exact count_yes HR.out hc B5
  · have i1 : (1000000 : Int) < ((cntD l zs : Nat) : Int) := by omega
    go_wp2
    go_ret2
    exact count_big HR.out hc B5
end Go.Proofs.YtekidodfcanjaaaGreatDoor
