/-
  The reference's EntryCounts.
-/
import Derived.Test.YtoimkppjbabgeaaGreatDoorStatPl
import Derived.Test.YtoimkppjbabgeaaGreatDoorPerS
namespace Go.Proofs.YtoimkppjbabgeaaGreatDoor
open Go.RowKit
set_option linter.unusedVariables false
set_option linter.unusedSimpArgs false
set_option maxRecDepth 100000

theorem ints_set' (zs : List Int) (j : Nat) (x : Int) : (ints zs).set j (.int .i64 x) = ints (zs.set j x) := by simp [ints, List.map_set]
/-- A row of integers of the call's own, and a word. -/
def IntsRes (b : Bool) (xs : List Int) (w : World) (e : Ending) (w' : World) : Prop := ∃ v, e = .returned (.tuple #[v, .bool b]) ∧ Own w' w.heap.size w'.heap.size 3 1 v xs.length (ints xs) ∧ Below w.heap.size w w'
theorem intsRes_no {l : List EntD} {zs : List Int} {w w' : World} (h : okD l zs = false) (hb : Below w.heap.size w w') : IntsRes (okD l zs) (usesD l zs) w (.returned (.tuple #[.slice none 0 0, .bool false])) w' := by
  refine ⟨_, by rw [h], ?_, hb⟩
  have e : usesD l zs = [] := by simp [usesD, h]
  rw [e]
  exact Own.none_
theorem usesD_len (l : List EntD) (zs : List Int) : (usesD l zs).length ≤ 1048576 := by
  unfold usesD
  split
  · rename_i h
    have h1 : dictB l = true := by simp only [okD, Bool.and_eq_true] at h; exact h.1
    have := dict_len h1
    rw [useD, cntE_length]
    omega
  · simp

set_option maxHeartbeats 8000000 in
theorem spec_EntryCounts (A B : Option Addr) (cap cb : Nat) (l : List EntD) (zs : List Int) (w : World) (hr : DictR w w.heap.size A l) (hn : l.length ≤ 1048576) (hs : ShortD l) (hz : Reads w w.heap.size 1 B zs.length (ints zs)) (hzn : zs.length ≤ 1048576) (hcb : zs.length ≤ cb) (hcm : cb ≤ maxLen) :
    Calls Tryz.prog 8 #[.agg #[.slice A l.length cap], .slice B zs.length cb] w (IntsRes (okD l zs) (usesD l zs) w) := by
  obtain ⟨W1, hW1⟩ : ∃ W1, W1 = w.alloc (.cells #[.slice A l.length cap] 26) := ⟨_, rfl⟩
  have hb1 : Below w.heap.size w W1 := by rw [hW1]; exact (Below.refl _ _).alloc (Nat.le_refl _) _
  have bP : Box W1 w.heap.size 26 (.slice A l.length cap) := by rw [hW1]; exact Box.new w _ _
  have hs1 : W1.heap.size = w.heap.size + 1 := by rw [hW1]; simp
  have HS := Lib.hid hs
  have HCM := Lib.hid hcm
  have cP := bP.cell
  unfold maxLen at hcm
  clear hs
  cases hv : dictB l
  · have HV := Lib.hid hv
    have HR := Lib.hid (show okD l zs = false by simp [okD, hv])
    clear hv
    go_enter Tryz.func8, Tryz.ntmps8
    go_wp2_with fail
    rw [← hW1]
    clear hW1
    refine (spec_l6Good A cap l _ ((hr.below hb1).more hb1.size) hn HS.out).mono ?_
    rw [HV.out]
    rintro e w3 ⟨rfl, b3⟩
    go_wp2
    go_ret2
    exact intsRes_no HR.out (hb1.trans (b3.mono hb1.size))
  have HV := Lib.hid hv
  cases hst : strokesB zs
  · have HT := Lib.hid hst
    have HR := Lib.hid (show okD l zs = false by simp [okD, hst])
    clear hv hst
    go_enter Tryz.func8, Tryz.ntmps8
    go_wp2_with fail
    rw [← hW1]
    clear hW1
    refine (spec_l6Good A cap l _ ((hr.below hb1).more hb1.size) hn HS.out).mono ?_
    rw [HV.out]
    rintro e w3 ⟨rfl, b3⟩
    have B3 := hb1.trans (b3.mono hb1.size)
    go_wp2_with fail
    refine (spec_l7Strokes B cb zs _ ((hz.below B3).more B3.size) hzn).mono ?_
    rw [HT.out]
    rintro e w4 ⟨rfl, rfl⟩
    go_wp2
    go_ret2
    exact intsRes_no HR.out B3
  have HT := Lib.hid hst
  have HR := Lib.hid (show okD l zs = true by simp [okD, hv, hst])
  have h60 := strokes60 hst
  have h40 := dict_len hv
  have hmk := run_make_rowN (P := Tryz.prog) 27 3 Tryz.underlying27 info_int .i64 .i64 l.length l.length (Nat.le_refl _) (by omega) (by omega)
  clear hv hst
  go_enter Tryz.func8, Tryz.ntmps8
  go_wp2_with fail
  rw [← hW1]
  clear hW1
  refine (spec_l6Good A cap l _ ((hr.below hb1).more hb1.size) hn HS.out).mono ?_
  rw [HV.out]
  rintro e w3 ⟨rfl, b3⟩
  have B3 := hb1.trans (b3.mono hb1.size)
  have cP3 := (bP.far b3).cell
  clear cP
  go_wp2_with fail
  refine (spec_l7Strokes B cb zs _ ((hz.below B3).more B3.size) hzn).mono ?_
  rw [HT.out]
  rintro e w4 ⟨rfl, rfl⟩
  have bP3 := bP.far b3
  have s3 : w.heap.size + 1 ≤ w3.heap.size := bP3.lt
  obtain ⟨gc, hgc⟩ : ∃ gc, gc = w3.heap.size := ⟨_, rfl⟩
  have hg0 : w.heap.size < gc := by omega
  obtain ⟨wM, hwM⟩ : ∃ wM, wM = w3.alloc (.cells (madeCells #[Value.int .i64 0] l.length) 3) := ⟨_, rfl⟩
  have bm : Below w3.heap.size w3 wM := by rw [hwM]; exact (Below.refl _ _).alloc (Nat.le_refl _) _
  have hsM : wM.heap.size = gc + 1 := by rw [hwM, hgc]; simp
  have ownM : Own wM gc (gc + 1) 3 1 (.slice (some ⟨gc, 0, none⟩) l.length l.length) l.length (ints (cntE l zs (segD l zs) 0)) := by
    have h := World.ownsRow_lit (base := w3.heap.size) (e := 3) (size := 1) w3 (madeCells #[Value.int .i64 0] l.length) l.length (Nat.le_refl _) (by unfold maxLen; omega) (by simp [madeCells])
    have e : ints (cntE l zs (segD l zs) 0) = (madeCells #[Value.int .i64 0] l.length).toList := by rw [toList_madeCells_one]; simp [cntE, ints]
    rw [e, hwM, hgc]
    exact ⟨h, fun g hg => by simp [Value.ownBlock] at hg; omega⟩
  have BM := B3.trans (bm.mono B3.size)
  have bPM := bP3.far bm
  have cPM := bPM.cell
  have HSM := Lib.hid hsM
  go_upto_region 4 with (fail)
  rw [← hwM, ← hgc]
  clear hwM hgc cP3 hmk s3 hsM
  go_wp2_with fail
  refine (spec_l11Segment A B cap cb l zs _ ((hr.below BM).more BM.size) HV.out ((hz.below BM).more BM.size) hzn hcb HCM.out).mono ?_
  rintro e w5 ⟨v5, rfl, o5, b5⟩
  have B5 := BM.trans (b5.mono BM.size)
  have bP5 := bPM.far b5
  have hsl := segD_len l zs
  have own5 := ownM.below b5
  have hs5 : gc + 1 ≤ w5.heap.size := by have := b5.size; have := HSM.out; omega
  rw [HSM.out] at o5
  have HOK := Lib.hid (fun p hp => segD_ok (l := l) (zs := zs) (p := p) hp)
  have HPE := Lib.hid (fun p hp ht => piece_entry (l := l) (zs := zs) (p := p) hp ht)
  have HU := Lib.hid (show usesD l zs = cntE l zs (segD l zs) (segD l zs).length ∧ (usesD l zs).length = l.length from by
    have h : usesD l zs = cntE l zs (segD l zs) (segD l zs).length := by simp only [usesD, HR.out, if_true, useD]
    exact ⟨h, by rw [h, cntE_length]⟩)
  clear cPM bP bP3 bPM ownM
  generalize hps : segD l zs = ps at *
  clear hps
  obtain ⟨A5, k5, rfl, -, -, -⟩ := o5.slice
  go_wp2
  go_loopw [8] (fun i wr => ∃ k : Nat, k ≤ ps.length ∧ i = .int .i64 k ∧ Own wr gc (gc + 1) 3 1 (.slice (some ⟨gc, 0, none⟩) l.length l.length) l.length (ints (cntE l zs ps k)) ∧ Only gc (gc + 1) w5 wr) (fun i _ => ps.length - (intOf i).toNat)
  case atStart => exact ⟨0, Nat.zero_le _, rfl, own5, Only.refl _⟩
  case round =>
    obtain ⟨k, hk, rfl, hown, hO⟩ := hrel
    have hb : Below w.heap.size w wr := B5.trans (hO.below (by omega) B5.size)
    have bP := bP5.only hO (.inl (by omega))
    have cP := bP.cell
    have op := (o5.only hO (.inr (by omega))).1
    have sz : gc < wr.heap.size := by have := hO.size; omega
    clear own5
    by_cases hlt : k < ps.length
    · obtain ⟨⟨f, n, t⟩, hp⟩ := some_at ps hlt
      obtain ⟨b, off, hA5, hb0, hc⟩ := (Reads.of_own op).2 (by omega)
      have hpm := List.mem_of_getElem? hp
      have hok := HOK.out _ hpm
      unfold PieceOk at hok
      have q0 := hc (k * 3) _ (piecesV_at hp).1
      have q1 := hc (k * 3 + 1) _ (piecesV_at hp).2.1
      have q2 := hc (k * 3 + 2) _ (piecesV_at hp).2.2
      rw [← Nat.add_assoc] at q1 q2
      have HP := Lib.hid hp
      simp only at q0 q1 q2 hok
      obtain ⟨hf, hn1, hfn, -⟩ := hok
      subst hA5
      have i0 : (0 : Int) ≤ (k : Int) := by omega
      have i1 : (k : Int) < (ps.length : Int) := by omega
      have ba := (Below.refl wr.heap.size wr).alloc (Nat.le_refl _) (.cells #[.int .i64 (f : Int), .int .i64 (n : Int), .string t] 58)
      have ta := Three.new wr 58 (.int .i64 (f : Int)) (.int .i64 (n : Int)) (.string t)
      obtain ⟨g, hgg⟩ : ∃ g, g = wr.heap.size := ⟨_, rfl⟩
      have hgw : gc < g := by omega
      clear hp hc
      go_upto_region 9 with (fail)
      rw [← hgg] at ta
      generalize hX : wr.alloc (.cells #[.int .i64 (f : Int), .int .i64 (n : Int), .string t] 58) = xr at *
      try rw [← hgg]
      clear hX hgg
      have hOx := hO.trans (Only.of_below ba)
      have hownx := hown.below ba
      have bPx := bP.far ba
      have hbx := hb.trans (ba.mono hb.size)
      have szx : gc < xr.heap.size := by have := ba.size; omega
      have e0 := ta.cell0
      have e1 := ta.cell1
      have e2 := ta.cell2
      have cPx := bPx.cell
      clear q0 q1 q2 cP hown hO
      by_cases ht : t.size = 0
      · obtain rfl := text_none ht
        have H1 := Lib.hid (cntE_no (l := l) (zs := zs) HP.out ht)
        clear ht
        go_wp2
        go_roundw
        case rel => exact ⟨k + 1, by omega, by go_num, by rw [H1.out]; exact hownx, hOx⟩
        case measure => simp [intOf]; omega
      · obtain ⟨hfd, hjl⟩ := HPE.out _ hpm ht
        have H1 := Lib.hid (cntE_yes (l := l) (zs := zs) HP.out ht)
        obtain ⟨t1, t2, t3, t4, t5⟩ := text_some ht
        obtain ⟨j, hj⟩ : ∃ j, j = entJ l zs (f, n, t) := ⟨_, rfl⟩
        rw [← hj] at hfd hjl H1
        simp only at hfd
        have hcl := cntE_length l zs ps k
        obtain ⟨x, hx⟩ := some_at (cntE l zs ps k) (show j < _ by omega)
        have hxb := cntE_bd l zs ps k x (List.mem_of_getElem? hx)
        rw [List.getD_eq_getElem?_getD, hx, Option.getD_some] at H1
        have hcx := (hownx.1.cellAt j (by omega)).trans (ints_at _ hx)
        obtain ⟨bz, oz, rfl, hz0, -⟩ := (hz.below hbx).2 (by omega)
        have hpl := part_length hfn
        have HB := Lib.hid (show ∀ W, Below xr.heap.size xr W → Calls Tryz.prog 32 #[.agg #[.slice A l.length cap], .slice (some ⟨bz, oz + f, none⟩) n (cb - f)] W fun e w' => e = .returned (.int .i64 ((j : Nat) : Int)) ∧ Below W.heap.size W w' from fun W hW => by
          have h := spec_l6At A (some ⟨bz, oz + f, none⟩) cap (cb - f) l (part zs f n) W (((hr.below hbx).more hbx.size).below hW |>.more hW.size) HV.out (((((hz.below hbx).part hfn).more hbx.size).below hW).more hW.size)
          rw [hpl, hfd] at h
          exact h)
        have x1 : IntKind.i64.wrap ((f : Int) + (n : Int)) = (f : Int) + (n : Int) := IntWalk.i64_in _ (by omega)
        have x2 : (0 : Int) ≤ (f : Int) + (n : Int) := by omega
        have x3 : ((f : Int) + (n : Int)).toNat = f + n := by omega
        have x5 : (0 : Int) ≤ (f : Int) := by omega
        have x6 : f + n ≤ cb := by omega
        have x7 : f ≤ f + n := by omega
        have x8 : ¬ cb = f := by omega
        have x9 : f + n - f = n := by omega
        have xb : (f : Int) ≤ (f : Int) + (n : Int) := by omega
        have xc : (f : Int) + (n : Int) ≤ (cb : Int) := by omega
        have xd : (0 : Int) ≤ (j : Int) := by omega
        have xe : (j : Int) < (l.length : Int) := by omega
        have xf : IntKind.i64.wrap (x + 1) = x + 1 := IntWalk.i64_in _ (by omega)
        have hSx : xr.cell? ⟨w.heap.size, 0, none⟩ = some (.slice A l.length cap) ∧ xr.cell? ⟨g, 0, none⟩ = some (.int .i64 (f : Int)) ∧ xr.cell? ⟨g, 1, none⟩ = some (.int .i64 (n : Int)) := ⟨cPx, e0, e1⟩
        clear hfd hj hx ht hpl hcl hpm
        go_wp2
        first | refine wp_region_noPanic ?_ | skip
        refine wp_region_held_drew (S := fun w' => w'.cell? ⟨w.heap.size, 0, none⟩ = some (.slice A l.length cap) ∧ w'.cell? ⟨g, 0, none⟩ = some (.int .i64 (f : Int)) ∧ w'.cell? ⟨g, 1, none⟩ = some (.int .i64 (n : Int))) (by kernel_rfl) (by first | exact hSx | exact hS9 | exact hSF | assumption) (fun hHeld => ?_)
        (refine wpAnyH_take (i := 0) (v := ?_) rfl (by kernel_rfl) (by kernel_rfl) (by kernel_rfl) (fun _ _ _ h => h) (Or.inl ⟨by rfl, ?_⟩) (by assumption) ?_; rotate_left; focus (intro w hSw; (try dsimp only at hSw); go_simp; try with_reducible rfl))
        (try simp only [List.getElem_toArray, List.getElem_cons_succ, List.getElem_cons_zero, Act.put, List.setIfInBounds_toArray, List.set_cons_zero, List.set_cons_succ])
        (refine wpAnyH_take (i := 1) (v := ?_) rfl (by kernel_rfl) (by kernel_rfl) (by kernel_rfl) (fun _ _ _ h => h) (Or.inl ⟨by rfl, ?_⟩) (by assumption) ?_; rotate_left; focus (intro w hSw; (try dsimp only at hSw); go_simp; try with_reducible rfl))
        (try simp only [List.getElem_toArray, List.getElem_cons_succ, List.getElem_cons_zero, Act.put, List.setIfInBounds_toArray, List.set_cons_zero, List.set_cons_succ])
        (refine wpAnyH_take (i := 2) (v := ?_) rfl (by kernel_rfl) (by kernel_rfl) (by kernel_rfl) (fun _ _ _ h => h) (Or.inl ⟨by rfl, ?_⟩) (by assumption) ?_; rotate_left; focus (intro w hSw; (try dsimp only at hSw); go_simp; try with_reducible rfl))
        (try simp only [List.getElem_toArray, List.getElem_cons_succ, List.getElem_cons_zero, Act.put, List.setIfInBounds_toArray, List.set_cons_zero, List.set_cons_succ])
        (refine wpAnyH_take (i := 3) (v := ?_) rfl (by kernel_rfl) (by kernel_rfl) (by kernel_rfl) (fun _ _ _ h => h) (Or.inl ⟨by rfl, ?_⟩) (by assumption) ?_; rotate_left; focus (intro w hSw; (try dsimp only at hSw); go_simp; try with_reducible rfl))
        (try simp only [List.getElem_toArray, List.getElem_cons_succ, List.getElem_cons_zero, Act.put, List.setIfInBounds_toArray, List.set_cons_zero, List.set_cons_succ])
        (refine wpAnyH_take (i := 4) (v := ?_) rfl (by kernel_rfl) (by kernel_rfl) (by kernel_rfl) (fun _ _ _ h => h) (Or.inl ⟨by rfl, ?_⟩) (by assumption) ?_; rotate_left; focus (intro w hSw; (try dsimp only at hSw); go_simp; try with_reducible rfl))
        (try simp only [List.getElem_toArray, List.getElem_cons_succ, List.getElem_cons_zero, Act.put, List.setIfInBounds_toArray, List.set_cons_zero, List.set_cons_succ])
        (refine wpAnyH_take (i := 5) (v := ?_) rfl (by kernel_rfl) (by kernel_rfl) (by kernel_rfl) (fun _ _ _ h => h) (Or.inl ⟨by rfl, ?_⟩) (by assumption) ?_; rotate_left; focus (intro w hSw; (try dsimp only at hSw); go_simp; try with_reducible rfl))
        (try simp only [List.getElem_toArray, List.getElem_cons_succ, List.getElem_cons_zero, Act.put, List.setIfInBounds_toArray, List.set_cons_zero, List.set_cons_succ])
        (refine wpAnyH_take (i := 6) (v := ?_) rfl (by kernel_rfl) (by kernel_rfl) (by kernel_rfl) (fun _ _ _ h => h) (Or.inl ⟨by rfl, ?_⟩) (by assumption) ?_; rotate_left; focus (intro w hSw; (try dsimp only at hSw); go_simp; try with_reducible rfl))
        (try simp only [List.getElem_toArray, List.getElem_cons_succ, List.getElem_cons_zero, Act.put, List.setIfInBounds_toArray, List.set_cons_zero, List.set_cons_succ])
        (refine wpAnyH_take (i := 7) (v := ?_) rfl (by kernel_rfl) (by kernel_rfl) (by kernel_rfl) (fun _ _ _ h => h) (Or.inl ⟨by rfl, ?_⟩) (by assumption) ?_; rotate_left; focus (intro w hSw; (try dsimp only at hSw); go_simp; try with_reducible rfl))
        (try simp only [List.getElem_toArray, List.getElem_cons_succ, List.getElem_cons_zero, Act.put, List.setIfInBounds_toArray, List.set_cons_zero, List.set_cons_succ])
        (refine wpAnyH_take (i := 8) (v := ?_) rfl (by kernel_rfl) (by kernel_rfl) (by kernel_rfl) (fun _ _ _ h => h) (Or.inl ⟨by rfl, ?_⟩) (by assumption) ?_; rotate_left; focus (intro w hSw; (try dsimp only at hSw); go_simp; try with_reducible rfl))
        (try simp only [List.getElem_toArray, List.getElem_cons_succ, List.getElem_cons_zero, Act.put, List.setIfInBounds_toArray, List.set_cons_zero, List.set_cons_succ])
        (refine wpAnyH_take (i := 9) (v := ?_) rfl (by kernel_rfl) (by kernel_rfl) (by kernel_rfl) (fun _ _ _ h => h) (Or.inl ⟨by rfl, ?_⟩) (by assumption) ?_; rotate_left; focus (intro w hSw; (try dsimp only at hSw); go_simp; try with_reducible rfl))
        (try simp only [List.getElem_toArray, List.getElem_cons_succ, List.getElem_cons_zero, Act.put, List.setIfInBounds_toArray, List.set_cons_zero, List.set_cons_succ])
        (refine wpAnyH_take (i := 10) (v := ?_) rfl (by kernel_rfl) (by kernel_rfl) (by kernel_rfl) (fun _ _ _ h => h) (Or.inl ⟨by rfl, ?_⟩) (by assumption) ?_; rotate_left; focus (intro w hSw; (try dsimp only at hSw); go_simp; try with_reducible rfl))
        (try simp only [List.getElem_toArray, List.getElem_cons_succ, List.getElem_cons_zero, Act.put, List.setIfInBounds_toArray, List.set_cons_zero, List.set_cons_succ])
        refine wpAnyH_ready (rs := [11]) (by kernel_rfl) (by simp) ?_
        refine AllReadyH.cons rfl (fun K hK => ?_) AllReadyH.nil
        go_simp
        (with_reducible refine (HB.out _ (by first | exact Below.refl _ _ | exact (Below.refl _ _).drew)).mono ?_); rintro e w9 ⟨rfl, b9'⟩; have b9 : Below xr.heap.size xr w9 := ((Below.refl xr.heap.size xr).drew).trans b9'; have own9 := hownx.below b9; have bP9 := bPx.far b9; have ta9 := ta.far b9; have hS9 : w9.cell? ⟨w.heap.size, 0, none⟩ = some (.slice A l.length cap) ∧ w9.cell? ⟨g, 0, none⟩ = some (.int .i64 (f : Int)) ∧ w9.cell? ⟨g, 1, none⟩ = some (.int .i64 (n : Int)) := ⟨bP9.cell, ta9.cell0, ta9.cell1⟩; have c9 : w9.cell? ⟨gc, j, none⟩ = some (.int .i64 x) := (b9.cell (p := ⟨gc, j, none⟩) szx).trans hcx; have f9 := own9.1.frozenAt j; have hSF : (w9.setCell ⟨gc, j, none⟩ (.int .i64 (x + 1))).cell? ⟨w.heap.size, 0, none⟩ = some (.slice A l.length cap) ∧ (w9.setCell ⟨gc, j, none⟩ (.int .i64 (x + 1))).cell? ⟨g, 0, none⟩ = some (.int .i64 (f : Int)) ∧ (w9.setCell ⟨gc, j, none⟩ (.int .i64 (x + 1))).cell? ⟨g, 1, none⟩ = some (.int .i64 (n : Int)) := ⟨(bP9.setOther (by show gc ≠ _; omega) _).cell, by rw [World.cell?_setCell_other w9 _ _ _ (fun h => by injection h; omega)]; exact ta9.cell0, by rw [World.cell?_setCell_other w9 _ _ _ (fun h => by injection h; omega)]; exact ta9.cell1⟩; go_wp2_with fail
        refine hK.out _ _ (by first | exact hSx | exact hS9 | exact hSF | assumption) (fun hHeld => ?_)
        clear hK K
        (try simp only [List.getElem_toArray, List.getElem_cons_succ, List.getElem_cons_zero, Act.put, List.setIfInBounds_toArray, List.set_cons_zero, List.set_cons_succ])
        (refine wpAnyH_take (i := 12) (v := ?_) rfl (by kernel_rfl) (by kernel_rfl) (by kernel_rfl) (fun _ _ _ h => h) (Or.inl ⟨by rfl, ?_⟩) (by assumption) ?_; rotate_left; focus (intro w hSw; (try dsimp only at hSw); go_simp; try with_reducible rfl))
        (try simp only [List.getElem_toArray, List.getElem_cons_succ, List.getElem_cons_zero, Act.put, List.setIfInBounds_toArray, List.set_cons_zero, List.set_cons_succ])
        refine wpAnyH_ready (rs := [13]) (by kernel_rfl) (by simp) ?_
        refine AllReadyH.cons rfl (fun K hK => ?_) AllReadyH.nil
        go_simp
        skip
        refine hK.out _ _ (by first | exact hSx | exact hS9 | exact hSF | assumption) (fun hHeld => ?_)
        clear hK K
        (try simp only [List.getElem_toArray, List.getElem_cons_succ, List.getElem_cons_zero, Act.put, List.setIfInBounds_toArray, List.set_cons_zero, List.set_cons_succ])
        (refine wpAnyH_take (i := 14) (v := ?_) rfl (by kernel_rfl) (by kernel_rfl) (by kernel_rfl) (fun _ _ _ h => h) (Or.inl ⟨by rfl, ?_⟩) (by assumption) ?_; rotate_left; focus (intro w hSw; (try dsimp only at hSw); go_simp; try with_reducible rfl))
        (try simp only [List.getElem_toArray, List.getElem_cons_succ, List.getElem_cons_zero, Act.put, List.setIfInBounds_toArray, List.set_cons_zero, List.set_cons_succ])
        (refine wpAnyH_take (i := 15) (v := ?_) rfl (by kernel_rfl) (by kernel_rfl) (by kernel_rfl) (fun _ _ _ h => h) (Or.inl ⟨by rfl, ?_⟩) (by assumption) ?_; rotate_left; focus (intro w hSw; (try dsimp only at hSw); go_simp; try with_reducible rfl))
        (try simp only [List.getElem_toArray, List.getElem_cons_succ, List.getElem_cons_zero, Act.put, List.setIfInBounds_toArray, List.set_cons_zero, List.set_cons_succ])
        refine wpAnyH_ready (rs := [16]) (by kernel_rfl) (by simp) ?_
        refine AllReadyH.cons rfl (fun K hK => ?_) AllReadyH.nil
        go_simp
        skip
        refine hK.out _ _ (by first | exact hSx | exact hS9 | exact hSF | assumption) (fun hHeld => ?_)
        clear hK K
        (try simp only [List.getElem_toArray, List.getElem_cons_succ, List.getElem_cons_zero, Act.put, List.setIfInBounds_toArray, List.set_cons_zero, List.set_cons_succ])
        refine wpAnyH_done (by kernel_rfl) ?_ _
        first | refine NoPanic.normal ?_ | skip
        have own10 := own9.set_ j (.int .i64 (x + 1))
        rw [ints_set', ← H1.out] at own10
        have hO10 := (hOx.trans (Only.of_below b9)).setCell (p := ⟨gc, j, none⟩) (by show gc ≤ gc; omega) (by show gc < gc + 1; omega) (.int .i64 (x + 1))
        clear hHeld hSx hS9 hSF c9 f9 hcx x1 xf
        go_wp2
        go_roundw
        case rel => exact ⟨k + 1, by omega, by go_num, own10, hO10⟩
        case measure => simp [intOf]; omega
    · obtain rfl : k = ps.length := by omega
      go_wp2
      go_ret2
      exact ⟨.slice (some ⟨gc, 0, none⟩) l.length l.length, by rw [HR.out] <;> rfl, by rw [HU.out.2, HU.out.1]; exact ⟨hown.1.base (by omega), fun g hg => (hown.1.lt g hg).2⟩, hb⟩
end Go.Proofs.YtoimkppjbabgeaaGreatDoor
