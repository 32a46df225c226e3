/-
  The reference's FindPhrase.
-/
import Derived.Test.YtiiffdjpfjeeoaaDoorFindI
import Derived.Test.YtiiffdjpfjeeoaaDoorBase
import Derived.StillTailTactics
import Derived.Deep.RegionHeld3
namespace Go.Proofs.YtiiffdjpfjeeoaaDoor
open Go.RowKit
set_option linter.unusedVariables false
set_option maxRecDepth 100000
set_option linter.unusedSimpArgs false

theorem stands_step {w wx w1 : World} {p q : Addr} {u v : Value} (hp : p.block < w.heap.size) (hq : q.block < w.heap.size) (h : wx.cell? p = some u ∧ wx.cell? q = some v ∧ Below w.heap.size w wx) (hb : Below wx.heap.size wx w1) :
    w1.cell? p = some u ∧ w1.cell? q = some v ∧ Below w.heap.size w w1 := pair_step hp hq h hb

set_option maxHeartbeats 16000000 in
theorem spec_FindPhrase (A : Option Addr) (cap : Nat) (l : List TurnD) (ph : ByteArray) (w : World) (hr : Reads w w.heap.size 2 A l.length (turnsV l)) (hn : l.length ≤ 1048576) (ht : ShortT l) (hs : ph.size ≤ 1048576) :
    Calls Tryd.prog 10 #[.agg #[.slice A l.length cap], .string ph] w (FindRes l ph w) := by
  have HT := Lib.hid ht
  clear ht
  obtain ⟨W1, hW1⟩ : ∃ W1, W1 = w.alloc (.cells #[.slice A l.length cap] 31) := ⟨_, rfl⟩
  have hb1 : Below w.heap.size w W1 := by rw [hW1]; exact (Below.refl _ _).alloc (Nat.le_refl _) _
  have bP : Box W1 w.heap.size 31 (.slice A l.length cap) := by rw [hW1]; exact Box.new w _ _
  cases hv : transB l
  · have HNO := Lib.hid (show findB l ph = false by simp [findB, hv])
    go_enter Tryd.func10, Tryd.ntmps10
    go_wp2_with fail
    rw [← hW1]
    clear hW1
    refine (spec_IsValidTranscript A cap l _ ((hr.below hb1).more hb1.size) (by omega) HT.out).mono ?_
    rw [hv]
    rintro e w3 ⟨rfl, b3⟩
    go_wp2
    go_ret2
    exact find_no HNO.out (hb1.trans (b3.mono hb1.size))
  have HV := Lib.hid hv
  go_enter Tryd.func10, Tryd.ntmps10
  go_wp2_with fail
  rw [← hW1]
  clear hW1
  refine (spec_IsValidTranscript A cap l _ ((hr.below hb1).more hb1.size) (by omega) HT.out).mono ?_
  rw [hv]
  clear hv
  rintro e w3 ⟨rfl, b3⟩
  have B3 := hb1.trans (b3.mono hb1.size)
  have bP3 := bP.far b3
  cases htx : textB ph
  · have HNO := Lib.hid (show findB l ph = false by simp [findB, htx])
    go_wp2_with fail
    refine (spec_l21Text ph _ (by omega)).mono ?_
    rw [htx]
    rintro e w4 ⟨rfl, b4⟩
    go_wp2
    go_ret2
    exact find_no HNO.out (B3.trans (b4.mono B3.size))
  have HCB := Lib.hid (show findB l ph = true by simp [findB, HV.out, htx])
  have HTX := Lib.hid htx
  have h30 := trans_len HV.out
  obtain ⟨hdl, hdz⟩ := text_len htx
  have hd0 : 0 < (wordsV ph).length := text_some htx
  have HDZ := Lib.hid hdz
  go_wp2_with fail
  refine (spec_l21Text ph _ (by omega)).mono ?_
  rw [htx]
  clear htx hdz
  rintro e w4 ⟨rfl, b4⟩
  have B4 := B3.trans (b4.mono B3.size)
  have bP4 := bP3.far b4
  clear bP bP3
  go_wp2_with fail
  refine (spec_l21Words ph _ (by omega) HTX.out).mono ?_
  rintro e w6 ⟨v6, rfl, o6, b6⟩
  have B6 := B4.trans (b6.mono B4.size)
  have bP6 := bP4.far b6
  obtain ⟨gd, cd, hvd, gd1, gd2, gd3, gd4, gd5, -, -⟩ := o6.open_ hd0
  subst hvd
  have hdue0 := o6.1
  have sP6 : w.heap.size + 1 ≤ w6.heap.size := bP6.lt
  obtain ⟨lod, hlod⟩ : ∃ lod, lod = w4.heap.size := ⟨_, rfl⟩
  rw [← hlod] at hdue0
  have B7 := B6.alloc B6.size (.cells #[] 57)
  have bP7 := bP6.alloc (.cells #[] 57)
  have due7 := hdue0.alloc (.cells #[] 57)
  have own7 : (w6.alloc (.cells #[] 57)).ownsRow (w.heap.size + 1) 57 1 (.slice (some ⟨w6.heap.size, 0, none⟩) 0 0) 0 [] := World.ownsRow_made _ _ _ sP6 (by simp) rfl
  clear hlod gd1 gd2 bP4 bP6 B3 B4 b3 b4 b6 o6 hdue0
  generalize hds : wordsV ph = ds at *
  have HDS := Lib.hid hds
  clear hds
  go_wp2
  go_loopw [7, 8] (fun v i wr => ∃ (k : Nat) (vs : List Value), k ≤ l.length ∧ i = .int .i64 k ∧ wr.ownsRow (w.heap.size + 1) 57 1 v (placesT ds l k).length vs ∧ RowsAt wr (w.heap.size + 1) vs (placesT ds l k) ∧ wr.ownsRow lod 9 1 (.slice (some ⟨gd, 0, none⟩) ds.length cd) ds.length (strsV ds) ∧ Box wr w.heap.size 31 (.slice A l.length cap) ∧ Below w.heap.size w wr) (fun _ i _ => l.length - (intOf i).toNat)
  case atStart => exact ⟨0, [], Nat.zero_le _, rfl, own7, RowsAt.nil _ _, due7, bP7, B7⟩
  case round =>
    obtain ⟨k, vs, hk, rfl, hown, hrows, hdue, bP, hb⟩ := hrel
    have cP := bP.cell
    have sz : w.heap.size + 1 ≤ wr.heap.size := bP.lt
    by_cases hlt : k < l.length
    · obtain ⟨b, off, hA, hb0, hc⟩ := (hr.below hb).2 (by omega)
      subst hA
      obtain ⟨⟨sp, tx⟩, hx⟩ := some_at l hlt
      obtain ⟨c1, c2⟩ := Reads.turn hc hx
      have htx := turn_text HV.out hx
      simp only at htx c1 c2
      have hts := (HT.out _ (List.mem_of_getElem? hx)).2
      simp only at hts
      obtain ⟨hwl, hwz⟩ := text_len htx
      have HNX := Lib.hid (placesT_next (due := ds) hx)
      have hlt2 := placesT_len HV.out ds k
      have HWZ := Lib.hid hwz
      have HTX2 := Lib.hid htx
      have hw0 : 0 < (wordsV tx).length := text_some htx
      have i0 : (0 : Int) ≤ (k : Int) := by omega
      have i1 : (k : Int) < (l.length : Int) := by omega
      clear hx hc htx hwz
      go_wp2_with fail
      refine (spec_l21Words tx _ hts HTX2.out).mono ?_
      rintro e w8 ⟨v8, rfl, o8, b8⟩
      have own8 := row_below hown b8
      have rows8 := hrows.below b8
      have due8 := row_below hdue b8
      have B8 := hb.trans (b8.mono hb.size)
      have bP8 := bP.far b8
      obtain ⟨gw, cw, hvw, -, -, -, hnc, hcm, -, -⟩ := o8.open_ hw0
      subst hvw
      obtain ⟨lo, hlo⟩ : ∃ lo, lo = wr.heap.size := ⟨_, rfl⟩
      have row8 := o8.1
      rw [← hlo] at row8
      clear hlo o8 b8 hown hrows hdue hb c1 c2 cP bP B6 B7 due7 own7 bP7
      generalize wordsV tx = zs at *
      generalize placesT ds l k = os at *
      go_wp2
      go_loopw [7, 10] (fun v j wr => ∃ (m : Nat) (vs : List Value), m ≤ zs.length + 1 - ds.length ∧ j = .int .i64 m ∧ wr.ownsRow (w.heap.size + 1) 57 1 v (os ++ placesK ds zs k m).length vs ∧ RowsAt wr (w.heap.size + 1) vs (os ++ placesK ds zs k m) ∧ wr.ownsRow lod 9 1 (.slice (some ⟨gd, 0, none⟩) ds.length cd) ds.length (strsV ds) ∧ wr.ownsRow lo 9 1 (.slice (some ⟨gw, 0, none⟩) zs.length cw) zs.length (strsV zs) ∧ Box wr w.heap.size 31 (.slice (some ⟨b, off, none⟩) l.length cap) ∧ Below w.heap.size w wr) (fun _ j _ => zs.length + 1 - (intOf j).toNat)
      case atStart => exact ⟨0, vs, Nat.zero_le _, rfl, by rw [placesK, List.append_nil]; exact own8, by rw [placesK, List.append_nil]; exact rows8, due8, row8, bP8, B8⟩
      case round =>
        obtain ⟨m, vs, hm, rfl, hown, hrows, hdue, hwrow, bP, hb⟩ := hrel
        have hpl := placesK_len ds zs k m
        have hoz : (os ++ placesK ds zs k m).length ≤ 1300 := by rw [List.length_append]; omega
        have sz : w.heap.size + 1 ≤ wr.heap.size := bP.lt
        by_cases hmt : m + ds.length ≤ zs.length
        · have j1 : (m : Int) + (ds.length : Int) ≤ (zs.length : Int) := by omega
          have hgw : gw < wr.heap.size := (hwrow.lt gw rfl).2
          have hgd : gd < wr.heap.size := (hdue.lt gd rfl).2
          go_wp2
          generalize hwo : wr = wo at *
          clear hwo
          go_loopw [11, 12] (fun s q wr => ∃ n : Nat, n ≤ ds.length ∧ q = .int .i64 n ∧ s = .bool (standsTo ds zs m n) ∧ Below wo.heap.size wo wr) (fun _ q _ => ds.length - (intOf q).toNat)
          case atStart => exact ⟨0, Nat.zero_le _, rfl, by rw [standsTo_zero], Below.refl _ _⟩
          case round =>
            obtain ⟨n, hn1, rfl, rfl, hbq⟩ := hrel
            by_cases hq : n < ds.length
            · obtain ⟨x, hx⟩ := some_at zs (show m + n < zs.length by omega)
              obtain ⟨y, hy⟩ := some_at ds hq
              have cx : wr.cell? ⟨gw, m + n, none⟩ = some (.string x) := (hbq.cell (p := ⟨gw, m + n, none⟩) hgw).trans ((hwrow.cellAt (m + n) (by omega)).trans (strsV_at hx))
              have cy : wr.cell? ⟨gd, n, none⟩ = some (.string y) := (hbq.cell (p := ⟨gd, n, none⟩) hgd).trans ((hdue.cellAt n (by omega)).trans (strsV_at hy))
              have hxz := (HWZ.out x (List.mem_of_getElem? hx)).2
              have hyz := (HDZ.out y (List.mem_of_getElem? hy)).2
              have HNS := Lib.hid (standsTo_next hx hy)
              have hp1 : (⟨gw, m + n, none⟩ : Addr).block < wr.heap.size := Nat.lt_of_lt_of_le hgw hbq.size
              have hp2 : (⟨gd, n, none⟩ : Addr).block < wr.heap.size := Nat.lt_of_lt_of_le hgd hbq.size
              have HCX := Lib.hid (fun W => spec_NormalizeWord x W (by omega))
              have HCY := Lib.hid (fun W => spec_NormalizeWord y W (by omega))
              have ww1 : IntKind.i64.wrap ((m : Int) + (n : Int)) = (m : Int) + (n : Int) := IntWalk.i64_in _ (by omega)
              have ww2 : ((m : Int) + (n : Int)).toNat = m + n := by omega
              have q0 : (0 : Int) ≤ (m : Int) + (n : Int) := by omega
              have q1 : (m : Int) + (n : Int) < (zs.length : Int) := by omega
              have q2 : (0 : Int) ≤ (n : Int) := by omega
              have q3 : (n : Int) < (ds.length : Int) := by omega
              clear hx hy
              cases hst : standsTo ds zs m n
              · have HF := Lib.hid (show standsTo ds zs m (n + 1) = false by rw [HNS.out, hst]; rfl)
                clear hst
                go_wp2
                first | refine wp_region_noPanic ?_ | skip
                refine wp_region_held_drew (S := fun w' => w'.cell? ⟨gw, m + n, none⟩ = some (.string x)) (by kernel_rfl) (by first | exact cx | assumption) (fun hHeld => ?_)
                (refine wpAnyH_take (i := 0) (v := ?_) rfl (by kernel_rfl) (by kernel_rfl) (by kernel_rfl) (fun _ _ _ h => h) (Or.inl ⟨by rfl, ?_⟩) (by assumption) ?_; rotate_left; focus (intro w hSw; (try dsimp only at hSw); go_simp; try with_reducible rfl))
                (try simp only [List.getElem_toArray, List.getElem_cons_succ, List.getElem_cons_zero, Act.put, List.setIfInBounds_toArray, List.set_cons_zero, List.set_cons_succ])
                (refine wpAnyH_take (i := 1) (v := ?_) rfl (by kernel_rfl) (by kernel_rfl) (by kernel_rfl) (fun _ _ _ h => h) (Or.inl ⟨by rfl, ?_⟩) (by assumption) ?_; rotate_left; focus (intro w hSw; (try dsimp only at hSw); go_simp; try with_reducible rfl))
                (try simp only [List.getElem_toArray, List.getElem_cons_succ, List.getElem_cons_zero, Act.put, List.setIfInBounds_toArray, List.set_cons_zero, List.set_cons_succ])
                refine wpAnyH_take (i := 2) rfl (by kernel_rfl) (by kernel_rfl) (by kernel_rfl) (fun _ _ _ h => h) (Or.inr ⟨by kernel_rfl, rfl⟩) (by assumption) ?_
                (try simp only [List.getElem_toArray, List.getElem_cons_succ, List.getElem_cons_zero, Act.put, List.setIfInBounds_toArray, List.set_cons_zero, List.set_cons_succ])
                refine wpAnyH_take (i := 3) rfl (by kernel_rfl) (by kernel_rfl) (by kernel_rfl) (fun _ _ _ h => h) (Or.inr ⟨by kernel_rfl, rfl⟩) (by assumption) ?_
                (try simp only [List.getElem_toArray, List.getElem_cons_succ, List.getElem_cons_zero, Act.put, List.setIfInBounds_toArray, List.set_cons_zero, List.set_cons_succ])
                refine wpAnyH_take (i := 4) rfl (by kernel_rfl) (by kernel_rfl) (by kernel_rfl) (fun _ _ _ h => h) (Or.inr ⟨by kernel_rfl, rfl⟩) (by assumption) ?_
                (try simp only [List.getElem_toArray, List.getElem_cons_succ, List.getElem_cons_zero, Act.put, List.setIfInBounds_toArray, List.set_cons_zero, List.set_cons_succ])
                refine wpAnyH_take (i := 5) rfl (by kernel_rfl) (by kernel_rfl) (by kernel_rfl) (fun _ _ _ h => h) (Or.inr ⟨by kernel_rfl, rfl⟩) (by assumption) ?_
                (try simp only [List.getElem_toArray, List.getElem_cons_succ, List.getElem_cons_zero, Act.put, List.setIfInBounds_toArray, List.set_cons_zero, List.set_cons_succ])
                refine wpAnyH_take (i := 6) rfl (by kernel_rfl) (by kernel_rfl) (by kernel_rfl) (fun _ _ _ h => h) (Or.inr ⟨by kernel_rfl, rfl⟩) (by assumption) ?_
                (try simp only [List.getElem_toArray, List.getElem_cons_succ, List.getElem_cons_zero, Act.put, List.setIfInBounds_toArray, List.set_cons_zero, List.set_cons_succ])
                refine wpAnyH_take (i := 7) rfl (by kernel_rfl) (by kernel_rfl) (by kernel_rfl) (fun _ _ _ h => h) (Or.inr ⟨by kernel_rfl, rfl⟩) (by assumption) ?_
                (try simp only [List.getElem_toArray, List.getElem_cons_succ, List.getElem_cons_zero, Act.put, List.setIfInBounds_toArray, List.set_cons_zero, List.set_cons_succ])
                refine wpAnyH_take (i := 8) rfl (by kernel_rfl) (by kernel_rfl) (by kernel_rfl) (fun _ _ _ h => h) (Or.inr ⟨by kernel_rfl, rfl⟩) (by assumption) ?_
                (try simp only [List.getElem_toArray, List.getElem_cons_succ, List.getElem_cons_zero, Act.put, List.setIfInBounds_toArray, List.set_cons_zero, List.set_cons_succ])
                refine wpAnyH_take (i := 9) rfl (by kernel_rfl) (by kernel_rfl) (by kernel_rfl) (fun _ _ _ h => h) (Or.inr ⟨by kernel_rfl, rfl⟩) (by assumption) ?_
                (try simp only [List.getElem_toArray, List.getElem_cons_succ, List.getElem_cons_zero, Act.put, List.setIfInBounds_toArray, List.set_cons_zero, List.set_cons_succ])
                refine wpAnyH_take (i := 10) rfl (by kernel_rfl) (by kernel_rfl) (by kernel_rfl) (fun _ _ _ h => h) (Or.inr ⟨by kernel_rfl, rfl⟩) (by assumption) ?_
                (try simp only [List.getElem_toArray, List.getElem_cons_succ, List.getElem_cons_zero, Act.put, List.setIfInBounds_toArray, List.set_cons_zero, List.set_cons_succ])
                refine wpAnyH_take (i := 11) rfl (by kernel_rfl) (by kernel_rfl) (by kernel_rfl) (fun _ _ _ h => h) (Or.inr ⟨by kernel_rfl, rfl⟩) (by assumption) ?_
                (try simp only [List.getElem_toArray, List.getElem_cons_succ, List.getElem_cons_zero, Act.put, List.setIfInBounds_toArray, List.set_cons_zero, List.set_cons_succ])
                refine wpAnyH_take (i := 12) rfl (by kernel_rfl) (by kernel_rfl) (by kernel_rfl) (fun _ _ _ h => h) (Or.inr ⟨by kernel_rfl, rfl⟩) (by assumption) ?_
                (try simp only [List.getElem_toArray, List.getElem_cons_succ, List.getElem_cons_zero, Act.put, List.setIfInBounds_toArray, List.set_cons_zero, List.set_cons_succ])
                refine wpAnyH_take (i := 13) rfl (by kernel_rfl) (by kernel_rfl) (by kernel_rfl) (fun _ _ _ h => h) (Or.inr ⟨by kernel_rfl, rfl⟩) (by assumption) ?_
                (try simp only [List.getElem_toArray, List.getElem_cons_succ, List.getElem_cons_zero, Act.put, List.setIfInBounds_toArray, List.set_cons_zero, List.set_cons_succ])
                refine wpAnyH_take (i := 14) rfl (by kernel_rfl) (by kernel_rfl) (by kernel_rfl) (fun _ _ _ h => h) (Or.inr ⟨by kernel_rfl, rfl⟩) (by assumption) ?_
                (try simp only [List.getElem_toArray, List.getElem_cons_succ, List.getElem_cons_zero, Act.put, List.setIfInBounds_toArray, List.set_cons_zero, List.set_cons_succ])
                (refine wpAnyH_take (i := 15) (v := ?_) rfl (by kernel_rfl) (by kernel_rfl) (by kernel_rfl) (fun _ _ _ h => h) (Or.inl ⟨by rfl, ?_⟩) (by assumption) ?_; rotate_left; focus (intro w hSw; (try dsimp only at hSw); go_simp; try with_reducible rfl))
                (try simp only [List.getElem_toArray, List.getElem_cons_succ, List.getElem_cons_zero, Act.put, List.setIfInBounds_toArray, List.set_cons_zero, List.set_cons_succ])
                (refine wpAnyH_take (i := 16) (v := ?_) rfl (by kernel_rfl) (by kernel_rfl) (by kernel_rfl) (fun _ _ _ h => h) (Or.inl ⟨by rfl, ?_⟩) (by assumption) ?_; rotate_left; focus (intro w hSw; (try dsimp only at hSw); go_simp; try with_reducible rfl))
                (try simp only [List.getElem_toArray, List.getElem_cons_succ, List.getElem_cons_zero, Act.put, List.setIfInBounds_toArray, List.set_cons_zero, List.set_cons_succ])
                refine wpAnyH_done (by kernel_rfl) ?_ _
                first | refine NoPanic.normal ?_ | skip
                clear ww1 ww2 hHeld
                go_wp2
                go_roundw
                case rel => exact ⟨n + 1, by omega, by go_num, by rw [HF.out], hbq.drew⟩
                case measure => simp [intOf]; omega
              · by_cases hxy : normS x = normS y
                · have HF := Lib.hid (show standsTo ds zs m (n + 1) = true by rw [HNS.out, hst, decide_eq_true hxy]; rfl)
                  have HXY := Lib.hid hxy
                  clear hst hxy
                  go_wp2
                  have S0 : wr.cell? ⟨gw, m + n, none⟩ = some (.string x) ∧ wr.cell? ⟨gd, n, none⟩ = some (.string y) ∧ Below wr.heap.size wr wr := ⟨by assumption, by assumption, Below.refl _ _⟩
                  first | refine wp_region_noPanic ?_ | skip
                  refine wp_region_held_drew (S := fun w' => w'.cell? ⟨gw, m + n, none⟩ = some (.string x) ∧ w'.cell? ⟨gd, n, none⟩ = some (.string y) ∧ Below wr.heap.size wr w') (by kernel_rfl) (by first | exact S0 | exact held2_drew S0 | assumption | exact held2_step hp1 hp2 S0 (by assumption) | exact held2_step hp1 hp2 (by assumption) (by assumption) | exact held2_drew (by assumption)) (fun hHeld => ?_)
                  (refine wpAnyH_take (i := 0) (v := ?_) rfl (by kernel_rfl) (by kernel_rfl) (by kernel_rfl) (fun _ _ _ h => h) (Or.inl ⟨by rfl, ?_⟩) (by assumption) ?_; rotate_left; focus (intro w hSw; (try dsimp only at hSw); go_simp; try with_reducible rfl))
                  (try simp only [List.getElem_toArray, List.getElem_cons_succ, List.getElem_cons_zero, Act.put, List.setIfInBounds_toArray, List.set_cons_zero, List.set_cons_succ])
                  (refine wpAnyH_take (i := 1) (v := ?_) rfl (by kernel_rfl) (by kernel_rfl) (by kernel_rfl) (fun _ _ _ h => h) (Or.inl ⟨by rfl, ?_⟩) (by assumption) ?_; rotate_left; focus (intro w hSw; (try dsimp only at hSw); go_simp; try with_reducible rfl))
                  (try simp only [List.getElem_toArray, List.getElem_cons_succ, List.getElem_cons_zero, Act.put, List.setIfInBounds_toArray, List.set_cons_zero, List.set_cons_succ])
                  (refine wpAnyH_take (i := 2) (v := ?_) rfl (by kernel_rfl) (by kernel_rfl) (by kernel_rfl) (fun _ _ _ h => h) (Or.inl ⟨by rfl, ?_⟩) (by assumption) ?_; rotate_left; focus (intro w hSw; (try dsimp only at hSw); go_simp; try with_reducible rfl))
                  (try simp only [List.getElem_toArray, List.getElem_cons_succ, List.getElem_cons_zero, Act.put, List.setIfInBounds_toArray, List.set_cons_zero, List.set_cons_succ])
                  (refine wpAnyH_take (i := 3) (v := ?_) rfl (by kernel_rfl) (by kernel_rfl) (by kernel_rfl) (fun _ _ _ h => h) (Or.inl ⟨by rfl, ?_⟩) (by assumption) ?_; rotate_left; focus (intro w hSw; (try dsimp only at hSw); go_simp; try with_reducible rfl))
                  (try simp only [List.getElem_toArray, List.getElem_cons_succ, List.getElem_cons_zero, Act.put, List.setIfInBounds_toArray, List.set_cons_zero, List.set_cons_succ])
                  (refine wpAnyH_take (i := 4) (v := ?_) rfl (by kernel_rfl) (by kernel_rfl) (by kernel_rfl) (fun _ _ _ h => h) (Or.inl ⟨by rfl, ?_⟩) (by assumption) ?_; rotate_left; focus (intro w hSw; (try dsimp only at hSw); go_simp; try with_reducible rfl))
                  (try simp only [List.getElem_toArray, List.getElem_cons_succ, List.getElem_cons_zero, Act.put, List.setIfInBounds_toArray, List.set_cons_zero, List.set_cons_succ])
                  (refine wpAnyH_take (i := 5) (v := ?_) rfl (by kernel_rfl) (by kernel_rfl) (by kernel_rfl) (fun _ _ _ h => h) (Or.inl ⟨by rfl, ?_⟩) (by assumption) ?_; rotate_left; focus (intro w hSw; (try dsimp only at hSw); go_simp; try with_reducible rfl))
                  (try simp only [List.getElem_toArray, List.getElem_cons_succ, List.getElem_cons_zero, Act.put, List.setIfInBounds_toArray, List.set_cons_zero, List.set_cons_succ])
                  (refine wpAnyH_take (i := 6) (v := ?_) rfl (by kernel_rfl) (by kernel_rfl) (by kernel_rfl) (fun _ _ _ h => h) (Or.inl ⟨by rfl, ?_⟩) (by assumption) ?_; rotate_left; focus (intro w hSw; (try dsimp only at hSw); go_simp; try with_reducible rfl))
                  (try simp only [List.getElem_toArray, List.getElem_cons_succ, List.getElem_cons_zero, Act.put, List.setIfInBounds_toArray, List.set_cons_zero, List.set_cons_succ])
                  (refine wpAnyH_take (i := 7) (v := ?_) rfl (by kernel_rfl) (by kernel_rfl) (by kernel_rfl) (fun _ _ _ h => h) (Or.inl ⟨by rfl, ?_⟩) (by assumption) ?_; rotate_left; focus (intro w hSw; (try dsimp only at hSw); go_simp; try with_reducible rfl))
                  (try simp only [List.getElem_toArray, List.getElem_cons_succ, List.getElem_cons_zero, Act.put, List.setIfInBounds_toArray, List.set_cons_zero, List.set_cons_succ])
                  (refine wpAnyH_take (i := 9) (v := ?_) rfl (by kernel_rfl) (by kernel_rfl) (by kernel_rfl) (fun _ _ _ h => h) (Or.inl ⟨by rfl, ?_⟩) (by assumption) ?_; rotate_left; focus (intro w hSw; (try dsimp only at hSw); go_simp; try with_reducible rfl))
                  (try simp only [List.getElem_toArray, List.getElem_cons_succ, List.getElem_cons_zero, Act.put, List.setIfInBounds_toArray, List.set_cons_zero, List.set_cons_succ])
                  (refine wpAnyH_take (i := 10) (v := ?_) rfl (by kernel_rfl) (by kernel_rfl) (by kernel_rfl) (fun _ _ _ h => h) (Or.inl ⟨by rfl, ?_⟩) (by assumption) ?_; rotate_left; focus (intro w hSw; (try dsimp only at hSw); go_simp; try with_reducible rfl))
                  (try simp only [List.getElem_toArray, List.getElem_cons_succ, List.getElem_cons_zero, Act.put, List.setIfInBounds_toArray, List.set_cons_zero, List.set_cons_succ])
                  (refine wpAnyH_take (i := 11) (v := ?_) rfl (by kernel_rfl) (by kernel_rfl) (by kernel_rfl) (fun _ _ _ h => h) (Or.inl ⟨by rfl, ?_⟩) (by assumption) ?_; rotate_left; focus (intro w hSw; (try dsimp only at hSw); go_simp; try with_reducible rfl))
                  (try simp only [List.getElem_toArray, List.getElem_cons_succ, List.getElem_cons_zero, Act.put, List.setIfInBounds_toArray, List.set_cons_zero, List.set_cons_succ])
                  (refine wpAnyH_take (i := 12) (v := ?_) rfl (by kernel_rfl) (by kernel_rfl) (by kernel_rfl) (fun _ _ _ h => h) (Or.inl ⟨by rfl, ?_⟩) (by assumption) ?_; rotate_left; focus (intro w hSw; (try dsimp only at hSw); go_simp; try with_reducible rfl))
                  (try simp only [List.getElem_toArray, List.getElem_cons_succ, List.getElem_cons_zero, Act.put, List.setIfInBounds_toArray, List.set_cons_zero, List.set_cons_succ])
                  refine wpAnyH_ready (rs := [8]) (by kernel_rfl) (by simp) ?_
                  refine AllReadyH.cons rfl (fun K hK => ?_) AllReadyH.nil
                  go_simp
                  (with_reducible refine (HCX.out _).mono ?_); rw [HXY.out]; rintro e w9 ⟨rfl, b9⟩
                  refine hK.out _ _ (by first | exact S0 | exact held2_drew S0 | assumption | exact held2_step hp1 hp2 S0 (by assumption) | exact held2_step hp1 hp2 (by assumption) (by assumption) | exact held2_drew (by assumption)) (fun hHeld => ?_)
                  clear hK K
                  (try simp only [List.getElem_toArray, List.getElem_cons_succ, List.getElem_cons_zero, Act.put, List.setIfInBounds_toArray, List.set_cons_zero, List.set_cons_succ])
                  refine wpAnyH_ready (rs := [13]) (by kernel_rfl) (by simp) ?_
                  refine AllReadyH.cons rfl (fun K hK => ?_) AllReadyH.nil
                  go_simp
                  (with_reducible refine (HCY.out _).mono ?_); rintro e w10 ⟨rfl, b10⟩
                  refine hK.out _ _ (by first | exact S0 | exact held2_drew S0 | assumption | exact held2_step hp1 hp2 S0 (by assumption) | exact held2_step hp1 hp2 (by assumption) (by assumption) | exact held2_drew (by assumption)) (fun hHeld => ?_)
                  clear hK K
                  (try simp only [List.getElem_toArray, List.getElem_cons_succ, List.getElem_cons_zero, Act.put, List.setIfInBounds_toArray, List.set_cons_zero, List.set_cons_succ])
                  (refine wpAnyH_take (i := 14) (v := ?_) rfl (by kernel_rfl) (by kernel_rfl) (by kernel_rfl) (fun _ _ _ h => h) (Or.inl ⟨by rfl, ?_⟩) (by assumption) ?_; rotate_left; focus (intro w hSw; (try dsimp only at hSw); go_simp; try with_reducible rfl))
                  (try simp only [List.getElem_toArray, List.getElem_cons_succ, List.getElem_cons_zero, Act.put, List.setIfInBounds_toArray, List.set_cons_zero, List.set_cons_succ])
                  (refine wpAnyH_take (i := 15) (v := ?_) rfl (by kernel_rfl) (by kernel_rfl) (by kernel_rfl) (fun _ _ _ h => h) (Or.inl ⟨by rfl, ?_⟩) (by assumption) ?_; rotate_left; focus (intro w hSw; (try dsimp only at hSw); go_simp; try with_reducible rfl))
                  (try simp only [List.getElem_toArray, List.getElem_cons_succ, List.getElem_cons_zero, Act.put, List.setIfInBounds_toArray, List.set_cons_zero, List.set_cons_succ])
                  (refine wpAnyH_take (i := 16) (v := ?_) rfl (by kernel_rfl) (by kernel_rfl) (by kernel_rfl) (fun _ _ _ h => h) (Or.inl ⟨by rfl, ?_⟩) (by assumption) ?_; rotate_left; focus (intro w hSw; (try dsimp only at hSw); go_simp; try with_reducible rfl))
                  (try simp only [List.getElem_toArray, List.getElem_cons_succ, List.getElem_cons_zero, Act.put, List.setIfInBounds_toArray, List.set_cons_zero, List.set_cons_succ])
                  refine wpAnyH_done (by kernel_rfl) ?_ _
                  first | refine NoPanic.normal ?_ | skip
                  have SZ : w10.cell? ⟨gw, m + n, none⟩ = some (.string x) ∧ w10.cell? ⟨gd, n, none⟩ = some (.string y) ∧ Below wr.heap.size wr w10 := by assumption
                  have bz := held2_below SZ
                  clear ww1 ww2 S0 SZ hHeld
                  go_wp2
                  go_roundw
                  case rel => exact ⟨n + 1, by omega, by go_num, by rw [HF.out], hbq.trans (bz.mono hbq.size)⟩
                  case measure => simp [intOf]; omega
                · have HF := Lib.hid (show standsTo ds zs m (n + 1) = false by rw [HNS.out, hst, decide_eq_false hxy]; rfl)
                  have hne := str_other hxy
                  clear hst hxy
                  go_wp2
                  have S0 : wr.cell? ⟨gw, m + n, none⟩ = some (.string x) ∧ wr.cell? ⟨gd, n, none⟩ = some (.string y) ∧ Below wr.heap.size wr wr := ⟨by assumption, by assumption, Below.refl _ _⟩
                  first | refine wp_region_noPanic ?_ | skip
                  refine wp_region_held_drew (S := fun w' => w'.cell? ⟨gw, m + n, none⟩ = some (.string x) ∧ w'.cell? ⟨gd, n, none⟩ = some (.string y) ∧ Below wr.heap.size wr w') (by kernel_rfl) (by first | exact S0 | exact held2_drew S0 | assumption | exact held2_step hp1 hp2 S0 (by assumption) | exact held2_step hp1 hp2 (by assumption) (by assumption) | exact held2_drew (by assumption)) (fun hHeld => ?_)
                  (refine wpAnyH_take (i := 0) (v := ?_) rfl (by kernel_rfl) (by kernel_rfl) (by kernel_rfl) (fun _ _ _ h => h) (Or.inl ⟨by rfl, ?_⟩) (by assumption) ?_; rotate_left; focus (intro w hSw; (try dsimp only at hSw); go_simp; try with_reducible rfl))
                  (try simp only [List.getElem_toArray, List.getElem_cons_succ, List.getElem_cons_zero, Act.put, List.setIfInBounds_toArray, List.set_cons_zero, List.set_cons_succ])
                  (refine wpAnyH_take (i := 1) (v := ?_) rfl (by kernel_rfl) (by kernel_rfl) (by kernel_rfl) (fun _ _ _ h => h) (Or.inl ⟨by rfl, ?_⟩) (by assumption) ?_; rotate_left; focus (intro w hSw; (try dsimp only at hSw); go_simp; try with_reducible rfl))
                  (try simp only [List.getElem_toArray, List.getElem_cons_succ, List.getElem_cons_zero, Act.put, List.setIfInBounds_toArray, List.set_cons_zero, List.set_cons_succ])
                  (refine wpAnyH_take (i := 2) (v := ?_) rfl (by kernel_rfl) (by kernel_rfl) (by kernel_rfl) (fun _ _ _ h => h) (Or.inl ⟨by rfl, ?_⟩) (by assumption) ?_; rotate_left; focus (intro w hSw; (try dsimp only at hSw); go_simp; try with_reducible rfl))
                  (try simp only [List.getElem_toArray, List.getElem_cons_succ, List.getElem_cons_zero, Act.put, List.setIfInBounds_toArray, List.set_cons_zero, List.set_cons_succ])
                  (refine wpAnyH_take (i := 3) (v := ?_) rfl (by kernel_rfl) (by kernel_rfl) (by kernel_rfl) (fun _ _ _ h => h) (Or.inl ⟨by rfl, ?_⟩) (by assumption) ?_; rotate_left; focus (intro w hSw; (try dsimp only at hSw); go_simp; try with_reducible rfl))
                  (try simp only [List.getElem_toArray, List.getElem_cons_succ, List.getElem_cons_zero, Act.put, List.setIfInBounds_toArray, List.set_cons_zero, List.set_cons_succ])
                  (refine wpAnyH_take (i := 4) (v := ?_) rfl (by kernel_rfl) (by kernel_rfl) (by kernel_rfl) (fun _ _ _ h => h) (Or.inl ⟨by rfl, ?_⟩) (by assumption) ?_; rotate_left; focus (intro w hSw; (try dsimp only at hSw); go_simp; try with_reducible rfl))
                  (try simp only [List.getElem_toArray, List.getElem_cons_succ, List.getElem_cons_zero, Act.put, List.setIfInBounds_toArray, List.set_cons_zero, List.set_cons_succ])
                  (refine wpAnyH_take (i := 5) (v := ?_) rfl (by kernel_rfl) (by kernel_rfl) (by kernel_rfl) (fun _ _ _ h => h) (Or.inl ⟨by rfl, ?_⟩) (by assumption) ?_; rotate_left; focus (intro w hSw; (try dsimp only at hSw); go_simp; try with_reducible rfl))
                  (try simp only [List.getElem_toArray, List.getElem_cons_succ, List.getElem_cons_zero, Act.put, List.setIfInBounds_toArray, List.set_cons_zero, List.set_cons_succ])
                  (refine wpAnyH_take (i := 6) (v := ?_) rfl (by kernel_rfl) (by kernel_rfl) (by kernel_rfl) (fun _ _ _ h => h) (Or.inl ⟨by rfl, ?_⟩) (by assumption) ?_; rotate_left; focus (intro w hSw; (try dsimp only at hSw); go_simp; try with_reducible rfl))
                  (try simp only [List.getElem_toArray, List.getElem_cons_succ, List.getElem_cons_zero, Act.put, List.setIfInBounds_toArray, List.set_cons_zero, List.set_cons_succ])
                  (refine wpAnyH_take (i := 7) (v := ?_) rfl (by kernel_rfl) (by kernel_rfl) (by kernel_rfl) (fun _ _ _ h => h) (Or.inl ⟨by rfl, ?_⟩) (by assumption) ?_; rotate_left; focus (intro w hSw; (try dsimp only at hSw); go_simp; try with_reducible rfl))
                  (try simp only [List.getElem_toArray, List.getElem_cons_succ, List.getElem_cons_zero, Act.put, List.setIfInBounds_toArray, List.set_cons_zero, List.set_cons_succ])
                  (refine wpAnyH_take (i := 9) (v := ?_) rfl (by kernel_rfl) (by kernel_rfl) (by kernel_rfl) (fun _ _ _ h => h) (Or.inl ⟨by rfl, ?_⟩) (by assumption) ?_; rotate_left; focus (intro w hSw; (try dsimp only at hSw); go_simp; try with_reducible rfl))
                  (try simp only [List.getElem_toArray, List.getElem_cons_succ, List.getElem_cons_zero, Act.put, List.setIfInBounds_toArray, List.set_cons_zero, List.set_cons_succ])
                  (refine wpAnyH_take (i := 10) (v := ?_) rfl (by kernel_rfl) (by kernel_rfl) (by kernel_rfl) (fun _ _ _ h => h) (Or.inl ⟨by rfl, ?_⟩) (by assumption) ?_; rotate_left; focus (intro w hSw; (try dsimp only at hSw); go_simp; try with_reducible rfl))
                  (try simp only [List.getElem_toArray, List.getElem_cons_succ, List.getElem_cons_zero, Act.put, List.setIfInBounds_toArray, List.set_cons_zero, List.set_cons_succ])
                  (refine wpAnyH_take (i := 11) (v := ?_) rfl (by kernel_rfl) (by kernel_rfl) (by kernel_rfl) (fun _ _ _ h => h) (Or.inl ⟨by rfl, ?_⟩) (by assumption) ?_; rotate_left; focus (intro w hSw; (try dsimp only at hSw); go_simp; try with_reducible rfl))
                  (try simp only [List.getElem_toArray, List.getElem_cons_succ, List.getElem_cons_zero, Act.put, List.setIfInBounds_toArray, List.set_cons_zero, List.set_cons_succ])
                  (refine wpAnyH_take (i := 12) (v := ?_) rfl (by kernel_rfl) (by kernel_rfl) (by kernel_rfl) (fun _ _ _ h => h) (Or.inl ⟨by rfl, ?_⟩) (by assumption) ?_; rotate_left; focus (intro w hSw; (try dsimp only at hSw); go_simp; try with_reducible rfl))
                  (try simp only [List.getElem_toArray, List.getElem_cons_succ, List.getElem_cons_zero, Act.put, List.setIfInBounds_toArray, List.set_cons_zero, List.set_cons_succ])
                  refine wpAnyH_ready (rs := [8]) (by kernel_rfl) (by simp) ?_
                  refine AllReadyH.cons rfl (fun K hK => ?_) AllReadyH.nil
                  go_simp
                  (with_reducible refine (HCX.out _).mono ?_); rintro e w9 ⟨rfl, b9⟩
                  refine hK.out _ _ (by first | exact S0 | exact held2_drew S0 | assumption | exact held2_step hp1 hp2 S0 (by assumption) | exact held2_step hp1 hp2 (by assumption) (by assumption) | exact held2_drew (by assumption)) (fun hHeld => ?_)
                  clear hK K
                  (try simp only [List.getElem_toArray, List.getElem_cons_succ, List.getElem_cons_zero, Act.put, List.setIfInBounds_toArray, List.set_cons_zero, List.set_cons_succ])
                  refine wpAnyH_ready (rs := [13]) (by kernel_rfl) (by simp) ?_
                  refine AllReadyH.cons rfl (fun K hK => ?_) AllReadyH.nil
                  go_simp
                  (with_reducible refine (HCY.out _).mono ?_); rintro e w10 ⟨rfl, b10⟩
                  refine hK.out _ _ (by first | exact S0 | exact held2_drew S0 | assumption | exact held2_step hp1 hp2 S0 (by assumption) | exact held2_step hp1 hp2 (by assumption) (by assumption) | exact held2_drew (by assumption)) (fun hHeld => ?_)
                  clear hK K
                  (try simp only [List.getElem_toArray, List.getElem_cons_succ, List.getElem_cons_zero, Act.put, List.setIfInBounds_toArray, List.set_cons_zero, List.set_cons_succ])
                  (refine wpAnyH_take (i := 14) (v := ?_) rfl (by kernel_rfl) (by kernel_rfl) (by kernel_rfl) (fun _ _ _ h => h) (Or.inl ⟨by rfl, ?_⟩) (by assumption) ?_; rotate_left; focus (intro w hSw; (try dsimp only at hSw); go_simp; try with_reducible rfl))
                  (try simp only [List.getElem_toArray, List.getElem_cons_succ, List.getElem_cons_zero, Act.put, List.setIfInBounds_toArray, List.set_cons_zero, List.set_cons_succ])
                  (refine wpAnyH_take (i := 15) (v := ?_) rfl (by kernel_rfl) (by kernel_rfl) (by kernel_rfl) (fun _ _ _ h => h) (Or.inl ⟨by rfl, ?_⟩) (by assumption) ?_; rotate_left; focus (intro w hSw; (try dsimp only at hSw); go_simp; try with_reducible rfl))
                  (try simp only [List.getElem_toArray, List.getElem_cons_succ, List.getElem_cons_zero, Act.put, List.setIfInBounds_toArray, List.set_cons_zero, List.set_cons_succ])
                  (refine wpAnyH_take (i := 16) (v := ?_) rfl (by kernel_rfl) (by kernel_rfl) (by kernel_rfl) (fun _ _ _ h => h) (Or.inl ⟨by rfl, ?_⟩) (by assumption) ?_; rotate_left; focus (intro w hSw; (try dsimp only at hSw); go_simp; try with_reducible rfl))
                  (try simp only [List.getElem_toArray, List.getElem_cons_succ, List.getElem_cons_zero, Act.put, List.setIfInBounds_toArray, List.set_cons_zero, List.set_cons_succ])
                  refine wpAnyH_done (by kernel_rfl) ?_ _
                  first | refine NoPanic.normal ?_ | skip
                  have SZ : w10.cell? ⟨gw, m + n, none⟩ = some (.string x) ∧ w10.cell? ⟨gd, n, none⟩ = some (.string y) ∧ Below wr.heap.size wr w10 := by assumption
                  have bz := held2_below SZ
                  clear ww1 ww2 S0 SZ hHeld
                  go_wp2
                  go_roundw
                  case rel => exact ⟨n + 1, by omega, by go_num, by rw [HF.out], hbq.trans (bz.mono hbq.size)⟩
                  case measure => simp [intOf]; omega
            · obtain rfl : n = ds.length := by omega
              have hown9 := row_below hown hbq
              have hrows9 := hrows.below hbq
              have hdue9 := row_below hdue hbq
              have hw9 := row_below hwrow hbq
              have bP9 := bP.far hbq
              have B9 := hb.trans (hbq.mono hb.size)
              have sz9 := Nat.le_trans sz hbq.size
              rw [standsTo_all]
              cases hst : stands ds zs m
              · have HND := Lib.hid (placesK_no (i := k) hst)
                clear hst hown hrows hdue hwrow hb
                go_wp2
                go_roundw
                case rel => exact ⟨m + 1, vs, by omega, by go_num, by rw [HND.out]; exact hown9, by rw [HND.out]; exact hrows9, hdue9, hw9, bP9, B9⟩
                case measure => simp [intOf]; omega
              · have HY := Lib.hid (placesK_yes (i := k) hst)
                clear hst hown hrows hdue hwrow hb
                have hownA := hown9.alloc (.cells #[.int .i64 k, .int .i64 m] 3)
                have szA : w.heap.size + 1 ≤ (wr.alloc (.cells #[.int .i64 k, .int .i64 m] 3)).heap.size := by simp; omega
                have BA := B9.alloc B9.size (.cells #[.int .i64 k, .int .i64 m] 3)
                have HD9 := Lib.hid (rows_apart hdue9 hown9 (by decide) gd rfl)
                have HW9 := Lib.hid (rows_apart hw9 hown9 (by decide) gw rfl)
                go_wp2_with (at_builtin; refine wpList_append_oneA hownA szA (.tmp 70) (.tmp 74) 26 Tryd.underlying26 infos_int (by omega) (by unfold maxLen; omega) ⟨rfl, rfl, rfl, rfl, rfl, rfl⟩ (by simp) ?_; intro v10 w10 hown10 hg10 hat10)
                have hrs := rows_step (r := [(k : Int), (m : Int)]) hown9 hrows9 sz9 (by simp) (by exact hg10)
                go_roundw
                case rel => exact ⟨m + 1, vs ++ [.slice (some ⟨wr.heap.size, 0, none⟩) 2 2], by omega, by go_num, by rw [HY.out, ← List.append_assoc, List.length_append]; exact hown10, by rw [HY.out, ← List.append_assoc]; exact hrs, (hdue9.alloc _).kept hg10 (.inr (fun h => HD9.out h.symm)), (hw9.alloc _).kept hg10 (.inr (fun h => HW9.out h.symm)), (bP9.alloc _).grown hg10 (bP9.ne_own hown9 (by decide)), below_grown BA hg10 BA.size hownA rfl (by omega)⟩
                case measure => simp [intOf]; omega
        · have hme : m = zs.length + 1 - ds.length := by omega
          have j1 : ¬ (m : Int) + (ds.length : Int) ≤ (zs.length : Int) := by omega
          have HME := Lib.hid hme
          clear hme
          go_wp2
          go_roundw
          case rel => exact ⟨k + 1, vs, by omega, by go_num, by rw [HNX.out, ← HME.out]; exact hown, by rw [HNX.out, ← HME.out]; exact hrows, hdue, bP, hb⟩
          case measure => simp [intOf]; omega
    · obtain rfl : k = l.length := by omega
      go_wp2
      go_ret2
      have hcl : findL l ph = placesT ds l l.length := by rw [findL, if_pos HCB.out, HDS.out]
      refine ⟨u7, by rw [HCB.out]; rfl, ?_, hb⟩
      rw [hcl]
      obtain ⟨vs', h1, h2, h3⟩ := OwnSS.of_rows hown hrows
      exact ⟨vs', ⟨h1.1.base (by omega), h1.2⟩, ⟨h2.len, fun j u r hu hr => (h2.row j u r hu hr).base (by omega), h2.apart⟩, h3⟩
end Go.Proofs.YtiiffdjpfjeeoaaDoor
