/-
  The reference's SegmentationErrors.
-/
import Derived.Test.YtekidodfcanjaaaGreatDoorGridPl
import Derived.Test.YtekidodfcanjaaaGreatDoorPairS
import Derived.Test.YtekidodfcanjaaaGreatDoorSegS
import Derived.Test.YtekidodfcanjaaaGreatDoorHeldA
namespace Go.Proofs.YtekidodfcanjaaaGreatDoor
open Go.RowKit
set_option linter.unusedVariables false
set_option linter.unusedSimpArgs false
set_option maxRecDepth 100000

set_option maxHeartbeats 8000000 in
theorem spec_SegmentationErrors (A : Option Addr) (cap : Nat) (l : List EntD) (w : World) (hr : DictR w w.heap.size A l) (hn : l.length ≤ 1048576) (hs : ShortD l) :
    Calls Tryz.prog 37 #[.agg #[.slice A l.length cap]] w (RowsRes (dictB l) (errD l) w) := by
  have HS := Lib.hid hs
  clear hs
  obtain ⟨W1, hW1⟩ : ∃ W1, W1 = w.alloc (.cells #[.slice A l.length cap] 31) := ⟨_, rfl⟩
  have hb1 : Below w.heap.size w W1 := by rw [hW1]; exact (Below.refl _ _).alloc (Nat.le_refl _) _
  have bP : Box W1 w.heap.size 31 (.slice A l.length cap) := by rw [hW1]; exact Box.new w _ _
  cases hv : dictB l
  · have HV := Lib.hid hv
    rw [errD_no hv]
    clear hv
    go_enter Tryz.func37, Tryz.ntmps37
    go_wp2_with fail
    rw [← hW1]
    clear hW1
    refine (spec_l6Good A cap l _ ((hr.below hb1).more hb1.size) hn HS.out).mono ?_
    rw [HV.out]
    rintro e w3 ⟨rfl, b3⟩
    go_wp2
    go_ret2
    exact rows_no rfl (hb1.trans (b3.mono hb1.size))
  rw [errD_yes hv]
  have HV := Lib.hid hv
  have h40 := dict_len hv
  clear hv
  go_enter Tryz.func37, Tryz.ntmps37
  go_wp2_with fail
  rw [← hW1]
  clear hW1
  refine (spec_l6Good A cap l _ ((hr.below hb1).more hb1.size) hn HS.out).mono ?_
  rw [HV.out]
  rintro e w3 ⟨rfl, b3⟩
  have B3 := hb1.trans (b3.mono hb1.size)
  have bP3 := bP.far b3
  have B4 := B3.alloc B3.size (.cells #[] 26)
  have bP4 := bP3.alloc (.cells #[] 26)
  have own0 : (w3.alloc (.cells #[] 26)).ownsRow (w.heap.size + 1) 26 1 (.slice (some ⟨w3.heap.size, 0, none⟩) 0 0) 0 [] := World.ownsRow_made _ _ _ bP3.lt (by simp) rfl
  clear bP bP3 B3 b3
  go_wp2
  go_loopw [4, 5] (fun v i wr => ∃ (k : Nat) (vs : List Value), k ≤ l.length ∧ i = .int .i64 k ∧ wr.ownsRow (w.heap.size + 1) 26 1 v (gT (errF l) l.length k).length vs ∧ RowsAt wr (w.heap.size + 1) vs (gT (errF l) l.length k) ∧ Box wr w.heap.size 31 (.slice A l.length cap) ∧ Below w.heap.size w wr) (fun _ i _ => l.length - (intOf i).toNat)
  case atStart => exact ⟨0, [], Nat.zero_le _, rfl, own0, RowsAt.nil _ _, bP4, B4⟩
  case round =>
    obtain ⟨k, vs, hk, rfl, hown, hrows, bP, hb⟩ := hrel
    have cP := bP.cell
    by_cases hlt : k < l.length
    · obtain ⟨⟨o, t⟩, hx⟩ := some_at l hlt
      have hol := dict_out HV.out hx
      simp only at hol
      have HX := Lib.hid hx
      have htl := gT_len (errF l) l.length k
      have htm : k * l.length ≤ 40 * 40 := Nat.mul_le_mul (by omega) h40
      clear hx
      generalize hos : gT (errF l) l.length k = os at *
      have HOS := Lib.hid hos
      clear hos
      go_wp2
      go_loopw [4, 6] (fun v j wr => ∃ (m : Nat) (vs : List Value), m ≤ l.length ∧ j = .int .i64 m ∧ wr.ownsRow (w.heap.size + 1) 26 1 v (os ++ gK (errF l) k m).length vs ∧ RowsAt wr (w.heap.size + 1) vs (os ++ gK (errF l) k m) ∧ Box wr w.heap.size 31 (.slice A l.length cap) ∧ Below w.heap.size w wr) (fun _ j _ => l.length - (intOf j).toNat)
      case atStart => exact ⟨0, vs, Nat.zero_le _, rfl, by rw [gK, List.append_nil]; exact hown, by rw [gK, List.append_nil]; exact hrows, bP, hb⟩
      case round =>
        obtain ⟨m, vs, hm, rfl, hown, hrows, bP, hb⟩ := hrel
        clear cP
        have cP := bP.cell
        have hpl := gK_len (errF l) k m
        have hoz : (os ++ gK (errF l) k m).length ≤ 1700 := by rw [List.length_append]; omega
        by_cases hmt : m < l.length
        · obtain ⟨b, off, rfl, hb0, hc⟩ := (hr.below hb) (by omega)
          obtain ⟨ao, co, c1, -, r1, hco, hcom⟩ := DictR.at_ hc HX.out
          obtain ⟨⟨p, u⟩, hy⟩ := some_at l hmt
          obtain ⟨ap, cp, d1, -, r2, hcp, hcm⟩ := DictR.at_ hc hy
          have hpl2 := dict_out HV.out hy
          simp only at hpl2
          have i0 : (0 : Int) ≤ (k : Int) := by omega
          have i1 : (k : Int) < (l.length : Int) := by omega
          have i2 : (0 : Int) ≤ (m : Int) := by omega
          have i3 : (m : Int) < (l.length : Int) := by omega
          have hp1 : (⟨w.heap.size, 0, none⟩ : Addr).block < wr.heap.size := bP.lt
          have hp2 : (⟨b, off + m * 2, none⟩ : Addr).block < wr.heap.size := by have := hb.size; show b < _; omega
          have hp3 : (⟨b, off + k * 2, none⟩ : Addr).block < wr.heap.size := by have := hb.size; show b < _; omega
          obtain ⟨jn, hjn⟩ : ∃ jn, jn = o ++ p := ⟨_, rfl⟩
          have hjl : jn.length ≤ 12 := by rw [hjn, List.length_append]; omega
          have hj0 : 0 < jn.length := by rw [hjn, List.length_append]; omega
          obtain ⟨wx, hwx⟩ : ∃ wx, wx = wr.drew := ⟨_, rfl⟩
          have bx : Below wr.heap.size wr wx := by rw [hwx]; exact (Below.refl _ _).drew
          have HJ := Lib.hid (show ∀ W, Below wx.heap.size wx W → Calls Tryz.prog 52 #[.slice ao o.length co, .slice ap p.length cp] W fun e w' => ∃ v, e = .returned v ∧ Own w' W.heap.size w'.heap.size 3 1 v jn.length (ints jn) ∧ Below W.heap.size W w' from fun W hW => by
            have hW2 := bx.trans (hW.mono bx.size)
            rw [hjn]
            exact spec_l22Join ao ap co cp o p W (((r1.more hb.size).below hW2).more hW2.size) (((r2.more hb.size).below hW2).more hW2.size) (by omega) (by omega))
          have HRD := Lib.hid (show ∀ W, Below wx.heap.size wx W → DictR W W.heap.size (some ⟨b, off, none⟩) l from fun W hW => (((hr.below hb).more hb.size).below (bx.trans (hW.mono bx.size))).more (bx.trans (hW.mono bx.size)).size)
          have HY := Lib.hid hy
          have HJN := Lib.hid hjn
          clear hy hc r1 r2 hjn
          go_wp2
          have S0 : wr.cell? ⟨w.heap.size, 0, none⟩ = some (.slice (some ⟨b, off, none⟩) l.length cap) ∧ wr.cell? ⟨b, off + k * 2, none⟩ = some (.slice ao o.length co) ∧ wr.cell? ⟨b, off + m * 2, none⟩ = some (.slice ap p.length cp) ∧ Below wr.heap.size wr wr := ⟨by assumption, by assumption, by assumption, Below.refl _ _⟩
          first | refine wp_region_noPanic ?_ | skip
          refine wp_region_held_drew (S := fun w' => w'.cell? ⟨w.heap.size, 0, none⟩ = some (.slice (some ⟨b, off, none⟩) l.length cap) ∧ w'.cell? ⟨b, off + k * 2, none⟩ = some (.slice ao o.length co) ∧ w'.cell? ⟨b, off + m * 2, none⟩ = some (.slice ap p.length cp) ∧ Below wr.heap.size wr w') (by kernel_rfl) (by first | exact S0 | exact held3_drew S0 | assumption | exact held3_step hp1 hp3 hp2 S0 (by assumption) | exact held3_step hp1 hp3 hp2 (by assumption) (by assumption) | exact held3_drew (by assumption)) (fun hHeld => ?_)
          (refine wpAnyH_take (i := 0) (v := ?_) rfl (by kernel_rfl) (by kernel_rfl) (by kernel_rfl) (fun _ _ _ h => h) (Or.inl ⟨by rfl, ?_⟩) (by assumption) ?_; rotate_left; focus (intro w hSw; (try dsimp only at hSw); go_simp; try with_reducible rfl))
          (try simp only [List.getElem_toArray, List.getElem_cons_succ, List.getElem_cons_zero, Act.put, List.setIfInBounds_toArray, List.set_cons_zero, List.set_cons_succ])
          (refine wpAnyH_take (i := 1) (v := ?_) rfl (by kernel_rfl) (by kernel_rfl) (by kernel_rfl) (fun _ _ _ h => h) (Or.inl ⟨by rfl, ?_⟩) (by assumption) ?_; rotate_left; focus (intro w hSw; (try dsimp only at hSw); go_simp; try with_reducible rfl))
          (try simp only [List.getElem_toArray, List.getElem_cons_succ, List.getElem_cons_zero, Act.put, List.setIfInBounds_toArray, List.set_cons_zero, List.set_cons_succ])
          (refine wpAnyH_take (i := 2) (v := ?_) rfl (by kernel_rfl) (by kernel_rfl) (by kernel_rfl) (fun _ _ _ h => h) (Or.inl ⟨by rfl, ?_⟩) (by assumption) ?_; rotate_left; focus (intro w hSw; (try dsimp only at hSw); go_simp; try with_reducible rfl))
          (try simp only [List.getElem_toArray, List.getElem_cons_succ, List.getElem_cons_zero, Act.put, List.setIfInBounds_toArray, List.set_cons_zero, List.set_cons_succ])
          (refine wpAnyH_take (i := 3) (v := ?_) rfl (by kernel_rfl) (by kernel_rfl) (by kernel_rfl) (fun _ _ _ h => h) (Or.inl ⟨by rfl, ?_⟩) (by assumption) ?_; rotate_left; focus (intro w hSw; (try dsimp only at hSw); go_simp; try with_reducible rfl))
          (try simp only [List.getElem_toArray, List.getElem_cons_succ, List.getElem_cons_zero, Act.put, List.setIfInBounds_toArray, List.set_cons_zero, List.set_cons_succ])
          (refine wpAnyH_take (i := 4) (v := ?_) rfl (by kernel_rfl) (by kernel_rfl) (by kernel_rfl) (fun _ _ _ h => h) (Or.inl ⟨by rfl, ?_⟩) (by assumption) ?_; rotate_left; focus (intro w hSw; (try dsimp only at hSw); go_simp; try with_reducible rfl))
          (try simp only [List.getElem_toArray, List.getElem_cons_succ, List.getElem_cons_zero, Act.put, List.setIfInBounds_toArray, List.set_cons_zero, List.set_cons_succ])
          (refine wpAnyH_take (i := 5) (v := ?_) rfl (by kernel_rfl) (by kernel_rfl) (by kernel_rfl) (fun _ _ _ h => h) (Or.inl ⟨by rfl, ?_⟩) (by assumption) ?_; rotate_left; focus (intro w hSw; (try dsimp only at hSw); go_simp; try with_reducible rfl))
          (try simp only [List.getElem_toArray, List.getElem_cons_succ, List.getElem_cons_zero, Act.put, List.setIfInBounds_toArray, List.set_cons_zero, List.set_cons_succ])
          (refine wpAnyH_take (i := 6) (v := ?_) rfl (by kernel_rfl) (by kernel_rfl) (by kernel_rfl) (fun _ _ _ h => h) (Or.inl ⟨by rfl, ?_⟩) (by assumption) ?_; rotate_left; focus (intro w hSw; (try dsimp only at hSw); go_simp; try with_reducible rfl))
          (try simp only [List.getElem_toArray, List.getElem_cons_succ, List.getElem_cons_zero, Act.put, List.setIfInBounds_toArray, List.set_cons_zero, List.set_cons_succ])
          (refine wpAnyH_take (i := 7) (v := ?_) rfl (by kernel_rfl) (by kernel_rfl) (by kernel_rfl) (fun _ _ _ h => h) (Or.inl ⟨by rfl, ?_⟩) (by assumption) ?_; rotate_left; focus (intro w hSw; (try dsimp only at hSw); go_simp; try with_reducible rfl))
          (try simp only [List.getElem_toArray, List.getElem_cons_succ, List.getElem_cons_zero, Act.put, List.setIfInBounds_toArray, List.set_cons_zero, List.set_cons_succ])
          (refine wpAnyH_take (i := 8) (v := ?_) rfl (by kernel_rfl) (by kernel_rfl) (by kernel_rfl) (fun _ _ _ h => h) (Or.inl ⟨by rfl, ?_⟩) (by assumption) ?_; rotate_left; focus (intro w hSw; (try dsimp only at hSw); go_simp; try with_reducible rfl))
          (try simp only [List.getElem_toArray, List.getElem_cons_succ, List.getElem_cons_zero, Act.put, List.setIfInBounds_toArray, List.set_cons_zero, List.set_cons_succ])
          (refine wpAnyH_take (i := 9) (v := ?_) rfl (by kernel_rfl) (by kernel_rfl) (by kernel_rfl) (fun _ _ _ h => h) (Or.inl ⟨by rfl, ?_⟩) (by assumption) ?_; rotate_left; focus (intro w hSw; (try dsimp only at hSw); go_simp; try with_reducible rfl))
          (try simp only [List.getElem_toArray, List.getElem_cons_succ, List.getElem_cons_zero, Act.put, List.setIfInBounds_toArray, List.set_cons_zero, List.set_cons_succ])
          (refine wpAnyH_take (i := 10) (v := ?_) rfl (by kernel_rfl) (by kernel_rfl) (by kernel_rfl) (fun _ _ _ h => h) (Or.inl ⟨by rfl, ?_⟩) (by assumption) ?_; rotate_left; focus (intro w hSw; (try dsimp only at hSw); go_simp; try with_reducible rfl))
          (try simp only [List.getElem_toArray, List.getElem_cons_succ, List.getElem_cons_zero, Act.put, List.setIfInBounds_toArray, List.set_cons_zero, List.set_cons_succ])
          (refine wpAnyH_take (i := 11) (v := ?_) rfl (by kernel_rfl) (by kernel_rfl) (by kernel_rfl) (fun _ _ _ h => h) (Or.inl ⟨by rfl, ?_⟩) (by assumption) ?_; rotate_left; focus (intro w hSw; (try dsimp only at hSw); go_simp; try with_reducible rfl))
          (try simp only [List.getElem_toArray, List.getElem_cons_succ, List.getElem_cons_zero, Act.put, List.setIfInBounds_toArray, List.set_cons_zero, List.set_cons_succ])
          (refine wpAnyH_take (i := 12) (v := ?_) rfl (by kernel_rfl) (by kernel_rfl) (by kernel_rfl) (fun _ _ _ h => h) (Or.inl ⟨by rfl, ?_⟩) (by assumption) ?_; rotate_left; focus (intro w hSw; (try dsimp only at hSw); go_simp; try with_reducible rfl))
          (try simp only [List.getElem_toArray, List.getElem_cons_succ, List.getElem_cons_zero, Act.put, List.setIfInBounds_toArray, List.set_cons_zero, List.set_cons_succ])
          (refine wpAnyH_take (i := 13) (v := ?_) rfl (by kernel_rfl) (by kernel_rfl) (by kernel_rfl) (fun _ _ _ h => h) (Or.inl ⟨by rfl, ?_⟩) (by assumption) ?_; rotate_left; focus (intro w hSw; (try dsimp only at hSw); go_simp; try with_reducible rfl))
          (try simp only [List.getElem_toArray, List.getElem_cons_succ, List.getElem_cons_zero, Act.put, List.setIfInBounds_toArray, List.set_cons_zero, List.set_cons_succ])
          refine wpAnyH_done (by kernel_rfl) ?_ _
          first | refine NoPanic.normal ?_ | skip
          have SZ : wr.drew.cell? ⟨w.heap.size, 0, none⟩ = some (.slice (some ⟨b, off, none⟩) l.length cap) ∧ wr.drew.cell? ⟨b, off + k * 2, none⟩ = some (.slice ao o.length co) ∧ wr.drew.cell? ⟨b, off + m * 2, none⟩ = some (.slice ap p.length cp) ∧ Below wr.heap.size wr wr.drew := by assumption
          have bw := held3_below SZ
          clear S0 SZ hHeld
          rw [← hwx]
          have bPx := bP.far bx
          have ex := bPx.cell
          have hp4 : (⟨w.heap.size, 0, none⟩ : Addr).block < wx.heap.size := bPx.lt
          have hbx := hb.trans (bx.mono hb.size)
          clear hwx bw cP c1 d1
          go_wp2
          have S0 : wx.cell? ⟨w.heap.size, 0, none⟩ = some (.slice (some ⟨b, off, none⟩) l.length cap) ∧ Below wx.heap.size wx wx := ⟨by assumption, Below.refl _ _⟩
          first | refine wp_region_noPanic ?_ | skip
          refine wp_region_held_drew (S := fun w' => w'.cell? ⟨w.heap.size, 0, none⟩ = some (.slice (some ⟨b, off, none⟩) l.length cap) ∧ Below wx.heap.size wx w') (by kernel_rfl) (by first | exact S0 | exact held1_drew S0 | assumption | exact held1_step hp4 S0 (by assumption) | exact held1_step hp4 (by assumption) (by assumption) | exact held1_drew (by assumption)) (fun hHeld => ?_)
          (refine wpAnyH_take (i := 0) (v := ?_) rfl (by kernel_rfl) (by kernel_rfl) (by kernel_rfl) (fun _ _ _ h => h) (Or.inl ⟨by rfl, ?_⟩) (by assumption) ?_; rotate_left; focus (intro w hSw; (try dsimp only at hSw); go_simp; try with_reducible rfl))
          (try simp only [List.getElem_toArray, List.getElem_cons_succ, List.getElem_cons_zero, Act.put, List.setIfInBounds_toArray, List.set_cons_zero, List.set_cons_succ])
          (refine wpAnyH_take (i := 1) (v := ?_) rfl (by kernel_rfl) (by kernel_rfl) (by kernel_rfl) (fun _ _ _ h => h) (Or.inl ⟨by rfl, ?_⟩) (by assumption) ?_; rotate_left; focus (intro w hSw; (try dsimp only at hSw); go_simp; try with_reducible rfl))
          (try simp only [List.getElem_toArray, List.getElem_cons_succ, List.getElem_cons_zero, Act.put, List.setIfInBounds_toArray, List.set_cons_zero, List.set_cons_succ])
          (refine wpAnyH_take (i := 2) (v := ?_) rfl (by kernel_rfl) (by kernel_rfl) (by kernel_rfl) (fun _ _ _ h => h) (Or.inl ⟨by rfl, ?_⟩) (by assumption) ?_; rotate_left; focus (intro w hSw; (try dsimp only at hSw); go_simp; try with_reducible rfl))
          (try simp only [List.getElem_toArray, List.getElem_cons_succ, List.getElem_cons_zero, Act.put, List.setIfInBounds_toArray, List.set_cons_zero, List.set_cons_succ])
          refine wpAnyH_ready (rs := [3]) (by kernel_rfl) (by simp) ?_
          refine AllReadyH.cons rfl (fun K hK => ?_) AllReadyH.nil
          go_simp
          (with_reducible refine (HJ.out _ (held1_below (by assumption))).mono ?_); rintro e w5 ⟨vj, rfl, oj, bj⟩; obtain ⟨aj, cj, rfl, rj, hcj, hmj⟩ := oj.slice; go_wp2_with fail
          refine hK.out _ _ (by first | exact S0 | exact held1_drew S0 | assumption | exact held1_step hp4 S0 (by assumption) | exact held1_step hp4 (by assumption) (by assumption) | exact held1_drew (by assumption)) (fun hHeld => ?_)
          clear hK K
          (try simp only [List.getElem_toArray, List.getElem_cons_succ, List.getElem_cons_zero, Act.put, List.setIfInBounds_toArray, List.set_cons_zero, List.set_cons_succ])
          refine wpAnyH_ready (rs := [4]) (by kernel_rfl) (by simp) ?_
          refine AllReadyH.cons rfl (fun K hK => ?_) AllReadyH.nil
          go_simp
          (with_reducible refine (spec_l11Segment (some ⟨b, off, none⟩) aj cap cj l jn _ (HRD.out _ (held1_below (by assumption))) HV.out (by exact rj) (by omega) hcj hmj).mono ?_); rintro e w6 ⟨vs6, rfl, os6, b6⟩; go_wp2_with fail
          refine hK.out _ _ (by first | exact S0 | exact held1_drew S0 | assumption | exact held1_step hp4 S0 (by assumption) | exact held1_step hp4 (by assumption) (by assumption) | exact held1_drew (by assumption)) (fun hHeld => ?_)
          clear hK K
          (try simp only [List.getElem_toArray, List.getElem_cons_succ, List.getElem_cons_zero, Act.put, List.setIfInBounds_toArray, List.set_cons_zero, List.set_cons_succ])
          (refine wpAnyH_take (i := 5) (v := ?_) rfl (by kernel_rfl) (by kernel_rfl) (by kernel_rfl) (fun _ _ _ h => h) (Or.inl ⟨by rfl, ?_⟩) (by assumption) ?_; rotate_left; focus (intro w hSw; (try dsimp only at hSw); go_simp; try with_reducible rfl))
          (try simp only [List.getElem_toArray, List.getElem_cons_succ, List.getElem_cons_zero, Act.put, List.setIfInBounds_toArray, List.set_cons_zero, List.set_cons_succ])
          refine wpAnyH_done (by kernel_rfl) ?_ _
          first | refine NoPanic.normal ?_ | skip
          have SZ : w6.cell? ⟨w.heap.size, 0, none⟩ = some (.slice (some ⟨b, off, none⟩) l.length cap) ∧ Below wx.heap.size wx w6 := by assumption
          have b9 := held1_below SZ
          have B9 := hbx.trans (b9.mono hbx.size)
          have bP9 := bPx.far b9
          have hown9 := row_below (row_below hown bx) b9
          have hrows9 := (hrows.below bx).below b9
          have sz9 : w.heap.size + 1 ≤ w6.heap.size := bP9.lt
          clear S0 SZ hHeld hown hrows ex
          have HYD := Lib.hid (fun h => gK_yes (errF_yes HX.out HY.out h))
          have HND := Lib.hid (fun h => gK_no (errF_no HX.out HY.out h))
          have HTW := Lib.hid (fun h => seg_two HV.out HX.out HY.out h)
          simp only [segBad] at HYD HND HTW
          rw [← HJN.out] at HYD HND HTW
          have h1 := seg_one (l := l) hj0
          obtain ⟨ps, hps⟩ : ∃ ps, ps = segD l jn := ⟨_, rfl⟩
          rw [← hps] at os6 HYD HND HTW h1
          clear hps
          obtain ⟨g6, c6, rfl, -, -, -, -, -, hc6, -⟩ := os6.open_ h1
          obtain ⟨⟨f0, n0, t0⟩, hq0⟩ := some_at ps h1
          have q0 := (hc6 (0 * 3 + 1) (by omega)).trans (piecesV_at hq0).2.1
          have HFS := Lib.hid (show segFst ps = n0 by simp [segFst, hq0])
          simp only [Nat.zero_mul, Nat.zero_add] at q0
          have y1 : (0 : Int) < (ps.length : Int) := by omega
          have hownA := hown9.alloc (.cells #[.int .i64 k, .int .i64 m] 3)
          have szA : w.heap.size + 1 ≤ (w6.alloc (.cells #[.int .i64 k, .int .i64 m] 3)).heap.size := by simp; omega
          have BA := B9.alloc B9.size (.cells #[.int .i64 k, .int .i64 m] 3)
          have bPA := bP9.alloc (.cells #[.int .i64 k, .int .i64 m] 3)
          have HNE := Lib.hid (bPA.ne_own hownA (by decide))
          by_cases h2 : ps.length = 2
          · by_cases hn0 : n0 = o.length
            · have HND := Lib.hid (HND.out (by rw [HFS.out]; simp [h2, hn0]))
              have q2 := (hc6 (1 * 3 + 2) (by omega)).trans (piecesV_at (HTW.out (by rw [HFS.out, hn0]))).2.2
              have hu0 := (dict_text HV.out HY.out).1
              simp only [Nat.one_mul] at q2 hu0
              have HU1 : (u.toList == (⟨#[]⟩ : ByteArray).toList) = false := by rw [str_beq]; exact decide_eq_false (fun h => by rw [h] at hu0; exact absurd hu0 (by decide))
              have HU2 : u.toList.isEmpty = false := by
                rw [ByteArray.toList_eq, List.isEmpty_eq_false_iff]
                intro h
                have : u.size = 0 := by simpa using congrArg List.length h
                omega
              have HU3 : ¬ u.toList = [] := by simpa using HU2
              have y2 : (1 : Int) < (ps.length : Int) := by omega
              have y3 : ((ps.length : Int) != 2) = false := by simp; omega
              have y4 : ((n0 : Int) != (o.length : Int)) = false := by simp; omega
              clear hc6 hq0 h2 hn0
              go_wp2
              go_roundw
              case rel => exact ⟨m + 1, vs, by omega, by go_num, by rw [HND.out]; exact hown9, by rw [HND.out]; exact hrows9, bP9, B9⟩
              case measure => simp [intOf]; omega
            · have HYD := Lib.hid (HYD.out (by rw [HFS.out]; simp [hn0]))
              have y3 : ((ps.length : Int) != 2) = false := by simp; omega
              have y4 : ((n0 : Int) != (o.length : Int)) = true := by simp; omega
              clear hc6 hq0 h2 hn0
              go_wp2_with (at_builtin; refine wpList_append_oneA hownA szA (.tmp 64) (.tmp 68) 41 Tryz.underlying41 infos_int (by omega) (by unfold maxLen; omega) ⟨rfl, rfl, rfl, rfl, rfl, rfl⟩ (by simp) ?_; intro v10 w10 hown10 hg10 hat10)
              have hrs := rows_step (r := [(k : Int), (m : Int)]) hown9 hrows9 sz9 (by simp) (by exact hg10)
              go_roundw
              case rel => exact ⟨m + 1, vs ++ [.slice (some ⟨w6.heap.size, 0, none⟩) 2 2], by omega, by go_num, by rw [HYD.out, ← List.append_assoc, List.length_append]; exact hown10, by rw [HYD.out, ← List.append_assoc]; exact hrs, bPA.grown hg10 HNE.out, below_grown BA hg10 BA.size hownA rfl (by omega)⟩
              case measure => simp [intOf]; omega
          · have HYD := Lib.hid (HYD.out (by simp [h2]))
            have y3 : ((ps.length : Int) != 2) = true := by simp; omega
            clear hc6 hq0 h2
            go_wp2_with (at_builtin; refine wpList_append_oneA hownA szA (.tmp 64) (.tmp 68) 41 Tryz.underlying41 infos_int (by omega) (by unfold maxLen; omega) ⟨rfl, rfl, rfl, rfl, rfl, rfl⟩ (by simp) ?_; intro v10 w10 hown10 hg10 hat10)
            have hrs := rows_step (r := [(k : Int), (m : Int)]) hown9 hrows9 sz9 (by simp) (by exact hg10)
            go_roundw
            case rel => exact ⟨m + 1, vs ++ [.slice (some ⟨w6.heap.size, 0, none⟩) 2 2], by omega, by go_num, by rw [HYD.out, ← List.append_assoc, List.length_append]; exact hown10, by rw [HYD.out, ← List.append_assoc]; exact hrs, bPA.grown hg10 HNE.out, below_grown BA hg10 BA.size hownA rfl (by omega)⟩
            case measure => simp [intOf]; omega
        · obtain rfl : m = l.length := by omega
          go_wp2
          go_roundw
          case rel => exact ⟨k + 1, vs, by omega, by go_num, by rw [gT_next, HOS.out]; exact hown, by rw [gT_next, HOS.out]; exact hrows, bP, hb⟩
          case measure => simp [intOf]; omega
    · obtain rfl : k = l.length := by omega
      go_wp2
      go_ret2
      exact rows_yes rfl hown hrows (by omega) hb
end Go.Proofs.YtekidodfcanjaaaGreatDoor
