/-
  The reference's BoundaryConflicts.
-/
import Derived.Test.YtekidodfcanjaaaGreatDoorGridPl
import Derived.Test.YtekidodfcanjaaaGreatDoorPairS
import Derived.Test.YtekidodfcanjaaaGreatDoorAtS
import Derived.Test.YtekidodfcanjaaaGreatDoorConcatI
import Derived.Test.YtekidodfcanjaaaGreatDoorAtI
import Derived.Test.YtekidodfcanjaaaGreatDoorHeldA
namespace Go.Proofs.YtekidodfcanjaaaGreatDoor
open Go.RowKit
set_option linter.unusedVariables false
set_option linter.unusedSimpArgs false
set_option maxRecDepth 100000

set_option maxHeartbeats 8000000 in
theorem spec_BoundaryConflicts (A : Option Addr) (cap : Nat) (l : List EntD) (w : World) (hr : DictR w w.heap.size A l) (hn : l.length ≤ 1048576) (hs : ShortD l) :
    Calls Tryz.prog 20 #[.agg #[.slice A l.length cap]] w (RowsRes (dictB l) (bndD l) w) := by
  have HS := Lib.hid hs
  clear hs
  obtain ⟨W1, hW1⟩ : ∃ W1, W1 = w.alloc (.cells #[.slice A l.length cap] 31) := ⟨_, rfl⟩
  have hb1 : Below w.heap.size w W1 := by rw [hW1]; exact (Below.refl _ _).alloc (Nat.le_refl _) _
  have bP : Box W1 w.heap.size 31 (.slice A l.length cap) := by rw [hW1]; exact Box.new w _ _
  cases hv : dictB l
  · have HV := Lib.hid hv
    rw [bndD_no hv]
    clear hv
    go_enter Tryz.func20, Tryz.ntmps20
    go_wp2_with fail
    rw [← hW1]
    clear hW1
    refine (spec_l6Good A cap l _ ((hr.below hb1).more hb1.size) hn HS.out).mono ?_
    rw [HV.out]
    rintro e w3 ⟨rfl, b3⟩
    go_wp2
    go_ret2
    exact rows_no rfl (hb1.trans (b3.mono hb1.size))
  rw [bndD_yes hv]
  have HV := Lib.hid hv
  have h40 := dict_len hv
  clear hv
  go_enter Tryz.func20, Tryz.ntmps20
  go_wp2_with fail
  rw [← hW1]
  clear hW1
  refine (spec_l6Good A cap l _ ((hr.below hb1).more hb1.size) hn HS.out).mono ?_
  rw [HV.out]
  rintro e w3 ⟨rfl, b3⟩
  have B3 := hb1.trans (b3.mono hb1.size)
  have bP3 := bP.far b3
  have B4 := B3.alloc B3.size (.cells #[] 26)
  have bP4 := bP3.alloc (.cells #[] 26)
  have own0 : (w3.alloc (.cells #[] 26)).ownsRow (w.heap.size + 1) 26 1 (.slice (some ⟨w3.heap.size, 0, none⟩) 0 0) 0 [] := World.ownsRow_made _ _ _ bP3.lt (by simp) rfl
  clear bP bP3 B3 b3
  go_wp2
  go_loopw [4, 5] (fun v i wr => ∃ (k : Nat) (vs : List Value), k ≤ l.length ∧ i = .int .i64 k ∧ wr.ownsRow (w.heap.size + 1) 26 1 v (gT (bndF l) l.length k).length vs ∧ RowsAt wr (w.heap.size + 1) vs (gT (bndF l) l.length k) ∧ Box wr w.heap.size 31 (.slice A l.length cap) ∧ Below w.heap.size w wr) (fun _ i _ => l.length - (intOf i).toNat)
  case atStart => exact ⟨0, [], Nat.zero_le _, rfl, own0, RowsAt.nil _ _, bP4, B4⟩
  case round =>
    obtain ⟨k, vs, hk, rfl, hown, hrows, bP, hb⟩ := hrel
    have cP := bP.cell
    by_cases hlt : k < l.length
    · obtain ⟨⟨o, t⟩, hx⟩ := some_at l hlt
      have hol := dict_out HV.out hx
      simp only at hol
      have HX := Lib.hid hx
      have htl := gT_len (bndF l) l.length k
      have htm : k * l.length ≤ 40 * 40 := Nat.mul_le_mul (by omega) h40
      clear hx
      generalize hos : gT (bndF l) l.length k = os at *
      have HOS := Lib.hid hos
      clear hos
      go_wp2
      go_loopw [4, 6] (fun v j wr => ∃ (m : Nat) (vs : List Value), m ≤ l.length ∧ j = .int .i64 m ∧ wr.ownsRow (w.heap.size + 1) 26 1 v (os ++ gK (bndF l) k m).length vs ∧ RowsAt wr (w.heap.size + 1) vs (os ++ gK (bndF l) k m) ∧ Box wr w.heap.size 31 (.slice A l.length cap) ∧ Below w.heap.size w wr) (fun _ j _ => l.length - (intOf j).toNat)
      case atStart => exact ⟨0, vs, Nat.zero_le _, rfl, by rw [gK, List.append_nil]; exact hown, by rw [gK, List.append_nil]; exact hrows, bP, hb⟩
      case round =>
        obtain ⟨m, vs, hm, rfl, hown, hrows, bP, hb⟩ := hrel
        clear cP
        have cP := bP.cell
        have hpl := gK_len (bndF l) k m
        have hoz : (os ++ gK (bndF l) k m).length ≤ 1700 := by rw [List.length_append]; omega
        by_cases hmt : m < l.length
        · obtain ⟨b, off, rfl, hb0, hc⟩ := (hr.below hb) (by omega)
          obtain ⟨ao, co, c1, -, r1, hco, hcom⟩ := DictR.at_ hc HX.out
          obtain ⟨⟨p, u⟩, hy⟩ := some_at l hmt
          obtain ⟨ap, cp, d1, -, r2, hcp, hcm⟩ := DictR.at_ hc hy
          have hpl2 := dict_out HV.out hy
          simp only at hpl2
          have i0 : (0 : Int) ≤ (k : Int) := by omega
          have i1 : (k : Int) < (l.length : Int) := by omega
          have i2 : (0 : Int) ≤ (m : Int) := by omega
          have i3 : (m : Int) < (l.length : Int) := by omega
          have hp1 : (⟨w.heap.size, 0, none⟩ : Addr).block < wr.heap.size := bP.lt
          have hp2 : (⟨b, off + m * 2, none⟩ : Addr).block < wr.heap.size := by have := hb.size; show b < _; omega
          have hp3 : (⟨b, off + k * 2, none⟩ : Addr).block < wr.heap.size := by have := hb.size; show b < _; omega
          obtain ⟨jn, hjn⟩ : ∃ jn, jn = o ++ p := ⟨_, rfl⟩
          have hjl : jn.length ≤ 12 := by rw [hjn, List.length_append]; omega
          have HJ := Lib.hid (show ∀ W, Below wr.heap.size wr W → Calls Tryz.prog 52 #[.slice ao o.length co, .slice ap p.length cp] W fun e w' => ∃ v, e = .returned v ∧ Own w' W.heap.size w'.heap.size 3 1 v jn.length (ints jn) ∧ Below W.heap.size W w' from fun W hW => by
            rw [hjn]
            exact spec_l22Join ao ap co cp o p W (((r1.more hb.size).below hW).more hW.size) (((r2.more hb.size).below hW).more hW.size) (by omega) (by omega))
          have HRD := Lib.hid (show ∀ W, Below wr.heap.size wr W → DictR W W.heap.size (some ⟨b, off, none⟩) l from fun W hW => (((hr.below hb).more hb.size).below hW).more hW.size)
          have HY := Lib.hid hy
          have HJN := Lib.hid hjn
          clear hy hc r1 r2 hjn
          go_wp2
          have S0 : wr.cell? ⟨w.heap.size, 0, none⟩ = some (.slice (some ⟨b, off, none⟩) l.length cap) ∧ wr.cell? ⟨b, off + k * 2, none⟩ = some (.slice ao o.length co) ∧ wr.cell? ⟨b, off + m * 2, none⟩ = some (.slice ap p.length cp) ∧ Below wr.heap.size wr wr := ⟨by assumption, by assumption, by assumption, Below.refl _ _⟩
          first | refine wp_region_noPanic ?_ | skip
          refine wp_region_held_drew (S := fun w' => w'.cell? ⟨w.heap.size, 0, none⟩ = some (.slice (some ⟨b, off, none⟩) l.length cap) ∧ w'.cell? ⟨b, off + k * 2, none⟩ = some (.slice ao o.length co) ∧ w'.cell? ⟨b, off + m * 2, none⟩ = some (.slice ap p.length cp) ∧ Below wr.heap.size wr w') (by kernel_rfl) (by first | exact S0 | exact held3_drew S0 | assumption | exact held3_step hp1 hp3 hp2 (by assumption) (by assumption) | exact held3_drew (by assumption)) (fun hHeld => ?_)
          (refine wpAnyH_take (i := 0) (v := ?_) rfl (by kernel_rfl) (by kernel_rfl) (by kernel_rfl) (fun _ _ _ h => h) (Or.inl ⟨by rfl, ?_⟩) (by assumption) ?_; rotate_left; focus (intro w hSw; (try dsimp only at hSw); go_simp; try with_reducible rfl))
          (try simp only [List.getElem_toArray, List.getElem_cons_succ, List.getElem_cons_zero, Act.put, List.setIfInBounds_toArray, List.set_cons_zero, List.set_cons_succ])
          (refine wpAnyH_take (i := 1) (v := ?_) rfl (by kernel_rfl) (by kernel_rfl) (by kernel_rfl) (fun _ _ _ h => h) (Or.inl ⟨by rfl, ?_⟩) (by assumption) ?_; rotate_left; focus (intro w hSw; (try dsimp only at hSw); go_simp; try with_reducible rfl))
          (try simp only [List.getElem_toArray, List.getElem_cons_succ, List.getElem_cons_zero, Act.put, List.setIfInBounds_toArray, List.set_cons_zero, List.set_cons_succ])
          (refine wpAnyH_take (i := 2) (v := ?_) rfl (by kernel_rfl) (by kernel_rfl) (by kernel_rfl) (fun _ _ _ h => h) (Or.inl ⟨by rfl, ?_⟩) (by assumption) ?_; rotate_left; focus (intro w hSw; (try dsimp only at hSw); go_simp; try with_reducible rfl))
          (try simp only [List.getElem_toArray, List.getElem_cons_succ, List.getElem_cons_zero, Act.put, List.setIfInBounds_toArray, List.set_cons_zero, List.set_cons_succ])
          (refine wpAnyH_take (i := 3) (v := ?_) rfl (by kernel_rfl) (by kernel_rfl) (by kernel_rfl) (fun _ _ _ h => h) (Or.inl ⟨by rfl, ?_⟩) (by assumption) ?_; rotate_left; focus (intro w hSw; (try dsimp only at hSw); go_simp; try with_reducible rfl))
          (try simp only [List.getElem_toArray, List.getElem_cons_succ, List.getElem_cons_zero, Act.put, List.setIfInBounds_toArray, List.set_cons_zero, List.set_cons_succ])
          (refine wpAnyH_take (i := 4) (v := ?_) rfl (by kernel_rfl) (by kernel_rfl) (by kernel_rfl) (fun _ _ _ h => h) (Or.inl ⟨by rfl, ?_⟩) (by assumption) ?_; rotate_left; focus (intro w hSw; (try dsimp only at hSw); go_simp; try with_reducible rfl))
          (try simp only [List.getElem_toArray, List.getElem_cons_succ, List.getElem_cons_zero, Act.put, List.setIfInBounds_toArray, List.set_cons_zero, List.set_cons_succ])
          (refine wpAnyH_take (i := 5) (v := ?_) rfl (by kernel_rfl) (by kernel_rfl) (by kernel_rfl) (fun _ _ _ h => h) (Or.inl ⟨by rfl, ?_⟩) (by assumption) ?_; rotate_left; focus (intro w hSw; (try dsimp only at hSw); go_simp; try with_reducible rfl))
          (try simp only [List.getElem_toArray, List.getElem_cons_succ, List.getElem_cons_zero, Act.put, List.setIfInBounds_toArray, List.set_cons_zero, List.set_cons_succ])
          (refine wpAnyH_take (i := 6) (v := ?_) rfl (by kernel_rfl) (by kernel_rfl) (by kernel_rfl) (fun _ _ _ h => h) (Or.inl ⟨by rfl, ?_⟩) (by assumption) ?_; rotate_left; focus (intro w hSw; (try dsimp only at hSw); go_simp; try with_reducible rfl))
          (try simp only [List.getElem_toArray, List.getElem_cons_succ, List.getElem_cons_zero, Act.put, List.setIfInBounds_toArray, List.set_cons_zero, List.set_cons_succ])
          (refine wpAnyH_take (i := 7) (v := ?_) rfl (by kernel_rfl) (by kernel_rfl) (by kernel_rfl) (fun _ _ _ h => h) (Or.inl ⟨by rfl, ?_⟩) (by assumption) ?_; rotate_left; focus (intro w hSw; (try dsimp only at hSw); go_simp; try with_reducible rfl))
          (try simp only [List.getElem_toArray, List.getElem_cons_succ, List.getElem_cons_zero, Act.put, List.setIfInBounds_toArray, List.set_cons_zero, List.set_cons_succ])
          (refine wpAnyH_take (i := 8) (v := ?_) rfl (by kernel_rfl) (by kernel_rfl) (by kernel_rfl) (fun _ _ _ h => h) (Or.inl ⟨by rfl, ?_⟩) (by assumption) ?_; rotate_left; focus (intro w hSw; (try dsimp only at hSw); go_simp; try with_reducible rfl))
          (try simp only [List.getElem_toArray, List.getElem_cons_succ, List.getElem_cons_zero, Act.put, List.setIfInBounds_toArray, List.set_cons_zero, List.set_cons_succ])
          (refine wpAnyH_take (i := 9) (v := ?_) rfl (by kernel_rfl) (by kernel_rfl) (by kernel_rfl) (fun _ _ _ h => h) (Or.inl ⟨by rfl, ?_⟩) (by assumption) ?_; rotate_left; focus (intro w hSw; (try dsimp only at hSw); go_simp; try with_reducible rfl))
          (try simp only [List.getElem_toArray, List.getElem_cons_succ, List.getElem_cons_zero, Act.put, List.setIfInBounds_toArray, List.set_cons_zero, List.set_cons_succ])
          (refine wpAnyH_take (i := 10) (v := ?_) rfl (by kernel_rfl) (by kernel_rfl) (by kernel_rfl) (fun _ _ _ h => h) (Or.inl ⟨by rfl, ?_⟩) (by assumption) ?_; rotate_left; focus (intro w hSw; (try dsimp only at hSw); go_simp; try with_reducible rfl))
          (try simp only [List.getElem_toArray, List.getElem_cons_succ, List.getElem_cons_zero, Act.put, List.setIfInBounds_toArray, List.set_cons_zero, List.set_cons_succ])
          (refine wpAnyH_take (i := 11) (v := ?_) rfl (by kernel_rfl) (by kernel_rfl) (by kernel_rfl) (fun _ _ _ h => h) (Or.inl ⟨by rfl, ?_⟩) (by assumption) ?_; rotate_left; focus (intro w hSw; (try dsimp only at hSw); go_simp; try with_reducible rfl))
          (try simp only [List.getElem_toArray, List.getElem_cons_succ, List.getElem_cons_zero, Act.put, List.setIfInBounds_toArray, List.set_cons_zero, List.set_cons_succ])
          (refine wpAnyH_take (i := 12) (v := ?_) rfl (by kernel_rfl) (by kernel_rfl) (by kernel_rfl) (fun _ _ _ h => h) (Or.inl ⟨by rfl, ?_⟩) (by assumption) ?_; rotate_left; focus (intro w hSw; (try dsimp only at hSw); go_simp; try with_reducible rfl))
          (try simp only [List.getElem_toArray, List.getElem_cons_succ, List.getElem_cons_zero, Act.put, List.setIfInBounds_toArray, List.set_cons_zero, List.set_cons_succ])
          refine wpAnyH_ready (rs := [13]) (by kernel_rfl) (by simp) ?_
          refine AllReadyH.cons rfl (fun K hK => ?_) AllReadyH.nil
          go_simp
          with_reducible refine (HJ.out _ (held3_below (by assumption))).mono ?_; rintro e w5 ⟨vj, rfl, oj, bj⟩; obtain ⟨aj, cj, rfl, rj, -, -⟩ := oj.slice; go_wp2_with fail
          refine hK.out _ _ (by first | exact S0 | exact held3_drew S0 | assumption | exact held3_step hp1 hp3 hp2 (by assumption) (by assumption) | exact held3_drew (by assumption)) (fun hHeld => ?_)
          clear hK K
          (try simp only [List.getElem_toArray, List.getElem_cons_succ, List.getElem_cons_zero, Act.put, List.setIfInBounds_toArray, List.set_cons_zero, List.set_cons_succ])
          refine wpAnyH_ready (rs := [14]) (by kernel_rfl) (by simp) ?_
          refine AllReadyH.cons rfl (fun K hK => ?_) AllReadyH.nil
          go_simp
          with_reducible refine (spec_l6At (some ⟨b, off, none⟩) aj cap cj l jn _ (HRD.out _ (held3_below (by assumption))) HV.out (by exact rj)).mono ?_; rintro e w6 ⟨rfl, b6⟩; go_wp2_with fail
          refine hK.out _ _ (by first | exact S0 | exact held3_drew S0 | assumption | exact held3_step hp1 hp3 hp2 (by assumption) (by assumption) | exact held3_drew (by assumption)) (fun hHeld => ?_)
          clear hK K
          (try simp only [List.getElem_toArray, List.getElem_cons_succ, List.getElem_cons_zero, Act.put, List.setIfInBounds_toArray, List.set_cons_zero, List.set_cons_succ])
          (refine wpAnyH_take (i := 15) (v := ?_) rfl (by kernel_rfl) (by kernel_rfl) (by kernel_rfl) (fun _ _ _ h => h) (Or.inl ⟨by rfl, ?_⟩) (by assumption) ?_; rotate_left; focus (intro w hSw; (try dsimp only at hSw); go_simp; try with_reducible rfl))
          (try simp only [List.getElem_toArray, List.getElem_cons_succ, List.getElem_cons_zero, Act.put, List.setIfInBounds_toArray, List.set_cons_zero, List.set_cons_succ])
          refine wpAnyH_done (by kernel_rfl) ?_ _
          first | refine NoPanic.normal ?_ | skip
          have SZ : w6.cell? ⟨w.heap.size, 0, none⟩ = some (.slice (some ⟨b, off, none⟩) l.length cap) ∧ w6.cell? ⟨b, off + k * 2, none⟩ = some (.slice ao o.length co) ∧ w6.cell? ⟨b, off + m * 2, none⟩ = some (.slice ap p.length cp) ∧ Below wr.heap.size wr w6 := by assumption
          have b9 := held3_below SZ
          have B9 := hb.trans (b9.mono hb.size)
          have bP9 := bP.far b9
          have hown9 := row_below hown b9
          have hrows9 := hrows.below b9
          have sz9 : w.heap.size + 1 ≤ w6.heap.size := bP9.lt
          clear S0 SZ hHeld hown hrows cP c1 d1
          have HYD := Lib.hid (fun h => gK_yes (bndF_yes HX.out HY.out h))
          have HND := Lib.hid (fun h => gK_no (bndF_no HX.out HY.out h))
          simp only at HYD HND
          rw [← HJN.out] at HYD HND
          obtain ⟨q, hq⟩ : ∃ q, q = findD l jn := ⟨_, rfl⟩
          rw [← hq] at HYD HND
          rw [← hq]
          clear hq
          by_cases hf : 0 ≤ q
          · have HYD := Lib.hid (HYD.out hf)
            have hownA := hown9.alloc (.cells #[.int .i64 k, .int .i64 m, .int .i64 q] 3)
            have szA : w.heap.size + 1 ≤ (w6.alloc (.cells #[.int .i64 k, .int .i64 m, .int .i64 q] 3)).heap.size := by simp; omega
            have BA := B9.alloc B9.size (.cells #[.int .i64 k, .int .i64 m, .int .i64 q] 3)
            have bPA := bP9.alloc (.cells #[.int .i64 k, .int .i64 m, .int .i64 q] 3)
            have HNE := Lib.hid (bPA.ne_own hownA (by decide))
            go_wp2_with (at_builtin; refine wpList_append_oneA hownA szA (.tmp 43) (.tmp 48) 41 Tryz.underlying41 infos_int (by omega) (by unfold maxLen; omega) ⟨rfl, rfl, rfl, rfl, rfl, rfl⟩ (by simp) ?_; intro v10 w10 hown10 hg10 hat10)
            have hrs := rows_step (r := [(k : Int), (m : Int), q]) hown9 hrows9 sz9 (by simp) (by exact hg10)
            go_roundw
            case rel => exact ⟨m + 1, vs ++ [.slice (some ⟨w6.heap.size, 0, none⟩) 3 3], by omega, by go_num, by rw [HYD.out, ← List.append_assoc, List.length_append]; exact hown10, by rw [HYD.out, ← List.append_assoc]; exact hrs, bPA.grown hg10 HNE.out, below_grown BA hg10 BA.size hownA rfl (by omega)⟩
            case measure => simp [intOf]; omega
          · have HND := Lib.hid (HND.out hf)
            go_wp2
            go_roundw
            case rel => exact ⟨m + 1, vs, by omega, by go_num, by rw [HND.out]; exact hown9, by rw [HND.out]; exact hrows9, bP9, B9⟩
            case measure => simp [intOf]; omega
        · obtain rfl : m = l.length := by omega
          go_wp2
          go_roundw
          case rel => exact ⟨k + 1, vs, by omega, by go_num, by rw [gT_next, HOS.out]; exact hown, by rw [gT_next, HOS.out]; exact hrows, bP, hb⟩
          case measure => simp [intOf]; omega
    · obtain rfl : k = l.length := by omega
      go_wp2
      go_ret2
      exact rows_yes rfl hown hrows (by omega) hb
end Go.Proofs.YtekidodfcanjaaaGreatDoor
namespace Go.Proofs.YtekidodfcanjaaaGreatDoor
open Go.RowKit
set_option linter.unusedVariables false
set_option linter.unusedSimpArgs false
set_option maxRecDepth 100000

set_option maxHeartbeats 8000000 in
theorem impl_BoundaryConflicts (A : Option Addr) (cap : Nat) (l : List EntD) (w : World) (hr : DictR w w.heap.size A l) (hn : l.length ≤ 1048576) (hs : ShortD l) (hmx : MaxOk w) :
    Calls Tryz.prog 19 #[.agg #[.slice A l.length cap]] w (RowsRes (dictB l) (bndD l) w) := by
  have HS := Lib.hid hs
  have HM := Lib.hid hmx
  clear hs hmx
  obtain ⟨W1, hW1⟩ : ∃ W1, W1 = w.alloc (.cells #[.slice A l.length cap] 31) := ⟨_, rfl⟩
  have hb1 : Below w.heap.size w W1 := by rw [hW1]; exact (Below.refl _ _).alloc (Nat.le_refl _) _
  have bP : Box W1 w.heap.size 31 (.slice A l.length cap) := by rw [hW1]; exact Box.new w _ _
  cases hv : dictB l
  · have HV := Lib.hid hv
    rw [bndD_no hv]
    clear hv
    go_enter Tryz.func19, Tryz.ntmps19
    go_wp2_with fail
    rw [← hW1]
    clear hW1
    refine (impl_IsValidDictionary A cap l _ ((hr.below hb1).more hb1.size) hn HS.out (HM.out.below hb1)).mono ?_
    rw [HV.out]
    rintro e w3 ⟨rfl, b3⟩
    go_wp2
    go_ret2
    exact rows_no rfl (hb1.trans (b3.mono hb1.size))
  rw [bndD_yes hv]
  have HV := Lib.hid hv
  have h40 := dict_len hv
  clear hv
  go_enter Tryz.func19, Tryz.ntmps19
  go_wp2_with fail
  rw [← hW1]
  clear hW1
  refine (impl_IsValidDictionary A cap l _ ((hr.below hb1).more hb1.size) hn HS.out (HM.out.below hb1)).mono ?_
  rw [HV.out]
  rintro e w3 ⟨rfl, b3⟩
  have B3 := hb1.trans (b3.mono hb1.size)
  have bP3 := bP.far b3
  have B4 := B3.alloc B3.size (.cells #[] 26)
  have bP4 := bP3.alloc (.cells #[] 26)
  have own0 : (w3.alloc (.cells #[] 26)).ownsRow (w.heap.size + 1) 26 1 (.slice (some ⟨w3.heap.size, 0, none⟩) 0 0) 0 [] := World.ownsRow_made _ _ _ bP3.lt (by simp) rfl
  have cP4 := bP4.cell
  clear bP bP3 B3 b3
  go_wp2
  go_loopw [4, 17] (fun v i wr => ∃ (k : Nat) (vs : List Value), k ≤ l.length ∧ i = .int .i64 k ∧ wr.ownsRow (w.heap.size + 1) 26 1 v (gT (bndF l) l.length k).length vs ∧ RowsAt wr (w.heap.size + 1) vs (gT (bndF l) l.length k) ∧ Box wr w.heap.size 31 (.slice A l.length cap) ∧ Below w.heap.size w wr) (fun _ i _ => l.length - (intOf i).toNat)
  case atStart => exact ⟨0, [], Nat.zero_le _, rfl, own0, RowsAt.nil _ _, bP4, B4⟩
  case round =>
    obtain ⟨k, vs, hk, rfl, hown, hrows, bP, hb⟩ := hrel
    clear cP4
    have cP := bP.cell
    by_cases hlt : k < l.length
    · obtain ⟨b, off, hA, hb0, hc0⟩ := hr (by omega)
      subst hA
      obtain ⟨⟨o, t⟩, hx⟩ := some_at l hlt
      obtain ⟨ao, co, c1', c2', r1, hco, hcom⟩ := DictR.at_ hc0 hx
      have c1 := (hb.cell (p := ⟨b, off + k * 2, none⟩) hb0).trans c1'
      have c2 := (hb.cell (p := ⟨b, off + k * 2 + 1, none⟩) hb0).trans c2'
      have hol := dict_out HV.out hx
      simp only at hol
      have HX := Lib.hid hx
      have htl := gT_len (bndF l) l.length k
      have htm : k * l.length ≤ 40 * 40 := Nat.mul_le_mul (by omega) h40
      have RO := Lib.hid (show ∀ W, Below w.heap.size w W → Reads W W.heap.size 1 ao o.length (ints o) from fun W hW => (r1.below hW).more hW.size)
      have i0 : (0 : Int) ≤ (k : Int) := by omega
      have i1 : (k : Int) < (l.length : Int) := by omega
      have ba := (Below.refl wr.heap.size wr).alloc (Nat.le_refl _) (.cells #[.slice ao o.length co, .string t] 50)
      have ta := Two.new wr 50 (.slice ao o.length co) (.string t)
      obtain ⟨g, hg⟩ : ∃ g, g = wr.heap.size := ⟨_, rfl⟩
      clear hx c1' c2' r1
      generalize hos : gT (bndF l) l.length k = os at *
      have HOS := Lib.hid hos
      clear hos
      go_upto_region 7 with (fail)
      rw [← hg] at ta
      generalize hX : wr.alloc (.cells #[.slice ao o.length co, .string t] 50) = xr at *
      rw [← hg]
      clear hX
      have hownx := row_below hown ba
      have hrowsx := hrows.below ba
      have bPx := bP.far ba
      have hbx := hb.trans (ba.mono hb.size)
      clear cP c1 c2 hg ba hown hrows bP hb
      have cP := bPx.cell
      go_wp2
      go_loopw [4, 25] (fun v j wr => ∃ (m : Nat) (vs : List Value), m ≤ l.length ∧ j = .int .i64 m ∧ wr.ownsRow (w.heap.size + 1) 26 1 v (os ++ gK (bndF l) k m).length vs ∧ RowsAt wr (w.heap.size + 1) vs (os ++ gK (bndF l) k m) ∧ Box wr w.heap.size 31 (.slice (some ⟨b, off, none⟩) l.length cap) ∧ Two wr g 50 (.slice ao o.length co) (.string t) ∧ Below w.heap.size w wr) (fun _ j _ => l.length - (intOf j).toNat)
      case atStart => exact ⟨0, vs, Nat.zero_le _, rfl, by rw [gK, List.append_nil]; exact hownx, by rw [gK, List.append_nil]; exact hrowsx, bPx, ta, hbx⟩
      case round =>
        obtain ⟨m, vs, hm, rfl, hown, hrows, bP, ta, hb⟩ := hrel
        clear cP
        have hpl := gK_len (bndF l) k m
        have hoz : (os ++ gK (bndF l) k m).length ≤ 1700 := by rw [List.length_append]; omega
        by_cases hmt : m < l.length
        · obtain ⟨⟨p, u⟩, hy⟩ := some_at l hmt
          obtain ⟨ap, cp, d1', d2', r2, hcp, hcm⟩ := DictR.at_ hc0 hy
          have d1 := (hb.cell (p := ⟨b, off + m * 2, none⟩) hb0).trans d1'
          have d2 := (hb.cell (p := ⟨b, off + m * 2 + 1, none⟩) hb0).trans d2'
          have hpl2 := dict_out HV.out hy
          simp only at hpl2
          have i2 : (0 : Int) ≤ (m : Int) := by omega
          have i3 : (m : Int) < (l.length : Int) := by omega
          have RP := Lib.hid (show ∀ W, Below w.heap.size w W → Reads W W.heap.size 1 ap p.length (ints p) from fun W hW => (r2.below hW).more hW.size)
          have HY := Lib.hid hy
          have bb := (Below.refl wr.heap.size wr).alloc (Nat.le_refl _) (.cells #[.slice ap p.length cp, .string u] 50)
          have tb := Two.new wr 50 (.slice ap p.length cp) (.string u)
          clear hy r2 d1' d2'
          go_upto_region 10 with (fail)
          generalize hX : wr.alloc (.cells #[.slice ap p.length cp, .string u] 50) = xr at *
          clear hX
          have hownx := row_below hown bb
          have hrowsx := hrows.below bb
          have bPx := bP.far bb
          have tax := ta.far bb
          have hbx := hb.trans (bb.mono hb.size)
          have e0 := tb.cell0
          have e1 := tax.cell0
          clear d1 d2
          obtain ⟨jn, hjn⟩ : ∃ jn, jn = o ++ p := ⟨_, rfl⟩
          have hjl : jn.length ≤ 12 := by rw [hjn, List.length_append]; omega
          have hg2 : wr.heap.size < xr.heap.size := tb.lt
          have hp1 : (⟨w.heap.size, 0, none⟩ : Addr).block < xr.heap.size := bPx.lt
          have hp2 : (⟨g, 0, none⟩ : Addr).block < xr.heap.size := tax.lt
          have hp3 : (⟨wr.heap.size, 0, none⟩ : Addr).block < xr.heap.size := hg2
          have e2 := bPx.cell
          have HC := Lib.hid (show Calls Tryz.prog 50 #[.slice (some ⟨xr.heap.size, 0, none⟩) 2 2] (xr.alloc (.cells #[.slice ao o.length co, .slice ap p.length cp] 26)).drew fun e w' => ∃ v, e = .returned v ∧ Own w' xr.heap.size w'.heap.size 3 1 v jn.length (ints jn) ∧ Below xr.heap.size xr w' from by
            have bq : Below xr.heap.size xr (xr.alloc (.cells #[.slice ao o.length co, .slice ap p.length cp] 26)).drew := ((Below.refl _ _).alloc (Nat.le_refl _) _).drew
            refine (impl_Concat ao ap co cp xr.heap.size o p _ (show Two (xr.alloc (.cells #[.slice ao o.length co, .slice ap p.length cp] 26)).drew xr.heap.size _ _ _ from Two.new xr _ _ _) ((RO.out _ (hbx.trans (bq.mono hbx.size)))) ((RP.out _ (hbx.trans (bq.mono hbx.size)))) (by omega) (by omega) (by omega)).mono ?_
            rintro e w' ⟨v, rfl, ov, bv⟩
            rw [← hjn] at ov
            refine ⟨v, rfl, ⟨ov.1.base bq.size, ov.2⟩, bq.trans (bv.mono bq.size)⟩)
          have HRD := Lib.hid (show ∀ W, Below xr.heap.size xr W → DictR W W.heap.size (some ⟨b, off, none⟩) l from fun W hW => (hr.below (hbx.trans (hW.mono hbx.size))).more (by have := hW.size; have := hbx.size; omega))
          have HJN := Lib.hid hjn
          clear hjn
          go_wp2
          have S0 : xr.cell? ⟨w.heap.size, 0, none⟩ = some (.slice (some ⟨b, off, none⟩) l.length cap) ∧ xr.cell? ⟨g, 0, none⟩ = some (.slice ao o.length co) ∧ xr.cell? ⟨wr.heap.size, 0, none⟩ = some (.slice ap p.length cp) ∧ Below xr.heap.size xr xr := ⟨by assumption, by assumption, by assumption, Below.refl _ _⟩
          first | refine wp_region_noPanic ?_ | skip
          refine wp_region_held_drew (S := fun w' => w'.cell? ⟨w.heap.size, 0, none⟩ = some (.slice (some ⟨b, off, none⟩) l.length cap) ∧ w'.cell? ⟨g, 0, none⟩ = some (.slice ao o.length co) ∧ w'.cell? ⟨wr.heap.size, 0, none⟩ = some (.slice ap p.length cp) ∧ Below xr.heap.size xr w') (by kernel_rfl) (by first | exact S0 | exact held3_drew S0 | assumption | exact held3_step hp1 hp2 hp3 S0 (by assumption) | exact held3_step hp1 hp2 hp3 (by assumption) (by assumption) | exact held3_drew (by assumption) | exact held3_drew (held3_alloc hp1 hp2 hp3 S0 _) | exact held3_alloc hp1 hp2 hp3 (by assumption) _ | exact held3_alloc hp1 hp2 hp3 (held3_drew (by assumption)) _) (fun hHeld => ?_)
          (refine wpAnyH_take (i := 0) (v := ?_) rfl (by kernel_rfl) (by kernel_rfl) (by kernel_rfl) (fun _ _ _ h => h) (Or.inl ⟨by rfl, ?_⟩) (by assumption) ?_; rotate_left; focus (intro w hSw; (try dsimp only at hSw); go_simp; try with_reducible rfl))
          (try simp only [List.getElem_toArray, List.getElem_cons_succ, List.getElem_cons_zero, Act.put, List.setIfInBounds_toArray, List.set_cons_zero, List.set_cons_succ])
          (refine wpAnyH_take (i := 1) (v := ?_) rfl (by kernel_rfl) (by kernel_rfl) (by kernel_rfl) (fun _ _ _ h => h) (Or.inl ⟨by rfl, ?_⟩) (by assumption) ?_; rotate_left; focus (intro w hSw; (try dsimp only at hSw); go_simp; try with_reducible rfl))
          (try simp only [List.getElem_toArray, List.getElem_cons_succ, List.getElem_cons_zero, Act.put, List.setIfInBounds_toArray, List.set_cons_zero, List.set_cons_succ])
          (refine wpAnyH_take (i := 2) (v := ?_) rfl (by kernel_rfl) (by kernel_rfl) (by kernel_rfl) (fun _ _ _ h => h) (Or.inl ⟨by rfl, ?_⟩) (by assumption) ?_; rotate_left; focus (intro w hSw; (try dsimp only at hSw); go_simp; try with_reducible rfl))
          (try simp only [List.getElem_toArray, List.getElem_cons_succ, List.getElem_cons_zero, Act.put, List.setIfInBounds_toArray, List.set_cons_zero, List.set_cons_succ])
          (refine wpAnyH_take (i := 3) (v := ?_) rfl (by kernel_rfl) (by kernel_rfl) (by kernel_rfl) (fun _ _ _ h => h) (Or.inl ⟨by rfl, ?_⟩) (by assumption) ?_; rotate_left; focus (intro w hSw; (try dsimp only at hSw); go_simp; try with_reducible rfl))
          (try simp only [List.getElem_toArray, List.getElem_cons_succ, List.getElem_cons_zero, Act.put, List.setIfInBounds_toArray, List.set_cons_zero, List.set_cons_succ])
          (refine wpAnyH_take (i := 4) (v := ?_) rfl (by kernel_rfl) (by kernel_rfl) (by kernel_rfl) (fun _ _ _ h => h) (Or.inl ⟨by rfl, ?_⟩) (by assumption) ?_; rotate_left; focus (intro w hSw; (try dsimp only at hSw); go_simp; try with_reducible rfl))
          (try simp only [List.getElem_toArray, List.getElem_cons_succ, List.getElem_cons_zero, Act.put, List.setIfInBounds_toArray, List.set_cons_zero, List.set_cons_succ])
          refine wpAnyH_ready (rs := [5]) (by kernel_rfl) (by simp) ?_
          refine AllReadyH.cons rfl (fun K hK => ?_) AllReadyH.nil
          go_simp
          skip
          refine hK.out _ _ (by first | exact S0 | exact held3_drew S0 | assumption | exact held3_step hp1 hp2 hp3 S0 (by assumption) | exact held3_step hp1 hp2 hp3 (by assumption) (by assumption) | exact held3_drew (by assumption) | exact held3_drew (held3_alloc hp1 hp2 hp3 S0 _) | exact held3_alloc hp1 hp2 hp3 (by assumption) _ | exact held3_alloc hp1 hp2 hp3 (held3_drew (by assumption)) _) (fun hHeld => ?_)
          clear hK K
          (try simp only [List.getElem_toArray, List.getElem_cons_succ, List.getElem_cons_zero, Act.put, List.setIfInBounds_toArray, List.set_cons_zero, List.set_cons_succ])
          refine wpAnyH_ready (rs := [6]) (by kernel_rfl) (by simp) ?_
          refine AllReadyH.cons rfl (fun K hK => ?_) AllReadyH.nil
          go_simp
          with_reducible refine HC.out.mono ?_; rintro e w5 ⟨vj, rfl, oj, bj⟩; obtain ⟨aj, cj, rfl, rj, -, -⟩ := oj.slice; have sj : Below xr.heap.size xr w5 := bj; go_wp2_with fail
          refine hK.out _ _ (by first | exact S0 | exact held3_drew S0 | assumption | exact held3_step hp1 hp2 hp3 S0 (by assumption) | exact held3_step hp1 hp2 hp3 (by assumption) (by assumption) | exact held3_drew (by assumption) | exact held3_drew (held3_alloc hp1 hp2 hp3 S0 _) | exact held3_alloc hp1 hp2 hp3 (by assumption) _ | exact held3_alloc hp1 hp2 hp3 (held3_drew (by assumption)) _) (fun hHeld => ?_)
          clear hK K
          (try simp only [List.getElem_toArray, List.getElem_cons_succ, List.getElem_cons_zero, Act.put, List.setIfInBounds_toArray, List.set_cons_zero, List.set_cons_succ])
          refine wpAnyH_ready (rs := [7]) (by kernel_rfl) (by simp) ?_
          refine AllReadyH.cons rfl (fun K hK => ?_) AllReadyH.nil
          go_simp
          with_reducible refine (impl_find (some ⟨b, off, none⟩) aj cap cj l jn _ (HRD.out _ (held3_below (by assumption))) HV.out (by exact rj) (by omega)).mono ?_; rintro e w6 ⟨rfl, b6⟩; go_wp2_with fail
          refine hK.out _ _ (by first | exact S0 | exact held3_drew S0 | assumption | exact held3_step hp1 hp2 hp3 S0 (by assumption) | exact held3_step hp1 hp2 hp3 (by assumption) (by assumption) | exact held3_drew (by assumption) | exact held3_drew (held3_alloc hp1 hp2 hp3 S0 _) | exact held3_alloc hp1 hp2 hp3 (by assumption) _ | exact held3_alloc hp1 hp2 hp3 (held3_drew (by assumption)) _) (fun hHeld => ?_)
          clear hK K
          (try simp only [List.getElem_toArray, List.getElem_cons_succ, List.getElem_cons_zero, Act.put, List.setIfInBounds_toArray, List.set_cons_zero, List.set_cons_succ])
          (refine wpAnyH_take (i := 8) (v := ?_) rfl (by kernel_rfl) (by kernel_rfl) (by kernel_rfl) (fun _ _ _ h => h) (Or.inl ⟨by rfl, ?_⟩) (by assumption) ?_; rotate_left; focus (intro w hSw; (try dsimp only at hSw); go_simp; try with_reducible rfl))
          (try simp only [List.getElem_toArray, List.getElem_cons_succ, List.getElem_cons_zero, Act.put, List.setIfInBounds_toArray, List.set_cons_zero, List.set_cons_succ])
          refine wpAnyH_done (by kernel_rfl) ?_ _
          first | refine NoPanic.normal ?_ | skip
          have SZ : w6.cell? ⟨w.heap.size, 0, none⟩ = some (.slice (some ⟨b, off, none⟩) l.length cap) ∧ w6.cell? ⟨g, 0, none⟩ = some (.slice ao o.length co) ∧ w6.cell? ⟨wr.heap.size, 0, none⟩ = some (.slice ap p.length cp) ∧ Below xr.heap.size xr w6 := by assumption
          have b9 := held3_below SZ
          have B9 := hbx.trans (b9.mono hbx.size)
          have bP9 := bPx.far b9
          have ta9 := tax.far b9
          have hown9 := row_below hownx b9
          have hrows9 := hrowsx.below b9
          have sz9 : w.heap.size + 1 ≤ w6.heap.size := bP9.lt
          clear S0 SZ hHeld hown hrows hownx hrowsx e0 e1 e2
          have HYD := Lib.hid (fun h => gK_yes (bndF_yes HX.out HY.out h))
          have HND := Lib.hid (fun h => gK_no (bndF_no HX.out HY.out h))
          simp only at HYD HND
          rw [← HJN.out] at HYD HND
          obtain ⟨q, hq⟩ : ∃ q, q = findD l jn := ⟨_, rfl⟩
          rw [← hq] at HYD HND
          rw [← hq]
          clear hq
          by_cases hf : 0 ≤ q
          · have HYD := Lib.hid (HYD.out hf)
            have hownA := hown9.alloc (.cells #[.int .i64 k, .int .i64 m, .int .i64 q] 3)
            have szA : w.heap.size + 1 ≤ (w6.alloc (.cells #[.int .i64 k, .int .i64 m, .int .i64 q] 3)).heap.size := by simp; omega
            have BA := B9.alloc B9.size (.cells #[.int .i64 k, .int .i64 m, .int .i64 q] 3)
            have bPA := bP9.alloc (.cells #[.int .i64 k, .int .i64 m, .int .i64 q] 3)
            have taA : Two (w6.alloc (.cells #[.int .i64 k, .int .i64 m, .int .i64 q] 3)) g 50 (.slice ao o.length co) (.string t) := ta9.far ((Below.refl _ _).alloc (Nat.le_refl _) _)
            have HNE := Lib.hid (bPA.ne_own hownA (by decide))
            have HTE := Lib.hid (taA.ne_own hownA (by decide))
            go_wp2_with (at_builtin; refine wpList_append_oneA hownA szA (.tmp 40) (.tmp 45) 41 Tryz.underlying41 infos_int (by omega) (by unfold maxLen; omega) ⟨rfl, rfl, rfl, rfl, rfl, rfl⟩ (by simp) ?_; intro v10 w10 hown10 hg10 hat10)
            have hrs := rows_step (r := [(k : Int), (m : Int), q]) hown9 hrows9 sz9 (by simp) (by exact hg10)
            go_roundw
            case rel => exact ⟨m + 1, vs ++ [.slice (some ⟨w6.heap.size, 0, none⟩) 3 3], by omega, by go_num, by rw [HYD.out, ← List.append_assoc, List.length_append]; exact hown10, by rw [HYD.out, ← List.append_assoc]; exact hrs, bPA.grown hg10 HNE.out, taA.grown hg10 HTE.out, below_grown BA hg10 BA.size hownA rfl (by omega)⟩
            case measure => simp [intOf]; omega
          · have HND := Lib.hid (HND.out hf)
            go_wp2
            go_roundw
            case rel => exact ⟨m + 1, vs, by omega, by go_num, by rw [HND.out]; exact hown9, by rw [HND.out]; exact hrows9, bP9, ta9, B9⟩
            case measure => simp [intOf]; omega
        · obtain rfl : m = l.length := by omega
          go_wp2
          go_roundw
          case rel => exact ⟨k + 1, vs, by omega, by go_num, by rw [gT_next, HOS.out]; exact hown, by rw [gT_next, HOS.out]; exact hrows, bP, hb⟩
          case measure => simp [intOf]; omega
    · obtain rfl : k = l.length := by omega
      go_wp2
      go_ret2
      exact rows_yes rfl hown hrows (by omega) hb
end Go.Proofs.YtekidodfcanjaaaGreatDoor
