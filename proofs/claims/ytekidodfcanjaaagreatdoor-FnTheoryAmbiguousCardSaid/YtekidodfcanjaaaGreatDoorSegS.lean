/-
  The reference's longest match and segmentation.
-/
import Derived.Test.YtekidodfcanjaaaGreatDoorAtS
namespace Go.Proofs.YtekidodfcanjaaaGreatDoor
open Go.RowKit
set_option linter.unusedVariables false
set_option linter.unusedSimpArgs false
set_option maxRecDepth 100000

theorem info_piece : (Tryz.prog.info? 62).map (fun i => (i.zero, i.size, i.bytes)) = some (some (.agg #[.int .i64 0, .int .i64 0, .string ⟨#[]⟩]), 3, 32) := by kernel_rfl
theorem Reads.part {w : World} {B b off : Nat} {zs : List Int} (h : Reads w B 1 (some ⟨b, off, none⟩) zs.length (ints zs)) {i n : Nat} (hi : i + n ≤ zs.length) : Reads w B 1 (some ⟨b, off + i, none⟩) (part zs i n).length (ints (part zs i n)) := by
  refine ⟨by simp [ints], fun hn => ?_⟩
  rw [part_length hi] at hn
  obtain ⟨b', off', he, hb, hc⟩ := h.2 (by omega)
  simp only [Option.some.injEq, Addr.mk.injEq, and_true] at he
  obtain ⟨rfl, rfl⟩ := he
  refine ⟨_, _, rfl, hb, fun j u hj => ?_⟩
  have hjl : j < n := by have := (List.getElem?_eq_some_iff.1 hj).1; simp only [ints, List.length_map, part_length hi] at this; exact this
  rw [Nat.add_assoc]
  refine hc (i + j) u ?_
  simp only [ints, Go.Proofs.YtekidodfcanjaaaGreatDoor.part, List.map_take, List.map_drop] at hj
  rw [List.getElem?_take_of_lt hjl, List.getElem?_drop] at hj
  simpa [ints] using hj

theorem piecesV_snoc_at (ps : List PieceD) (i m : Nat) (t : ByteArray) : (piecesV ps ++ [Value.int .i64 (i : Int), .int .i64 (m : Int), .string t])[ps.length * 3 + 1]? = some (.int .i64 (m : Int)) := by
  have h := (piecesV_at (ps := ps ++ [(i, m, t)]) (k := ps.length) (p := (i, m, t)) (by simp)).2.1
  rw [piecesV_snoc] at h
  exact h
/-- A block of three cells. -/
theorem tryN_long' {l : List EntD} {zs : List Int} {i n : Nat} (h0 : 0 < n) (h : ¬ i + n ≤ zs.length) : tryN l zs i n = tryN l zs i (n - 1) := by
  obtain ⟨m, rfl⟩ : ∃ m, n = m + 1 := ⟨n - 1, by omega⟩
  exact tryN_long h
theorem tryN_hit' {l : List EntD} {zs : List Int} {i n : Nat} {t : ByteArray} (h0 : 0 < n) (h : i + n ≤ zs.length) (ht : lookD l (part zs i n) = some t) : tryN l zs i n = (n, t) := by
  obtain ⟨m, rfl⟩ : ∃ m, n = m + 1 := ⟨n - 1, by omega⟩
  exact tryN_hit h ht
theorem tryN_miss' {l : List EntD} {zs : List Int} {i n : Nat} (h0 : 0 < n) (h : i + n ≤ zs.length) (ht : lookD l (part zs i n) = none) : tryN l zs i n = tryN l zs i (n - 1) := by
  obtain ⟨m, rfl⟩ : ∃ m, n = m + 1 := ⟨n - 1, by omega⟩
  exact tryN_miss h ht

set_option maxHeartbeats 4000000 in
theorem spec_l11Match (A B : Option Addr) (cap cb : Nat) (l : List EntD) (zs : List Int) (i m : Nat) (t : ByteArray) (w : World) (hr : DictR w w.heap.size A l) (hv : dictB l = true) (hz : Reads w w.heap.size 1 B zs.length (ints zs)) (hn : zs.length ≤ 1048576) (hi : i < zs.length) (hcb : zs.length ≤ cb) (hcm : cb ≤ maxLen) (hm : matchD l zs i = (m, t)) :
    Calls Tryz.prog 100 #[.agg #[.slice A l.length cap], .slice B zs.length cb, .int .i64 (i : Int)] w fun e w' => e = .returned (.agg #[.int .i64 (i : Int), .int .i64 (m : Int), .string t]) ∧ Below w.heap.size w w' := by
  obtain ⟨W1, hW1⟩ : ∃ W1, W1 = w.alloc (.cells #[.slice A l.length cap] 31) := ⟨_, rfl⟩
  have hb1 : Below w.heap.size w W1 := by rw [hW1]; exact (Below.refl _ _).alloc (Nat.le_refl _) _
  have bP : Box W1 w.heap.size 31 (.slice A l.length cap) := by rw [hW1]; exact Box.new w _ _
  have hs1 : W1.heap.size = w.heap.size + 1 := by rw [hW1]; simp
  obtain ⟨W2, hW2⟩ : ∃ W2, W2 = W1.alloc (.cells #[.int .i64 0, .int .i64 0, .string ⟨#[]⟩] 62) := ⟨_, rfl⟩
  have hb2 : Below w.heap.size w W2 := by rw [hW2]; exact hb1.alloc hb1.size _
  have bP2 : Box W2 w.heap.size 31 (.slice A l.length cap) := by rw [hW2]; exact bP.alloc _
  have tR2 : Three W2 (w.heap.size + 1) 62 (.int .i64 0) (.int .i64 0) (.string ⟨#[]⟩) := by rw [hW2, ← hs1]; exact Three.new W1 _ _ _ _
  have HV := Lib.hid hv
  have HM := Lib.hid (show (m, t) = tryN l zs i 6 from hm.symm)
  unfold maxLen at hcm
  clear hv bP hb1 hs1 hm
  go_enter Tryz.func100, Tryz.ntmps100
  go_wp2
  rw [← hW1, ← hW2]
  clear hW1 hW2
  go_loopw [7] (fun v wr => ∃ n : Nat, n ≤ 6 ∧ v = .int .i64 n ∧ (m, t) = tryN l zs i n ∧ Box wr w.heap.size 31 (.slice A l.length cap) ∧ Three wr (w.heap.size + 1) 62 (.int .i64 0) (.int .i64 0) (.string ⟨#[]⟩) ∧ Below w.heap.size w wr) (fun v _ => (intOf v).toNat)
  case atStart => exact ⟨6, by omega, rfl, HM.out, bP2, tR2, hb2⟩
  case round =>
    obtain ⟨n, hn6, rfl, hmt, bP, tR, hb⟩ := hrel
    have HT := Lib.hid hmt
    have cP := bP.cell
    clear hmt bP2 tR2 hb2 HM
    by_cases h0 : 0 < n
    · by_cases hle : i + n ≤ zs.length
      · obtain ⟨bz, oz, rfl, hz0, -⟩ := (hz.below hb).2 (by omega)
        have hpl := part_length hle
        have HB := Lib.hid (show ∀ W, Below wr.heap.size wr W → Calls Tryz.prog 114 #[.agg #[.slice A l.length cap], .slice (some ⟨bz, oz + i, none⟩) n (cb - i)] W fun e w' => e = .returned (lookV l (part zs i n)) ∧ Below W.heap.size W w' from fun W hW => by
          have h := spec_l6Find A (some ⟨bz, oz + i, none⟩) cap (cb - i) l (part zs i n) W (((((hr.below hb).more hb.size)).below hW).more hW.size) HV.out (((((hz.below hb).part hle).more hb.size).below hW).more hW.size)
          rw [hpl] at h
          exact h)
        have hp1 : (⟨w.heap.size, 0, none⟩ : Addr).block < wr.heap.size := bP.lt
        have x1 : IntKind.i64.wrap ((i : Int) + (n : Int)) = (i : Int) + (n : Int) := IntWalk.i64_in _ (by omega)
        have x2 : (0 : Int) ≤ (i : Int) + (n : Int) := by omega
        have x3 : ((i : Int) + (n : Int)).toNat = i + n := by omega
        have x4 : ¬ (zs.length : Int) < (i : Int) + (n : Int) := by omega
        have x5 : (0 : Int) ≤ (i : Int) := by omega
        have x6 : i + n ≤ cb := by omega
        have x7 : i ≤ i + n := by omega
        have x8 : ¬ cb = i := by omega
        have x9 : i + n - i = n := by omega
        have xa : (0 : Int) < (n : Int) := by omega
        have xb : (i : Int) ≤ (i : Int) + (n : Int) := by omega
        have xc : (i : Int) + (n : Int) ≤ (cb : Int) := by omega
        clear hpl
        cases hl : lookD l (part zs i n) with
        | none =>
          have HN := Lib.hid (tryN_miss' h0 hle hl)
          have HL := Lib.hid (lookV_none hl)
          clear hl
          go_wp2
          have S0 : wr.cell? ⟨w.heap.size, 0, none⟩ = some (.slice A l.length cap) ∧ Below wr.heap.size wr wr := ⟨by assumption, Below.refl _ _⟩
          first | refine wp_region_noPanic ?_ | skip
          refine wp_region_held_drew (S := fun w' => w'.cell? ⟨w.heap.size, 0, none⟩ = some (.slice A l.length cap) ∧ Below wr.heap.size wr w') (by kernel_rfl) (by first | exact S0 | exact held1_drew S0 | assumption | exact held1_step hp1 (by assumption) (by assumption) | exact held1_drew (by assumption)) (fun hHeld => ?_)
          (refine wpAnyH_take (i := 0) (v := ?_) rfl (by kernel_rfl) (by kernel_rfl) (by kernel_rfl) (fun _ _ _ h => h) (Or.inl ⟨by rfl, ?_⟩) (by assumption) ?_; rotate_left; focus (intro w hSw; (try dsimp only at hSw); go_simp; try with_reducible rfl))
          (try simp only [List.getElem_toArray, List.getElem_cons_succ, List.getElem_cons_zero, Act.put, List.setIfInBounds_toArray, List.set_cons_zero, List.set_cons_succ])
          (refine wpAnyH_take (i := 1) (v := ?_) rfl (by kernel_rfl) (by kernel_rfl) (by kernel_rfl) (fun _ _ _ h => h) (Or.inl ⟨by rfl, ?_⟩) (by assumption) ?_; rotate_left; focus (intro w hSw; (try dsimp only at hSw); go_simp; try with_reducible rfl))
          (try simp only [List.getElem_toArray, List.getElem_cons_succ, List.getElem_cons_zero, Act.put, List.setIfInBounds_toArray, List.set_cons_zero, List.set_cons_succ])
          (refine wpAnyH_take (i := 2) (v := ?_) rfl (by kernel_rfl) (by kernel_rfl) (by kernel_rfl) (fun _ _ _ h => h) (Or.inl ⟨by rfl, ?_⟩) (by assumption) ?_; rotate_left; focus (intro w hSw; (try dsimp only at hSw); go_simp; try with_reducible rfl))
          (try simp only [List.getElem_toArray, List.getElem_cons_succ, List.getElem_cons_zero, Act.put, List.setIfInBounds_toArray, List.set_cons_zero, List.set_cons_succ])
          (refine wpAnyH_take (i := 3) (v := ?_) rfl (by kernel_rfl) (by kernel_rfl) (by kernel_rfl) (fun _ _ _ h => h) (Or.inl ⟨by rfl, ?_⟩) (by assumption) ?_; rotate_left; focus (intro w hSw; (try dsimp only at hSw); go_simp; try with_reducible rfl))
          (try simp only [List.getElem_toArray, List.getElem_cons_succ, List.getElem_cons_zero, Act.put, List.setIfInBounds_toArray, List.set_cons_zero, List.set_cons_succ])
          (refine wpAnyH_take (i := 4) (v := ?_) rfl (by kernel_rfl) (by kernel_rfl) (by kernel_rfl) (fun _ _ _ h => h) (Or.inl ⟨by rfl, ?_⟩) (by assumption) ?_; rotate_left; focus (intro w hSw; (try dsimp only at hSw); go_simp; try with_reducible rfl))
          (try simp only [List.getElem_toArray, List.getElem_cons_succ, List.getElem_cons_zero, Act.put, List.setIfInBounds_toArray, List.set_cons_zero, List.set_cons_succ])
          (refine wpAnyH_take (i := 5) (v := ?_) rfl (by kernel_rfl) (by kernel_rfl) (by kernel_rfl) (fun _ _ _ h => h) (Or.inl ⟨by rfl, ?_⟩) (by assumption) ?_; rotate_left; focus (intro w hSw; (try dsimp only at hSw); go_simp; try with_reducible rfl))
          (try simp only [List.getElem_toArray, List.getElem_cons_succ, List.getElem_cons_zero, Act.put, List.setIfInBounds_toArray, List.set_cons_zero, List.set_cons_succ])
          (refine wpAnyH_take (i := 6) (v := ?_) rfl (by kernel_rfl) (by kernel_rfl) (by kernel_rfl) (fun _ _ _ h => h) (Or.inl ⟨by rfl, ?_⟩) (by assumption) ?_; rotate_left; focus (intro w hSw; (try dsimp only at hSw); go_simp; try with_reducible rfl))
          (try simp only [List.getElem_toArray, List.getElem_cons_succ, List.getElem_cons_zero, Act.put, List.setIfInBounds_toArray, List.set_cons_zero, List.set_cons_succ])
          refine wpAnyH_ready (rs := [7]) (by kernel_rfl) (by simp) ?_
          refine AllReadyH.cons rfl (fun K hK => ?_) AllReadyH.nil
          go_simp
          refine (HB.out _ (held1_below (by assumption))).mono ?_; rw [HL.out]; rintro e w9 ⟨rfl, b9⟩; go_wp2_with fail
          refine hK.out _ _ (by first | exact S0 | exact held1_drew S0 | assumption | exact held1_step hp1 (by assumption) (by assumption) | exact held1_drew (by assumption)) (fun hHeld => ?_)
          clear hK K
          (try simp only [List.getElem_toArray, List.getElem_cons_succ, List.getElem_cons_zero, Act.put, List.setIfInBounds_toArray, List.set_cons_zero, List.set_cons_succ])
          (refine wpAnyH_take (i := 8) (v := ?_) rfl (by kernel_rfl) (by kernel_rfl) (by kernel_rfl) (fun _ _ _ h => h) (Or.inl ⟨by rfl, ?_⟩) (by assumption) ?_; rotate_left; focus (intro w hSw; (try dsimp only at hSw); go_simp; try with_reducible rfl))
          (try simp only [List.getElem_toArray, List.getElem_cons_succ, List.getElem_cons_zero, Act.put, List.setIfInBounds_toArray, List.set_cons_zero, List.set_cons_succ])
          (refine wpAnyH_take (i := 9) (v := ?_) rfl (by kernel_rfl) (by kernel_rfl) (by kernel_rfl) (fun _ _ _ h => h) (Or.inl ⟨by rfl, ?_⟩) (by assumption) ?_; rotate_left; focus (intro w hSw; (try dsimp only at hSw); go_simp; try with_reducible rfl))
          (try simp only [List.getElem_toArray, List.getElem_cons_succ, List.getElem_cons_zero, Act.put, List.setIfInBounds_toArray, List.set_cons_zero, List.set_cons_succ])
          (refine wpAnyH_take (i := 10) (v := ?_) rfl (by kernel_rfl) (by kernel_rfl) (by kernel_rfl) (fun _ _ _ h => h) (Or.inl ⟨by rfl, ?_⟩) (by assumption) ?_; rotate_left; focus (intro w hSw; (try dsimp only at hSw); go_simp; try with_reducible rfl))
          (try simp only [List.getElem_toArray, List.getElem_cons_succ, List.getElem_cons_zero, Act.put, List.setIfInBounds_toArray, List.set_cons_zero, List.set_cons_succ])
          (refine wpAnyH_take (i := 11) (v := ?_) rfl (by kernel_rfl) (by kernel_rfl) (by kernel_rfl) (fun _ _ _ h => h) (Or.inl ⟨by rfl, ?_⟩) (by assumption) ?_; rotate_left; focus (intro w hSw; (try dsimp only at hSw); go_simp; try with_reducible rfl))
          (try simp only [List.getElem_toArray, List.getElem_cons_succ, List.getElem_cons_zero, Act.put, List.setIfInBounds_toArray, List.set_cons_zero, List.set_cons_succ])
          (refine wpAnyH_take (i := 12) (v := ?_) rfl (by kernel_rfl) (by kernel_rfl) (by kernel_rfl) (fun _ _ _ h => h) (Or.inl ⟨by rfl, ?_⟩) (by assumption) ?_; rotate_left; focus (intro w hSw; (try dsimp only at hSw); go_simp; try with_reducible rfl))
          (try simp only [List.getElem_toArray, List.getElem_cons_succ, List.getElem_cons_zero, Act.put, List.setIfInBounds_toArray, List.set_cons_zero, List.set_cons_succ])
          refine wpAnyH_done (by kernel_rfl) ?_ _
          first | refine NoPanic.normal ?_ | skip
          have SZ : w9.cell? ⟨w.heap.size, 0, none⟩ = some (.slice A l.length cap) ∧ Below wr.heap.size wr w9 := by assumption
          have bz_ := held1_below SZ
          have B9 := hb.trans (bz_.mono hb.size)
          clear S0 SZ hHeld x1
          go_wp2
          go_roundw
          case rel => exact ⟨n - 1, by omega, by go_num, HT.out.trans HN.out, bP.far bz_, tR.far bz_, B9⟩
          case measure => simp [intOf]; omega
        | some s =>
          have HN := Lib.hid (HT.out.trans (tryN_hit' h0 hle hl))
          have HL := Lib.hid (lookV_some hl)
          clear hl
          go_wp2
          have S0 : wr.cell? ⟨w.heap.size, 0, none⟩ = some (.slice A l.length cap) ∧ Below wr.heap.size wr wr := ⟨by assumption, Below.refl _ _⟩
          first | refine wp_region_noPanic ?_ | skip
          refine wp_region_held_drew (S := fun w' => w'.cell? ⟨w.heap.size, 0, none⟩ = some (.slice A l.length cap) ∧ Below wr.heap.size wr w') (by kernel_rfl) (by first | exact S0 | exact held1_drew S0 | assumption | exact held1_step hp1 (by assumption) (by assumption) | exact held1_drew (by assumption)) (fun hHeld => ?_)
          (refine wpAnyH_take (i := 0) (v := ?_) rfl (by kernel_rfl) (by kernel_rfl) (by kernel_rfl) (fun _ _ _ h => h) (Or.inl ⟨by rfl, ?_⟩) (by assumption) ?_; rotate_left; focus (intro w hSw; (try dsimp only at hSw); go_simp; try with_reducible rfl))
          (try simp only [List.getElem_toArray, List.getElem_cons_succ, List.getElem_cons_zero, Act.put, List.setIfInBounds_toArray, List.set_cons_zero, List.set_cons_succ])
          (refine wpAnyH_take (i := 1) (v := ?_) rfl (by kernel_rfl) (by kernel_rfl) (by kernel_rfl) (fun _ _ _ h => h) (Or.inl ⟨by rfl, ?_⟩) (by assumption) ?_; rotate_left; focus (intro w hSw; (try dsimp only at hSw); go_simp; try with_reducible rfl))
          (try simp only [List.getElem_toArray, List.getElem_cons_succ, List.getElem_cons_zero, Act.put, List.setIfInBounds_toArray, List.set_cons_zero, List.set_cons_succ])
          (refine wpAnyH_take (i := 2) (v := ?_) rfl (by kernel_rfl) (by kernel_rfl) (by kernel_rfl) (fun _ _ _ h => h) (Or.inl ⟨by rfl, ?_⟩) (by assumption) ?_; rotate_left; focus (intro w hSw; (try dsimp only at hSw); go_simp; try with_reducible rfl))
          (try simp only [List.getElem_toArray, List.getElem_cons_succ, List.getElem_cons_zero, Act.put, List.setIfInBounds_toArray, List.set_cons_zero, List.set_cons_succ])
          (refine wpAnyH_take (i := 3) (v := ?_) rfl (by kernel_rfl) (by kernel_rfl) (by kernel_rfl) (fun _ _ _ h => h) (Or.inl ⟨by rfl, ?_⟩) (by assumption) ?_; rotate_left; focus (intro w hSw; (try dsimp only at hSw); go_simp; try with_reducible rfl))
          (try simp only [List.getElem_toArray, List.getElem_cons_succ, List.getElem_cons_zero, Act.put, List.setIfInBounds_toArray, List.set_cons_zero, List.set_cons_succ])
          (refine wpAnyH_take (i := 4) (v := ?_) rfl (by kernel_rfl) (by kernel_rfl) (by kernel_rfl) (fun _ _ _ h => h) (Or.inl ⟨by rfl, ?_⟩) (by assumption) ?_; rotate_left; focus (intro w hSw; (try dsimp only at hSw); go_simp; try with_reducible rfl))
          (try simp only [List.getElem_toArray, List.getElem_cons_succ, List.getElem_cons_zero, Act.put, List.setIfInBounds_toArray, List.set_cons_zero, List.set_cons_succ])
          (refine wpAnyH_take (i := 5) (v := ?_) rfl (by kernel_rfl) (by kernel_rfl) (by kernel_rfl) (fun _ _ _ h => h) (Or.inl ⟨by rfl, ?_⟩) (by assumption) ?_; rotate_left; focus (intro w hSw; (try dsimp only at hSw); go_simp; try with_reducible rfl))
          (try simp only [List.getElem_toArray, List.getElem_cons_succ, List.getElem_cons_zero, Act.put, List.setIfInBounds_toArray, List.set_cons_zero, List.set_cons_succ])
          (refine wpAnyH_take (i := 6) (v := ?_) rfl (by kernel_rfl) (by kernel_rfl) (by kernel_rfl) (fun _ _ _ h => h) (Or.inl ⟨by rfl, ?_⟩) (by assumption) ?_; rotate_left; focus (intro w hSw; (try dsimp only at hSw); go_simp; try with_reducible rfl))
          (try simp only [List.getElem_toArray, List.getElem_cons_succ, List.getElem_cons_zero, Act.put, List.setIfInBounds_toArray, List.set_cons_zero, List.set_cons_succ])
          refine wpAnyH_ready (rs := [7]) (by kernel_rfl) (by simp) ?_
          refine AllReadyH.cons rfl (fun K hK => ?_) AllReadyH.nil
          go_simp
          refine (HB.out _ (held1_below (by assumption))).mono ?_; rw [HL.out]; rintro e w9 ⟨rfl, b9⟩; go_wp2_with fail
          refine hK.out _ _ (by first | exact S0 | exact held1_drew S0 | assumption | exact held1_step hp1 (by assumption) (by assumption) | exact held1_drew (by assumption)) (fun hHeld => ?_)
          clear hK K
          (try simp only [List.getElem_toArray, List.getElem_cons_succ, List.getElem_cons_zero, Act.put, List.setIfInBounds_toArray, List.set_cons_zero, List.set_cons_succ])
          (refine wpAnyH_take (i := 8) (v := ?_) rfl (by kernel_rfl) (by kernel_rfl) (by kernel_rfl) (fun _ _ _ h => h) (Or.inl ⟨by rfl, ?_⟩) (by assumption) ?_; rotate_left; focus (intro w hSw; (try dsimp only at hSw); go_simp; try with_reducible rfl))
          (try simp only [List.getElem_toArray, List.getElem_cons_succ, List.getElem_cons_zero, Act.put, List.setIfInBounds_toArray, List.set_cons_zero, List.set_cons_succ])
          (refine wpAnyH_take (i := 9) (v := ?_) rfl (by kernel_rfl) (by kernel_rfl) (by kernel_rfl) (fun _ _ _ h => h) (Or.inl ⟨by rfl, ?_⟩) (by assumption) ?_; rotate_left; focus (intro w hSw; (try dsimp only at hSw); go_simp; try with_reducible rfl))
          (try simp only [List.getElem_toArray, List.getElem_cons_succ, List.getElem_cons_zero, Act.put, List.setIfInBounds_toArray, List.set_cons_zero, List.set_cons_succ])
          (refine wpAnyH_take (i := 10) (v := ?_) rfl (by kernel_rfl) (by kernel_rfl) (by kernel_rfl) (fun _ _ _ h => h) (Or.inl ⟨by rfl, ?_⟩) (by assumption) ?_; rotate_left; focus (intro w hSw; (try dsimp only at hSw); go_simp; try with_reducible rfl))
          (try simp only [List.getElem_toArray, List.getElem_cons_succ, List.getElem_cons_zero, Act.put, List.setIfInBounds_toArray, List.set_cons_zero, List.set_cons_succ])
          (refine wpAnyH_take (i := 11) (v := ?_) rfl (by kernel_rfl) (by kernel_rfl) (by kernel_rfl) (fun _ _ _ h => h) (Or.inl ⟨by rfl, ?_⟩) (by assumption) ?_; rotate_left; focus (intro w hSw; (try dsimp only at hSw); go_simp; try with_reducible rfl))
          (try simp only [List.getElem_toArray, List.getElem_cons_succ, List.getElem_cons_zero, Act.put, List.setIfInBounds_toArray, List.set_cons_zero, List.set_cons_succ])
          (refine wpAnyH_take (i := 12) (v := ?_) rfl (by kernel_rfl) (by kernel_rfl) (by kernel_rfl) (fun _ _ _ h => h) (Or.inl ⟨by rfl, ?_⟩) (by assumption) ?_; rotate_left; focus (intro w hSw; (try dsimp only at hSw); go_simp; try with_reducible rfl))
          (try simp only [List.getElem_toArray, List.getElem_cons_succ, List.getElem_cons_zero, Act.put, List.setIfInBounds_toArray, List.set_cons_zero, List.set_cons_succ])
          refine wpAnyH_done (by kernel_rfl) ?_ _
          first | refine NoPanic.normal ?_ | skip
          have SZ : w9.cell? ⟨w.heap.size, 0, none⟩ = some (.slice A l.length cap) ∧ Below wr.heap.size wr w9 := by assumption
          have bz_ := held1_below SZ
          have B9 := hb.trans (bz_.mono hb.size)
          have tR9 := tR.far bz_
          have q0 := tR9.cell0
          have q1 := tR9.cell1
          have q2 := tR9.cell2
          have qf := tR9.free
          clear S0 SZ hHeld x1
          go_wp2
          have hmn := HN.out
          simp only [Prod.mk.injEq] at hmn
          obtain ⟨rfl, rfl⟩ := hmn
          refine bodyPost_ret (v := .agg #[.int .i64 (i : Int), .int .i64 (m : Int), .string t]) (by simp [results, go_sem, q0, q1, q2]) rfl ?_
          exact ⟨rfl, (((B9.setCell (p := ⟨w.heap.size + 1, 0, none⟩) (by show w.heap.size ≤ w.heap.size + 1; omega) _).setCell (p := ⟨w.heap.size + 1, 1, none⟩) (by show w.heap.size ≤ w.heap.size + 1; omega) _).setCell (p := ⟨w.heap.size + 1, 2, none⟩) (by show w.heap.size ≤ w.heap.size + 1; omega) _)⟩
      · have x1 : IntKind.i64.wrap ((i : Int) + (n : Int)) = (i : Int) + (n : Int) := IntWalk.i64_in _ (by omega)
        have x4 : (zs.length : Int) < (i : Int) + (n : Int) := by omega
        have xa : (0 : Int) < (n : Int) := by omega
        have HN := Lib.hid (tryN_long' (l := l) h0 hle)
        go_wp2
        go_roundw
        case rel => exact ⟨n - 1, by omega, by go_num, HT.out.trans HN.out, bP, tR, hb⟩
        case measure => simp [intOf]; omega
    · obtain rfl : n = 0 := by omega
      have q0 := tR.cell0
      have q1 := tR.cell1
      have q2 := tR.cell2
      have qf := tR.free
      go_wp2
      have hmn : (m, t) = (1, ⟨#[]⟩) := HT.out
      simp only [Prod.mk.injEq] at hmn
      obtain ⟨rfl, rfl⟩ := hmn
      refine bodyPost_ret (v := .agg #[.int .i64 (i : Int), .int .i64 ((1 : Nat) : Int), .string ⟨#[]⟩]) (by simp [results, go_sem, q0, q1, q2]) rfl ?_
      exact ⟨rfl, (((hb.setCell (p := ⟨w.heap.size + 1, 0, none⟩) (by show w.heap.size ≤ w.heap.size + 1; omega) _).setCell (p := ⟨w.heap.size + 1, 1, none⟩) (by show w.heap.size ≤ w.heap.size + 1; omega) _).setCell (p := ⟨w.heap.size + 1, 2, none⟩) (by show w.heap.size ≤ w.heap.size + 1; omega) _)⟩

section
variable {P : Program}
theorem wpList_append_threeG {wr : World} {v : Value} {n : Nat} {xs : List Value} {base : Nat} {e : TypeId} (hown : wr.ownsRow base e 3 v n xs) (hbase : base ≤ wr.heap.size)
    (s x : Operand) (t : TypeId) {z : Value} {bytes : Nat} (ht : P.underlying t = some (.slice e)) (hi : (P.info? e).map (fun i => (i.zero, i.size, i.bytes)) = some (some z, 3, bytes))
    (hbytes : (n + 1) * bytes ≤ 140737488355328) (hb : n + 1 ≤ maxLen)
    {ops : Array Oper} {rest : List Oper} {o : Oper} {a : Act} {Q : Exit → Act → World → Prop} {y0 y1 y2 : Value} {g : Nat}
    (hh : o.guard = none ∧ o.op = .call { callee := .builtin .append, args := #[s, x], argTypes := #[t, t] } ∧ a.eval s = v ∧ a.eval x = .slice (some ⟨g, 0, none⟩) 1 1 ∧ y0.oneCell' = true ∧ y1.oneCell' = true ∧ y2.oneCell' = true ∧ z.cells.size = 3)
    (hg : g = wr.heap.size)
    (h : ∀ v' w', w'.ownsRow base e 3 v' (n + 1) (xs ++ [y0, y1, y2]) → wr.grownBy w' v.ownBlock → wpList P ops Q rest (a.put o.dst v') w') :
    wpList P ops Q (o :: rest) a (wr.alloc (.cells #[y0, y1, y2] e)) :=
  wpList_append_cellsG hown hbase s x t ht hi hbytes hb ⟨hh.1, hh.2.1, hh.2.2.1, hh.2.2.2.1, by simp [hh.2.2.2.2.1, hh.2.2.2.2.2.1, hh.2.2.2.2.2.2.1], hh.2.2.2.2.2.2.2, rfl, by decide⟩ hg h
end

/-- The pieces, in new memory. -/
def SegRes (ps : List PieceD) (w : World) (e : Ending) (w' : World) : Prop := ∃ v, e = .returned v ∧ Own w' w.heap.size w'.heap.size 62 3 v ps.length (piecesV ps) ∧ Below w.heap.size w w'
set_option maxHeartbeats 4000000 in
theorem spec_l11Segment (A B : Option Addr) (cap cb : Nat) (l : List EntD) (zs : List Int) (w : World) (hr : DictR w w.heap.size A l) (hv : dictB l = true) (hz : Reads w w.heap.size 1 B zs.length (ints zs)) (hn : zs.length ≤ 1048576) (hcb : zs.length ≤ cb) (hcm : cb ≤ maxLen) :
    Calls Tryz.prog 70 #[.agg #[.slice A l.length cap], .slice B zs.length cb] w (SegRes (segD l zs) w) := by
  obtain ⟨W1, hW1⟩ : ∃ W1, W1 = w.alloc (.cells #[.slice A l.length cap] 31) := ⟨_, rfl⟩
  have hb1 : Below w.heap.size w W1 := by rw [hW1]; exact (Below.refl _ _).alloc (Nat.le_refl _) _
  have bP : Box W1 w.heap.size 31 (.slice A l.length cap) := by rw [hW1]; exact Box.new w _ _
  have hs1 : W1.heap.size = w.heap.size + 1 := by rw [hW1]; simp
  have own0 : (W1.alloc (.cells #[] 62)).ownsRow (w.heap.size + 1) 62 3 (.slice (some ⟨W1.heap.size, 0, none⟩) 0 0) 0 [] := World.ownsRow_made _ _ _ (by omega) (by simp) rfl
  have bP1 := bP.alloc (.cells #[] 62)
  have B1 := hb1.alloc hb1.size (.cells #[] 62)
  rw [hs1] at own0
  have HV := Lib.hid hv
  have HCM := Lib.hid hcm
  unfold maxLen at hcm
  clear hv bP hb1 hs1
  go_enter Tryz.func70, Tryz.ntmps70
  go_wp2
  rw [← hW1]
  clear hW1
  go_loopw [5, 6] (fun v x wr => ∃ (ps : List PieceD) (i : Nat), i ≤ zs.length ∧ ps.length ≤ i ∧ x = .int .i64 i ∧ SegAt l zs ps i ∧ wr.ownsRow (w.heap.size + 1) 62 3 v ps.length (piecesV ps) ∧ Box wr w.heap.size 31 (.slice A l.length cap) ∧ Below w.heap.size w wr) (fun _ x _ => zs.length - (intOf x).toNat)
  case atStart => exact ⟨[], 0, Nat.zero_le _, Nat.le_refl _, rfl, segAt_zero l zs, own0, bP1, B1⟩
  case round =>
    obtain ⟨ps, i, hi, hpi, rfl, hsg, hown, bP, hb⟩ := hrel
    have HSG := Lib.hid hsg
    have cP := bP.cell
    clear hsg
    by_cases hlt : i < zs.length
    · obtain ⟨⟨m, t⟩, hmd⟩ : ∃ x, x = matchD l zs i := ⟨_, rfl⟩
      have hrg := tryN_range l zs i hlt 6
      have hm1 : 1 ≤ m ∧ i + m ≤ zs.length := by
        have h : tryN l zs i 6 = (m, t) := hmd.symm
        rw [h] at hrg
        exact ⟨hrg.1, hrg.2.1⟩
      have HM := Lib.hid hmd.symm
      have HNX := Lib.hid (show SegAt l zs (ps ++ [(i, m, t)]) (i + m) by have h := segAt_next HSG.out hlt; rw [← hmd] at h; exact h)
      clear hmd hrg
      go_wp2_with fail
      refine (spec_l11Match A B cap cb l zs i m t _ ((hr.below hb).more hb.size) HV.out ((hz.below hb).more hb.size) hn hlt hcb HCM.out HM.out).mono ?_
      rintro e w5 ⟨rfl, b5⟩
      have B5 := hb.trans (b5.mono hb.size)
      have bP5 := bP.far b5
      have own5 := row_below hown b5
      have hz5 : w.heap.size + 1 ≤ w5.heap.size := bP5.lt
      go_wp2_with (at_builtin; refine wpList_append_threeG own5 hz5 (.tmp 21) (.tmp 26) 58 Tryz.underlying58 info_piece (by omega) (by unfold maxLen; omega) ⟨rfl, rfl, rfl, rfl, rfl, rfl, rfl, rfl⟩ rfl ?_; intro v10 w10 hown10 gr10; obtain ⟨g10, c10, rfl, -, -, -, -, -, hc10, -⟩ := (Own.of_row hown10).open_ (by omega); have cc := (hc10 (ps.length * 3 + 1) (by omega)).trans (piecesV_snoc_at ps i m t); clear hc10)
      go_roundw
      case rel =>
        exact ⟨ps ++ [(i, m, t)], i + m, by omega, by simp; omega, by go_num, HNX.out, by rw [piecesV_snoc, List.length_append]; exact hown10, bP5.grown gr10 (bP5.ne_own own5 (by decide)), below_grown B5 gr10 B5.size own5 rfl (by omega)⟩
      case measure => simp [intOf]; omega
    · have HE := Lib.hid (segAt_end HSG.out (by omega))
      go_wp2
      go_ret
      exact ⟨_, rfl, by rw [← HE.out]; exact ⟨hown.base (by omega), fun g hg => (hown.lt g hg).2⟩, hb⟩
end Go.Proofs.YtekidodfcanjaaaGreatDoor
