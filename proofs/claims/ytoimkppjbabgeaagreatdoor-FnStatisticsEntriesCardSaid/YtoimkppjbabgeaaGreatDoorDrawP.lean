/-
  The reference's draw of strokes out of a dictionary's outlines, and of the arguments of EntryCounts.
-/
import Derived.Test.YtoimkppjbabgeaaGreatDoorDrawL
import Derived.Test.YtoimkppjbabgeaaGreatDoorIns
namespace Go.Proofs.YtoimkppjbabgeaaGreatDoor
open Go.RowKit
set_option linter.unusedVariables false
set_option linter.unusedSimpArgs false
set_option maxRecDepth 100000

theorem cells_intP (xs : List Int) : ∀ u ∈ ints xs, u.oneCell' = true := fun u hu => by obtain ⟨z, _, rfl⟩ := List.mem_map.1 hu; rfl
set_option maxHeartbeats 4000000 in
theorem known_calls (g m lo : Nat) (Al : Option Addr) (cl : Nat) (l : List EntD) (w : World) (h : Cur w g m) (hm : m ≤ 10000000) (hg : g < lo) (hd : DictT w lo lo (.slice Al l.length cl) l) (he : EntsB 41 8 l) :
    Calls Tryz.prog 44 #[.pointer (some ⟨g, 0, none⟩), .agg #[.slice Al l.length cl]] w (DrewInts 8 g (m + 80) w) := by
  obtain ⟨W1, hW1⟩ : ∃ W1, W1 = w.alloc (.cells #[.slice Al l.length cl] 26) := ⟨_, rfl⟩
  have hB1 : Box W1 w.heap.size 26 (.slice Al l.length cl) := by rw [hW1]; exact Box.new w _ _
  have hC1 : Cur W1 g m := by rw [hW1]; exact h.alloc _
  have hO1 : Only g (g + 1) w W1 := by rw [hW1]; exact only_alloc (Only.refl w) _
  have hgw := h.1
  have HD := Lib.hid hd
  have HE := Lib.hid he
  have hl41 := he.1
  have c0 := hB1.cell
  clear h hd he
  go_enter Tryz.func44, Tryz.ntmps44
  go_upto_region 1 with fail
  rw [← hW1]
  clear hW1
  by_cases hl0 : 0 < l.length
  · have l0 : (0 : Int) < (l.length : Int) := by omega
    go_wp2_with fail
    refine (one_calls g m 3 _ hC1 (by omega) (by omega) (by omega)).mono ?_
    rintro e w2 ⟨b, rfl, hc2, ho2⟩
    have HO2 := Lib.hid (hO1.trans ho2)
    have HC2 := Lib.hid hc2
    have HB2 := Lib.hid (hB1.only ho2 (.inr (by omega)))
    clear hc2 ho2 hB1 hC1 hO1 c0
    cases b with
    | true =>
      go_wp2_with fail
      refine (anyOutline_calls g (m + 2) _ HC2.out (by omega)).mono ?_
      rintro e w4 ⟨v4, xs, rfl, own4, hxl, hc4, ho4⟩
      have HC4 := Lib.hid hc4
      have HO4 := Lib.hid (HO2.out.trans ho4)
      have hz2 := HO2.out.size
      clear hc4 ho4
      go_wp2
      go_ret
      exact ⟨_, xs, rfl, ⟨own4.1.base hz2, own4.2⟩, hxl, HC4.out.more (by omega), HO4.out⟩
    | false =>
      obtain ⟨A9, k9, hv9, hr9, -, -⟩ := HD.out.slice
      injection hv9 with hv1 _ hv2
      subst hv1 hv2
      obtain ⟨bD, oD, hAD, -, -⟩ := hr9 hl0
      subst hAD
      clear hr9
      have cBD : w2.drew.cell? ⟨w.heap.size, 0, none⟩ = some (.slice (some ⟨bD, oD, none⟩) l.length cl) := HB2.out.cell
      have HPK := Lib.hid (pick_calls g (m + 2) (l.length : Int) w2.drew HC2.out.drew (by omega) (by omega) (by omega))
      have cBW := HB2.out.cell
      go_wp2
      first | refine wp_region_noPanic ?_ | skip
      refine wp_region_held_drew (S := fun w' => w'.cell? ⟨w.heap.size, 0, none⟩ = some (.slice (some ⟨bD, oD, none⟩) l.length cl)) (by kernel_rfl) (by exact cBD) (fun hHeld => ?_)
      (refine wpAnyH_take (i := 0) (v := ?_) rfl (by kernel_rfl) (by kernel_rfl) (by kernel_rfl) (fun _ _ _ h => h) (Or.inl ⟨by rfl, ?_⟩) (by assumption) ?_; rotate_left; focus (intro w hSw; (try dsimp only at hSw); go_simp; try with_reducible rfl))
      (try simp only [List.getElem_toArray, List.getElem_cons_succ, List.getElem_cons_zero, Act.put, List.setIfInBounds_toArray, List.set_cons_zero, List.set_cons_succ])
      (refine wpAnyH_take (i := 1) (v := ?_) rfl (by kernel_rfl) (by kernel_rfl) (by kernel_rfl) (fun _ _ _ h => h) (Or.inl ⟨by rfl, ?_⟩) (by assumption) ?_; rotate_left; focus (intro w hSw; (try dsimp only at hSw); go_simp; try with_reducible rfl))
      (try simp only [List.getElem_toArray, List.getElem_cons_succ, List.getElem_cons_zero, Act.put, List.setIfInBounds_toArray, List.set_cons_zero, List.set_cons_succ])
      (refine wpAnyH_take (i := 2) (v := ?_) rfl (by kernel_rfl) (by kernel_rfl) (by kernel_rfl) (fun _ _ _ h => h) (Or.inl ⟨by rfl, ?_⟩) (by assumption) ?_; rotate_left; focus (intro w hSw; (try dsimp only at hSw); go_simp; try with_reducible rfl))
      (try simp only [List.getElem_toArray, List.getElem_cons_succ, List.getElem_cons_zero, Act.put, List.setIfInBounds_toArray, List.set_cons_zero, List.set_cons_succ])
      (refine wpAnyH_take (i := 3) (v := ?_) rfl (by kernel_rfl) (by kernel_rfl) (by kernel_rfl) (fun _ _ _ h => h) (Or.inl ⟨by rfl, ?_⟩) (by assumption) ?_; rotate_left; focus (intro w hSw; (try dsimp only at hSw); go_simp; try with_reducible rfl))
      (try simp only [List.getElem_toArray, List.getElem_cons_succ, List.getElem_cons_zero, Act.put, List.setIfInBounds_toArray, List.set_cons_zero, List.set_cons_succ])
      (refine wpAnyH_take (i := 4) (v := ?_) rfl (by kernel_rfl) (by kernel_rfl) (by kernel_rfl) (fun _ _ _ h => h) (Or.inl ⟨by rfl, ?_⟩) (by assumption) ?_; rotate_left; focus (intro w hSw; (try dsimp only at hSw); go_simp; try with_reducible rfl))
      (try simp only [List.getElem_toArray, List.getElem_cons_succ, List.getElem_cons_zero, Act.put, List.setIfInBounds_toArray, List.set_cons_zero, List.set_cons_succ])
      (refine wpAnyH_take (i := 5) (v := ?_) rfl (by kernel_rfl) (by kernel_rfl) (by kernel_rfl) (fun _ _ _ h => h) (Or.inl ⟨by rfl, ?_⟩) (by assumption) ?_; rotate_left; focus (intro w hSw; (try dsimp only at hSw); go_simp; try with_reducible rfl))
      (try simp only [List.getElem_toArray, List.getElem_cons_succ, List.getElem_cons_zero, Act.put, List.setIfInBounds_toArray, List.set_cons_zero, List.set_cons_succ])
      refine wpAnyH_ready (rs := [6]) (by kernel_rfl) (by simp) ?_
      refine AllReadyH.cons rfl (fun K hK => ?_) AllReadyH.nil
      go_simp
      refine HPK.out.mono ?_
      rintro e w5 ⟨x5, rfl, hx5, hc5, ho5⟩
      have hx5' : x5 < l.length := by omega
      have HO5 := Lib.hid (HO2.out.drew.trans ho5)
      have HC5 := Lib.hid hc5
      have HB5 := Lib.hid ((HB2.out.drew).only ho5 (.inr (by omega)))
      obtain ⟨A8, k8, hv8, hr8, -, -⟩ := (HD.out.only HO5.out (by omega) (by omega)).slice
      injection hv8 with hw1 _ hw2
      subst hw1 hw2
      obtain ⟨b8, o8, hA8, -, hc8⟩ := hr8 hl0
      injection hA8 with hA8
      injection hA8 with e1 e2 _
      subst e1 e2
      obtain ⟨⟨ox, tx⟩, hox⟩ := some_at l hx5'
      obtain ⟨ai, ci, cD, -, rI, -, -⟩ := DictR.at_ hc8 hox
      have hol := (HE.out.2 _ (List.mem_of_getElem? hox)).1
      simp only at hol
      have j0 : (0 : Int) ≤ (x5 : Int) := by omega
      have j1 : (x5 : Int) < (l.length : Int) := by omega
      have cB5 := HB5.out.cell
      clear hox hc8 hr8 hc5 ho5
      refine hK.out _ _ (cB5) (fun hHeld => ?_)
      clear hK K
      (try simp only [List.getElem_toArray, List.getElem_cons_succ, List.getElem_cons_zero, Act.put, List.setIfInBounds_toArray, List.set_cons_zero, List.set_cons_succ])
      (refine wpAnyH_take (i := 7) (v := ?_) rfl (by kernel_rfl) (by kernel_rfl) (by kernel_rfl) (fun _ _ _ h => h) (Or.inl ⟨by rfl, ?_⟩) (by assumption) ?_; rotate_left; focus (intro w hSw; (try dsimp only at hSw); go_simp; try with_reducible rfl))
      (try simp only [List.getElem_toArray, List.getElem_cons_succ, List.getElem_cons_zero, Act.put, List.setIfInBounds_toArray, List.set_cons_zero, List.set_cons_succ])
      (refine wpAnyH_take (i := 8) (v := ?_) rfl (by kernel_rfl) (by kernel_rfl) (by kernel_rfl) (fun _ _ _ h => h) (Or.inl ⟨by rfl, ?_⟩) (by assumption) ?_; rotate_left; focus (intro w hSw; (try dsimp only at hSw); go_simp; try with_reducible rfl))
      (try simp only [List.getElem_toArray, List.getElem_cons_succ, List.getElem_cons_zero, Act.put, List.setIfInBounds_toArray, List.set_cons_zero, List.set_cons_succ])
      refine wpAnyH_ready (rs := [9]) (by kernel_rfl) (by simp) ?_
      refine AllReadyH.cons rfl (fun K hK => ?_) AllReadyH.nil
      go_simp
      refine hK.out _ _ (cB5) (fun hHeld => ?_)
      clear hK K
      (try simp only [List.getElem_toArray, List.getElem_cons_succ, List.getElem_cons_zero, Act.put, List.setIfInBounds_toArray, List.set_cons_zero, List.set_cons_succ])
      refine wpAnyH_ready (rs := [10]) (by kernel_rfl) (by simp) ?_
      refine AllReadyH.cons rfl (fun K hK => ?_) AllReadyH.nil
      go_simp
      refine (spec_l1Own ai ci ox _ rI (by omega)).mono ?_
      rintro e w6 ⟨v6, rfl, o6, b6⟩
      have HB6 := Lib.hid (HB5.out.far b6)
      have cB6 := HB6.out.cell
      refine hK.out _ _ (cB6) (fun hHeld => ?_)
      clear hK K
      (try simp only [List.getElem_toArray, List.getElem_cons_succ, List.getElem_cons_zero, Act.put, List.setIfInBounds_toArray, List.set_cons_zero, List.set_cons_succ])
      (refine wpAnyH_take (i := 11) (v := ?_) rfl (by kernel_rfl) (by kernel_rfl) (by kernel_rfl) (fun _ _ _ h => h) (Or.inl ⟨by rfl, ?_⟩) (by assumption) ?_; rotate_left; focus (intro w hSw; (try dsimp only at hSw); go_simp; try with_reducible rfl))
      (try simp only [List.getElem_toArray, List.getElem_cons_succ, List.getElem_cons_zero, Act.put, List.setIfInBounds_toArray, List.set_cons_zero, List.set_cons_succ])
      refine wpAnyH_done (by kernel_rfl) ?_ _
      first | refine NoPanic.normal ?_ | skip
      clear hHeld cB6 cB5 cBD cBW cD j0 j1 rI l0
      go_wp2
      go_ret
      have hz5 := HO5.out.size
      exact ⟨_, ox, rfl, Own.of_row (o6.base hz5), by omega, (HC5.out.below (b6.mono (by omega))).more (by omega), HO5.out.then_below b6 hz5⟩
  · have l0 : ¬ (0 : Int) < (l.length : Int) := by omega
    go_wp2_with fail
    refine (anyOutline_calls g m _ hC1 (by omega)).mono ?_
    rintro e w4 ⟨v4, xs, rfl, own4, hxl, hc4, ho4⟩
    have HC4 := Lib.hid hc4
    have HO4 := Lib.hid (hO1.trans ho4)
    have hz2 := hO1.size
    clear hc4 ho4
    go_wp2
    go_ret
    exact ⟨_, xs, rfl, ⟨own4.1.base hz2, own4.2⟩, hxl, HC4.out.more (by omega), HO4.out⟩

set_option maxHeartbeats 4000000 in
theorem l23DrawStrokes_calls (g m lo : Nat) (Al : Option Addr) (cl : Nat) (l : List EntD) (w : World) (h : Cur w g m) (hm : m ≤ 9000000) (hg : g < lo) (hd : DictT w lo lo (.slice Al l.length cl) l) (he : EntsB 41 8 l) :
    Calls Tryz.prog 25 #[.pointer (some ⟨g, 0, none⟩), .agg #[.slice Al l.length cl]] w (DrewInts 33 g (m + 400) w) := by
  obtain ⟨W1, hW1⟩ : ∃ W1, W1 = w.alloc (.cells #[.slice Al l.length cl] 26) := ⟨_, rfl⟩
  have hs1 : W1.heap.size = w.heap.size + 1 := by rw [hW1]; simp
  have hB1 : Box W1 w.heap.size 26 (.slice Al l.length cl) := by rw [hW1]; exact Box.new w _ _
  have hC1 : Cur W1 g m := by rw [hW1]; exact h.alloc _
  have hO1 : Only g (g + 1) w W1 := by rw [hW1]; exact only_alloc (Only.refl w) _
  have hgw := h.1
  have HD := Lib.hid hd
  have HE := Lib.hid he
  have own0 : (W1.alloc (.cells #[] 3)).ownsRow (w.heap.size + 1) 3 1 (.slice (some ⟨w.heap.size + 1, 0, none⟩) 0 0) 0 [] := by
    have := World.ownsRow_made (base := w.heap.size + 1) (e := 3) (size := 1) W1 #[] 0 (by omega) (by simp) rfl
    rw [hs1] at this
    exact this
  have B0 := Lib.hid (hB1.alloc (.cells #[] 3))
  have C0 := Lib.hid (hC1.alloc (.cells #[] 3))
  have O0 := Lib.hid (only_alloc hO1 (.cells #[] 3))
  clear h hd he hB1 hC1 hO1
  go_enter Tryz.func25, Tryz.ntmps25
  go_wp2_with fail
  rw [← hW1]
  clear hW1
  refine (pick_calls g m 5 _ C0.out (by omega) (by omega) (by omega)).mono ?_
  rintro e w3 ⟨x, rfl, hx, hc3, ho3⟩
  have own3 := ownsRow_only own0 ho3 (fun g' hg' => by have h1 := (own0.lt g' hg').1; omega)
  have HB3 := Lib.hid (B0.out.only ho3 (.inr (by omega)))
  have HO3 := Lib.hid (O0.out.trans ho3)
  have HC3 := Lib.hid hc3
  clear own0 hc3 ho3 hs1 B0 C0 O0
  go_wp2
  go_loopw [5, 6] (fun u i wr => ∃ (xs : List Int) (q p : Nat), q ≤ 4 ∧ xs.length + 8 * q ≤ 32 ∧ i = .int .i64 q ∧ p + 80 * q ≤ m + 330 ∧ wr.ownsRow (w.heap.size + 1) 3 1 u xs.length (ints xs) ∧ Box wr w.heap.size 26 (.slice Al l.length cl) ∧ Cur wr g p ∧ Only g (g + 1) w wr) (fun _ i _ => (intOf i).toNat)
  case atStart => exact ⟨[], x, m + 2, by omega, by simp; omega, rfl, by omega, own3, HB3.out, HC3.out, HO3.out⟩
  case round =>
    clear own3 HB3 HC3 HO3
    obtain ⟨xs, q, p, hq, hxq, rfl, hpq, own, hB, hC, hO⟩ := hrel
    have HB := Lib.hid hB
    have HC := Lib.hid hC
    have HO := Lib.hid hO
    have cB := hB.cell
    have hsz := hO.size
    have hbl := hB.lt
    clear hB hC hO
    obtain ⟨Au, ku, rfl, -, hku, hkm⟩ := (Own.of_row own).slice
    by_cases hq0 : 0 < q
    · have q0 : (0 : Int) < (q : Int) := by omega
      go_wp2_with fail
      refine (known_calls g p lo Al cl l _ HC.out (by omega) hg (HD.out.only HO.out hg hg) HE.out).mono ?_
      rintro e w5 ⟨v5, ys, rfl, own5, hyl, hc5, ho5⟩
      obtain ⟨A5, k5, rfl, r5, hk5, hkm5⟩ := own5.slice
      have ownX := ownsRow_only own ho5 (fun g' hg' => by have h1 := (own.lt g' hg').1; omega)
      have HB5 := Lib.hid (HB.out.only ho5 (.inr (by omega)))
      have HC5 := Lib.hid hc5
      have HO5 := Lib.hid (HO.out.trans ho5)
      have hz5 := ho5.size
      have H1 := Lib.hid (cells_intP ys)
      clear hc5 ho5 own5 cB own
      go_wp2_with (at_builtin; refine wpList_append_src ownX (by omega) r5 H1.out (.tmp 14) (.tmp 17) 27 Tryz.underlying27 info_int (by omega) (by unfold maxLen; omega) ⟨rfl, rfl, rfl, rfl, rfl, by decide⟩ ?_; intro v7 w7 own7 b7)
      go_roundw
      case rel => exact ⟨xs ++ ys, q - 1, p + 80, by omega, by simp; omega, by go_num, by omega, by rw [List.length_append]; simpa [ints] using own7, HB5.out.below b7 (by omega), HC5.out.below (b7.mono (by omega)), HO5.out.then_below b7 (by omega)⟩
      case measure => simp [intOf]; omega
    · obtain rfl : q = 0 := by omega
      go_wp2_with fail
      refine (one_calls g p 25 _ HC.out (by omega) (by omega) (by omega)).mono ?_
      rintro e w5 ⟨b, rfl, hc5, ho5⟩
      have ownX := ownsRow_only own ho5 (fun g' hg' => by have h1 := (own.lt g' hg').1; omega)
      have HC5 := Lib.hid hc5
      have HO5 := Lib.hid (HO.out.trans ho5)
      have hz5 := ho5.size
      clear hc5 ho5 own cB
      cases b with
      | false =>
        go_wp2
        go_ret
        exact ⟨_, xs, rfl, Own.of_row (ownX.base (by omega)), by omega, HC5.out.more (by omega), HO5.out⟩
      | true =>
        go_wp2_with fail
        refine (anyStroke_calls g (p + 2) _ HC5.out (by omega)).mono ?_
        rintro e w6 ⟨t, rfl, hc6, ho6⟩
        have own6 := ownsRow_only ownX ho6 (fun g' hg' => by have h1 := (ownX.lt g' hg').1; omega)
        have HC6 := Lib.hid hc6
        have HO6 := Lib.hid (HO5.out.trans ho6)
        have hz6 := HO6.out.size
        have hz7 := ho6.size
        have hz8 := HO5.out.size
        have hbw : w.heap.size + 1 ≤ w6.heap.size := by omega
        clear hc6 ho6 ownX
        go_wp2_with (at_builtin; refine wpList_append_oneA own6 hbw (.tmp 21) (.tmp 24) 27 Tryz.underlying27 info_int (by omega) (by unfold maxLen; omega) ⟨rfl, rfl, rfl, rfl, rfl, rfl⟩ rfl ?_; intro v7 w7 own7 gr7 at7)
        go_ret
        exact ⟨_, xs ++ [t], rfl, Own.of_row (by rw [← ints_snocD, List.length_append]; exact own7.base (by omega)), by simp; omega, (cur_row HC6.out gr7 (fun b hb => by have h1 := (own6.lt b hb).1; omega)).more (by omega), only_row HO6.out gr7 (fun b hb => by have h1 := (own6.lt b hb).1; omega)⟩

def DrewDE (w : World) (e : Ending) (w' : World) : Prop := ∃ (v : Value) (l : List EntD) (A : Option Addr) (c : Nat) (xs : List Int), e = .returned (.tuple #[.agg #[v], .slice A xs.length c]) ∧
  DictT w' w.heap.size w.heap.size v l ∧ EntsB 41 8 l ∧ Reads w' w'.heap.size 1 A xs.length (ints xs) ∧ xs.length ≤ 61 ∧ xs.length ≤ c ∧ c ≤ maxLen ∧ Below w.heap.size w w'
set_option maxHeartbeats 8000000 in
theorem drawEntryCounts_calls (A : Option Addr) (n cap : Nat) (zs : List Int) (w : World) (h : Ints .u8 w A n cap zs) : Calls Tryz.prog 6 #[.slice A n cap] w (DrewDE w) := by
  obtain ⟨W1, hW1⟩ : ∃ W1, W1 = w.alloc (.cells #[.slice none 0 0] 26) := ⟨_, rfl⟩
  have hs1 : W1.heap.size = w.heap.size + 1 := by rw [hW1]; simp
  have hb1 : Below w.heap.size w W1 := by rw [hW1]; exact (Below.refl _ _).alloc (Nat.le_refl _) _
  have hr1 : Box W1 w.heap.size 26 (.slice none 0 0) := by rw [hW1]; exact Box.new w _ _
  have hi1 : Ints .u8 W1 A n cap zs := ⟨(h.1.below hb1).more hb1.size, h.2⟩
  obtain ⟨W2, hW2⟩ : ∃ W2, W2 = W1.alloc (.cells #[.slice A n cap, .int .i64 0, .int .u64 0] 46) := ⟨_, rfl⟩
  have hs2 : W2.heap.size = w.heap.size + 2 := by rw [hW2]; simp [hs1]
  have hc2 : Cur W2 (w.heap.size + 1) 0 := by rw [hW2, ← hs1]; exact cur_newD hi1 _
  have hb2 : Below w.heap.size w W2 := by rw [hW2]; exact hb1.alloc hb1.size _
  have hr2 : Box W2 w.heap.size 26 (.slice none 0 0) := by rw [hW2]; exact hr1.alloc _
  have HC := Lib.hid hc2
  have HB := Lib.hid hb2
  have HR := Lib.hid hr2
  have HZ := Lib.hid hs2
  have HW : W2 = (w.alloc (.cells #[.slice none 0 0] 26)).alloc (.cells #[.slice A n cap, .int .i64 0, .int .u64 0] 46) := by rw [hW2, hW1]
  clear h hs1 hb1 hr1 hi1 hW2 hs2 hc2 hb2 hr2 hW1 W1
  go_enter Tryz.func6, Tryz.ntmps6
  go_wp2_with fail
  rw [← HW]
  clear HW
  refine (dictionary_calls (w.heap.size + 1) 0 _ HC.out (by omega)).mono ?_
  rintro e w1 ⟨v, l, rfl, hd, he, -, hc1, ho1⟩
  obtain ⟨Al, cl, rfl, -, -, -⟩ := hd.slice
  have hz := HZ.out
  have hz1 := ho1.size
  have HD := Lib.hid (show StkS w (w1.alloc (.cells #[.slice Al l.length cl] 26)) w1.heap.size 1100 (.slice Al l.length cl) l from
    ⟨(HR.out.only ho1 (.inl (by omega))).alloc _, Box.new w1 _ _, by omega, (hd.low (by omega) (by omega)).below ((Below.refl _ _).alloc (Nat.le_refl _) _), (hc1.more (by omega)).alloc _, (HB.out.trans (ho1.below (by omega) (by omega))).alloc (by omega) _⟩)
  have HE := Lib.hid (he.more (n' := 41) (m' := 8) (by omega) (by omega))
  clear hd he hc1 ho1 hz HC HB HR HZ
  obtain ⟨x1, hx1⟩ : ∃ x1, x1 = w1.alloc (.cells #[.slice Al l.length cl] 26) := ⟨_, rfl⟩
  obtain ⟨B, hB⟩ : ∃ B, B = w1.heap.size := ⟨_, rfl⟩
  rw [← hx1, ← hB] at HD
  go_wp2_with fail
  rw [← hx1]
  refine (one_calls (w.heap.size + 1) 1100 3 _ HD.out.cur (by omega) (by omega) (by omega)).mono ?_
  rintro e w3 ⟨b3, rfl, hc3, ho3⟩
  have HS3 := Lib.hid (HD.out.move hc3 ho3)
  clear hc3 ho3 HD hx1
  subst hB
  go_upto_if 13 with fail
  go_cut [4] from 7 to 24 (fun u wx => u = .pointer (some ⟨w.heap.size + 1, 0, none⟩) ∧ ∃ (v : Value) (l : List EntD), EntsB 41 8 l ∧ StkS w wx w1.heap.size 2300 v l)
  case first =>
    cases b3
    · go_wp2
      go_meet
      exact ⟨rfl, _, l, HE.out, HS3.out.more (by omega)⟩
    · go_wp2_with fail
      refine (l22Draw_calls (w.heap.size + 1) 1102 _ HS3.out.cur (by omega)).mono ?_
      rintro e w4 ⟨v4, l4, rfl, hd4, he4, -, hc4, ho4⟩
      obtain ⟨A4, c4, rfl, -, -, -⟩ := hd4.slice
      have hz3 := HS3.out.cur.1
      have HS4 := Lib.hid (HS3.out.move hc4 ho4)
      have HS5 := Lib.hid (HS4.out.store (hd4.low (by omega) (by omega)))
      have HE4 := Lib.hid he4
      have cB4 := HS4.out.box.cell
      have fB4 := HS4.out.box.free
      clear hd4 he4 hc4 ho4
      go_wp2
      go_meet
      exact ⟨rfl, _, l4, HE4.out, HS5.out.more (by omega)⟩
  case rest =>
  clear HS3 HE
  obtain ⟨rfl, v5, l5, he5, hS5⟩ := hcut
  obtain ⟨A5, c5, rfl, -, -, -⟩ := hS5.dict.slice
  have HE5 := Lib.hid he5
  have HS5 := Lib.hid hS5
  have cB5 := hS5.box.cell
  have hz5 := hS5.cur.1
  clear he5 hS5
  go_wp2_with fail
  refine (l23DrawStrokes_calls (w.heap.size + 1) 2300 (w.heap.size + 2) A5 c5 l5 _ HS5.out.cur (by omega) (by omega) HS5.out.dict HE5.out).mono ?_
  rintro e w6 ⟨v6, xs, rfl, own6, hxl, hc6, ho6⟩
  obtain ⟨A6, c6, rfl, -, hc6n, hc6m⟩ := own6.slice
  have HS6 := Lib.hid (HS5.out.move hc6 ho6)
  have HO6 := Lib.hid own6.1
  have hz6 := ho6.size
  clear hc6 ho6 cB5 own6
  go_wp2_with fail
  refine (one_calls (w.heap.size + 1) _ 20 _ HS6.out.cur (by omega) (by omega) (by omega)).mono ?_
  rintro e w7 ⟨b7, rfl, hc7, ho7⟩
  have own7 := ownsRow_only HO6.out ho7 (fun g' hg' => by have h1 := (HO6.out.lt g' hg').1; omega)
  have HS7 := Lib.hid (HS6.out.move hc7 ho7)
  have HO7 := Lib.hid own7
  have hz7 := ho7.size
  clear hc7 ho7 own7
  go_upto_if 20 with fail
  go_cut [6] from 7 to 24 (fun u wx => u = .slice A6 xs.length c6 ∧ ∃ (v : Value) (l : List EntD) (lo : Nat), w.heap.size + 2 ≤ lo ∧ wx.ownsRow lo 3 1 (.slice A6 xs.length c6) xs.length (ints xs) ∧ EntsB 41 8 l ∧ StkS w wx w1.heap.size 100000 v l)
  case first =>
    cases b7
    · go_wp2
      go_meet
      exact ⟨rfl, _, l5, _, hz5, HO7.out, HE5.out, HS7.out.more (by omega)⟩
    · go_wp2_with fail
      refine (anyDictionary_calls (w.heap.size + 1) _ _ HS7.out.cur (by omega)).mono ?_
      rintro e w8 ⟨v8, l8, rfl, hd8, he8, -, hc8, ho8⟩
      obtain ⟨A8, c8, rfl, -, -, -⟩ := hd8.slice
      have own8 := ownsRow_only HO7.out ho8 (fun g' hg' => by have h1 := (HO7.out.lt g' hg').1; omega)
      have hz8 := ho8.size
      have HS8 := Lib.hid (HS7.out.move hc8 ho8)
      have HS9 := Lib.hid (HS8.out.store (hd8.low (by omega) (by omega)))
      have HO9 := Lib.hid (ownsRow_setCell_other (a := ⟨w1.heap.size, 0, none⟩) own8 (HS8.out.box.ne_own own8 (by decide)) (.slice A8 l8.length c8))
      have HE8 := Lib.hid (he8.more (n' := 41) (m' := 8) (by omega) (by omega))
      have cB8 := HS8.out.box.cell
      have fB8 := HS8.out.box.free
      clear hd8 he8 hc8 ho8 own8
      go_wp2
      go_meet
      exact ⟨rfl, _, l8, _, hz5, HO9.out, HE8.out, HS9.out.more (by omega)⟩
  case rest =>
  clear HS7 HO7 HE5 HS6 HO6 HS5
  obtain ⟨rfl, v9, l9, lo, hlo, own9, he9, hS9⟩ := hcut
  obtain ⟨A9, c9, rfl, -, -, -⟩ := hS9.dict.slice
  have HE9 := Lib.hid he9
  have HS9 := Lib.hid hS9
  have HOW := Lib.hid own9
  have cB9 := hS9.box.cell
  have fR9 := hS9.res.free
  have cR9 := hS9.res.cell
  have hBw := hS9.bw
  clear he9 hS9 own9
  go_wp2
  refine bodyPost_ret (v := .tuple #[.agg #[.slice A9 l9.length c9], .slice A6 xs.length c6]) (by simp [results, go_sem, (HS9.out.res.set_ (.slice A9 l9.length c9)).cell]) rfl ?_
  have HD := HS9.out
  exact ⟨_, l9, A6, c6, xs, rfl, (HD.dict.setBox HD.res _).low (by omega) (by omega), HE9.out, Reads.of_own (ownsRow_setCell_below HOW.out (a := ⟨w.heap.size, 0, none⟩) (show w.heap.size < lo by omega) (.slice A9 l9.length c9)), by omega, hc6n, hc6m, HD.bel.setCell (p := ⟨w.heap.size, 0, none⟩) (Nat.le_refl _) _⟩
end Go.Proofs.YtoimkppjbabgeaaGreatDoor
