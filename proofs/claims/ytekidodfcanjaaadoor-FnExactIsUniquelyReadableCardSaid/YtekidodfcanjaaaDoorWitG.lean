/-
  slices.Delete of one of the program's open states.
-/
import Derived.Test.YtekidodfcanjaaaDoorWitS
import Derived.Lib.SliceRun
import Derived.Deep.RegionLaw
namespace Go.Proofs.YtekidodfcanjaaaDoor
open Go.RowKit
set_option linter.unusedVariables false
set_option linter.unusedSimpArgs false
set_option maxRecDepth 100000

def writes : List Value → Nat → List Value → List Value
  | xs, _, [] => xs
  | xs, o, v :: r => writes (xs.set o v) (o + 1) r
theorem writes_eq : ∀ (vs xs : List Value) (o : Nat), o + vs.length ≤ xs.length → writes xs o vs = xs.take o ++ vs ++ xs.drop (o + vs.length)
  | [], xs, o, h => by simp [writes]
  | v :: r, xs, o, h => by
    have ho : o < xs.length := by simp at h; omega
    obtain ⟨A, hA⟩ : ∃ A, A = xs.take o := ⟨_, rfl⟩
    obtain ⟨C, hC⟩ : ∃ C, C = xs.drop (o + 1) := ⟨_, rfl⟩
    have hl : A.length = o := by rw [hA]; simp; omega
    have hs : xs.set o v = A ++ v :: C := by rw [hA, hC, List.set_eq_take_append_cons_drop, if_pos ho]
    have t1 : (A ++ v :: C).take (o + 1) = A ++ [v] := by rw [show o + 1 = A.length + 1 by omega, List.take_length_add_append]; simp
    have t2 : (A ++ v :: C).drop (o + 1 + r.length) = C.drop r.length := by
      rw [show o + 1 + r.length = A.length + (r.length + 1) by omega, List.drop_length_add_append]; simp
    rw [writes, writes_eq r _ _ (by simp at h ⊢; omega), hs, t1, t2, ← hA, hC, List.drop_drop]
    simp only [List.append_assoc, List.singleton_append, List.cons_append, List.nil_append, List.length_cons]
    rw [show o + 1 + r.length = o + (r.length + 1) by omega]
section
variable {B size n cap g m : Nat} {e : TypeId}
theorem own_sets : ∀ (vs : List Value) (o : Nat) (w : World) (xs : List Value), w.ownsRow B e size (.slice (some ⟨g, 0, none⟩) n cap) n xs → (w.setCells g o vs).ownsRow B e size (.slice (some ⟨g, 0, none⟩) n cap) n (writes xs o vs)
  | [], o, w, xs, h => h
  | v :: r, o, w, xs, h => own_sets r (o + 1) _ _ (h.stored o v).1
theorem only_sets (g : Nat) : ∀ (vs : List Value) (o : Nat) (w : World), Only g (g + 1) w (w.setCells g o vs)
  | [], o, w => Only.refl w
  | v :: r, o, w => ((Only.refl w).setCell (p := ⟨g, o, none⟩) (Nat.le_refl _) (Nat.lt_succ_self _) v).trans (only_sets g r (o + 1) _)
theorem own_less {w : World} {xs : List Value} (h : w.ownsRow B e size (.slice (some ⟨g, 0, none⟩) n cap) n xs) (hm : m ≤ n) : w.ownsRow B e size (.slice (some ⟨g, 0, none⟩) m cap) m (xs.take (m * size)) := by
  obtain ⟨h1, h2⟩ := h
  have hms : m * size ≤ n * size := Nat.mul_le_mul_right _ hm
  refine ⟨by rw [List.length_take, h1]; exact Nat.min_eq_left hms, .inr ?_⟩
  rcases h2 with ⟨hv, _⟩ | ⟨g', cap', cur, hv, hb, hg, hn, hc, hs, ht⟩
  · cases hv
  · injection hv with hv1 _ hv3
    injection hv1 with hv1
    injection hv1 with e1
    subst e1 hv3
    exact ⟨g, cap, cur, rfl, hb, hg, by omega, hc, hs, by rw [← ht, List.take_take, Nat.min_eq_left hms]⟩
end
theorem info_wit : (Tryd.prog.info? 58).map (fun i => (i.zero, i.size, i.bytes)) = some (some (.agg #[.slice none 0 0, .slice none 0 0]), 2, 48) := by kernel_rfl
theorem zero_wit : ∀ w, (zeroValue 58).run Tryd.prog w = .ok (.agg #[.slice none 0 0, .slice none 0 0]) w := by
  first | exact Tryd.zeroValue58 | (intro w; kernel_rfl) | (intro w; rfl)
/-- 'clear' of one state. -/
theorem run_clear_one (w : World) (ty : TypeId) (b o c : Nat) (hc : ∀ j, j < 2 → (w.cell? ⟨b, o + j, none⟩).isSome = true) (hf : ∀ j, j < 2 → w.frozen? ⟨b, o + j, none⟩ = false) :
    (Builtin.clear_ #[55] ty #[.slice (some ⟨b, o, none⟩) 1 c]).run Tryd.prog w = .ok (.tuple #[]) (w.setCells b o [.slice none 0 0, .slice none 0 0]) := by
  have hzc : (Builtin.zeroCells (Value.agg #[.slice none 0 0, .slice none 0 0]).cells 1).toList = [.slice none 0 0, .slice none 0 0] := by
    have e : (Value.agg #[.slice none 0 0, .slice none 0 0]).cells = #[.slice none 0 0, .slice none 0 0] := by simp [Value.cells]
    rw [e]
    simp [Builtin.zeroCells, Array.range, Array.ofFn]
    try rfl
  have hst := run_storeCells_cells (P := Tryd.prog) b o [.slice none 0 0, .slice none 0 0] 0 w (by simpa using hc) (by simpa using hf) (by intro v hv; simp at hv; rw [hv]; rfl)
  simp only [Nat.add_zero] at hst
  simp [Builtin.clear_, run_underlying Tryd.underlying55, zero_wit, hzc, hst]
theorem info_two {P : Program} {e : TypeId} {z : Value} {bytes : Nat} (h : (P.info? e).map (fun i => (i.zero, i.size, i.bytes)) = some (some z, 2, bytes)) : ∃ i0, P.info? e = some i0 ∧ i0.size = 2 := by
  cases hi : P.info? e with
  | none => rw [hi] at h; cases h
  | some i => rw [hi] at h; simp at h; exact ⟨i, rfl, h.2.1⟩
set_option maxHeartbeats 4000000 in
theorem slices_Delete_wit (B g cap N k : Nat) (xs : List Value) (w : World) (h : w.ownsRow B 58 2 (.slice (some ⟨g, 0, none⟩) (N + 1) cap) (N + 1) xs) (hk : k < N + 1) (hn : N ≤ 1000000) (h1 : ∀ u ∈ xs, u.oneCell' = true) :
    Calls Tryd.prog 29 #[.slice (some ⟨g, 0, none⟩) (N + 1) cap, .int .i64 k, .int .i64 ((k : Int) + 1)] w fun e w' => e = .returned (.slice (some ⟨g, 0, none⟩) N cap) ∧ w'.ownsRow B 58 2 (.slice (some ⟨g, 0, none⟩) N cap) N (xs.take (k * 2) ++ xs.drop ((k + 1) * 2)) ∧ Only g (g + 1) w w' := by
  obtain ⟨g', cap', hv, -, -, hgl, hcap, hcm, hcell, hfr⟩ := (Own.of_row h).open_ (by omega)
  injection hv with hv1 hv0 hv2
  injection hv1 with hv1
  injection hv1 with hv1 hv3 hv4
  clear hv0 hv3 hv4
  subst hv1 hv2
  have hxl := h.1
  unfold maxLen at hcm
  obtain ⟨i0, hi0, hz1⟩ := info_two info_wit
  -- the cells that are moved to the left
  obtain ⟨news, hnews⟩ : ∃ news, news = xs.drop ((k + 1) * 2) := ⟨_, rfl⟩
  have hnl : news.length = (N + 1 - (k + 1)) * 2 := by rw [hnews, List.length_drop, hxl]; omega
  -- the worlds behind the append and behind 'clear'
  obtain ⟨W1, hW1⟩ : ∃ W1, W1 = w.drew.setCells g (0 + k * 2) news := ⟨_, rfl⟩
  have o1 : W1.ownsRow B 58 2 (.slice (some ⟨g, 0, none⟩) (N + 1) cap) (N + 1) (writes xs (0 + k * 2) news) := by rw [hW1]; exact own_sets news (0 + k * 2) w.drew xs h
  have y1 : Only g (g + 1) w W1 := by rw [hW1]; exact (Only.refl w).drew.trans (only_sets g news _ w.drew)
  have hw1 : writes xs (0 + k * 2) news = xs.take (k * 2) ++ news ++ xs.drop (N * 2) := by
    rw [Nat.zero_add, writes_eq _ _ _ (by rw [hnl, hxl]; omega), hnl, show k * 2 + (N + 1 - (k + 1)) * 2 = N * 2 by omega]
  obtain ⟨W2, hW2⟩ : ∃ W2, W2 = W1.setCells g (N * 2) [.slice none 0 0, .slice none 0 0] := ⟨_, rfl⟩
  have hwl : (writes xs (0 + k * 2) news).length = (N + 1) * 2 := o1.1
  have o2 : W2.ownsRow B 58 2 (.slice (some ⟨g, 0, none⟩) N cap) N (xs.take (k * 2) ++ news) := by
    have h2 := own_less (own_sets [.slice none 0 0, .slice none 0 0] (N * 2) W1 _ o1) (show N ≤ N + 1 by omega)
    rw [← hW2, writes_eq _ _ _ (by rw [hwl]; simp; omega), hw1] at h2
    have hl2 : (xs.take (k * 2) ++ news).length = N * 2 := by rw [List.length_append, List.length_take, hnl, hxl]; omega
    have e2 : ((xs.take (k * 2) ++ news ++ xs.drop (N * 2)).take (N * 2) ++ [Value.slice none 0 0, .slice none 0 0] ++ (xs.take (k * 2) ++ news ++ xs.drop (N * 2)).drop (N * 2 + [Value.slice none 0 0, .slice none 0 0].length)).take (N * 2) = xs.take (k * 2) ++ news := by
      rw [List.append_assoc, List.take_append_of_le_length (by rw [List.length_take, List.length_append, hl2]; omega), List.take_take, Nat.min_self, List.take_append_of_le_length (by omega), List.take_of_length_le (by omega)]
    rw [e2] at h2
    exact h2
  have y2 : Only g (g + 1) w W2 := by rw [hW2]; exact y1.trans (only_sets g _ _ W1)
  obtain ⟨_, _, hv5, -, -, -, -, -, hcell1, hfr1⟩ := (Own.of_row o1).open_ (by omega)
  injection hv5 with hv5 hq1 hq2
  injection hv5 with hv5
  injection hv5 with hv5 hq3 hq4
  clear hq1 hq2 hq3 hq4
  subst hv5
  have hcl : ∀ ty, (Builtin.clear_ #[55] ty #[.slice (some ⟨g, N * 2, none⟩) 1 (cap - N)]).run Tryd.prog W1 = .ok (.tuple #[]) W2 := fun ty => by
    rw [hW2]
    exact run_clear_one W1 ty g (N * 2) (cap - N) (fun j hj => by
      rw [hcell1 (N * 2 + j) (by omega)]
      obtain ⟨u, hu⟩ := some_at (writes xs (0 + k * 2) news) (show N * 2 + j < _ by rw [hwl]; omega)
      rw [hu]; rfl) (fun j hj => hfr1 _)
  have HN := Lib.hid hnl
  have HSRC := Lib.hid (show ∀ (j : Nat) u, news[j]? = some u → w.drew.cell? ((⟨g, (k + 1) * 2, none⟩ : Addr).add j) = some u from fun j u hu => by
    have hj := (List.getElem?_eq_some_iff.1 hu).1
    rw [show (⟨g, (k + 1) * 2, none⟩ : Addr).add j = ⟨g, (k + 1) * 2 + j, none⟩ by unfold Addr.add; split <;> simp_all]
    show w.cell? _ = _
    rw [hcell _ (by rw [hnl] at hj; omega)]
    rw [hnews, List.getElem?_drop] at hu
    exact hu)
  have HONE := Lib.hid (show ∀ u ∈ news, u.oneCell' = true from fun u hu => h1 u (by rw [hnews] at hu; exact List.mem_of_mem_drop hu))
  have HSP := Lib.hid (show ∀ j, j < news.length → (w.drew.cell? ⟨g, 0 + k * 2 + j, none⟩).isSome = true ∧ w.drew.frozen? ⟨g, 0 + k * 2 + j, none⟩ = false from fun j hj => by
    refine ⟨?_, hfr _⟩
    show (w.cell? _).isSome = true
    rw [hcell (0 + k * 2 + j) (by rw [hnl] at hj; omega)]
    obtain ⟨u, hu⟩ := some_at xs (show 0 + k * 2 + j < xs.length by rw [hnl] at hj; rw [hxl]; omega)
    rw [hu]; rfl)
  have HW1 := Lib.hid hW1
  have HO2 := Lib.hid o2
  have HY2 := Lib.hid y2
  have HNW := Lib.hid hnews
  have HCL := Lib.hid hcl
  clear h hcell hfr h1 hxl hcell1 hfr1 o1 o2 y1 y2 hw1 hwl hW1 hW2 hnews hnl hcl
  have k0 : (0 : Int) ≤ (k : Int) := by omega
  have k1 : (k : Int) < ((N : Int) + 1) := by omega
  have k2 : (0 : Int) ≤ (k : Int) + 1 := by omega
  have k3 : (k : Int) + 1 ≤ (N : Int) + 1 := by omega
  have k4 : ((k : Int) + 1).toNat = k + 1 := by omega
  have k5 : ((k : Int) == (k : Int) + 1) = false := by rw [beq_eq_false_iff_ne]; omega
  have k6 : (N : Int) + 1 ≤ (cap : Int) := by omega
  have k7 : (k : Int) ≤ (cap : Int) := by omega
  have k8 : (k : Int) + 1 ≤ (cap : Int) := by omega
  have k9 : k ≤ cap := by omega
  have k10 : k + 1 ≤ cap := by omega
  by_cases hce : cap = k + 1
  · obtain rfl : k = N := by omega
    subst hce
    have j1 : (k : Int) ≤ (k : Int) + 1 := by omega
    have j2 : ((k + 1 : Nat) : Int) = (k : Int) + 1 := by omega
    rw [j2] at k6 k7 k8
    clear j2
    have hn0 : news = [] := List.eq_nil_of_length_eq_zero (by rw [HN.out]; omega)
    subst hn0
    go_enter Tryd.func29, Tryd.ntmps29
    go_wp2_with fail
    first | refine wp_region_noPanic ?_ | skip
    refine wp_region_held_drew (S := fun _ => True) (by kernel_rfl) (by exact trivial) (fun hHeld => ?_)
    (refine wpAnyH_take (i := 0) (v := ?_) rfl (by kernel_rfl) (by kernel_rfl) (by kernel_rfl) (fun _ _ _ h => h) (Or.inl ⟨by rfl, ?_⟩) (by assumption) ?_; rotate_left; focus (intro w hSw; (try dsimp only at hSw); go_simp; try with_reducible rfl))
    (try simp only [List.getElem_toArray, List.getElem_cons_succ, List.getElem_cons_zero, Act.put, List.setIfInBounds_toArray, List.set_cons_zero, List.set_cons_succ])
    (refine wpAnyH_take (i := 1) (v := ?_) rfl (by kernel_rfl) (by kernel_rfl) (by kernel_rfl) (fun _ _ _ h => h) (Or.inl ⟨by rfl, ?_⟩) (by assumption) ?_; rotate_left; focus (intro w hSw; (try dsimp only at hSw); go_simp; try with_reducible rfl))
    (try simp only [List.getElem_toArray, List.getElem_cons_succ, List.getElem_cons_zero, Act.put, List.setIfInBounds_toArray, List.set_cons_zero, List.set_cons_succ])
    (refine wpAnyH_take (i := 2) (v := ?_) rfl (by kernel_rfl) (by kernel_rfl) (by kernel_rfl) (fun _ _ _ h => h) (Or.inl ⟨by rfl, ?_⟩) (by assumption) ?_; rotate_left; focus (intro w hSw; (try dsimp only at hSw); go_simp; try with_reducible rfl))
    (try simp only [List.getElem_toArray, List.getElem_cons_succ, List.getElem_cons_zero, Act.put, List.setIfInBounds_toArray, List.set_cons_zero, List.set_cons_succ])
    (refine wpAnyH_take (i := 3) (v := ?_) rfl (by kernel_rfl) (by kernel_rfl) (by kernel_rfl) (fun _ _ _ h => h) (Or.inl ⟨by rfl, ?_⟩) (by assumption) ?_; rotate_left; focus (intro w hSw; (try dsimp only at hSw); go_simp; try with_reducible rfl))
    (try simp only [List.getElem_toArray, List.getElem_cons_succ, List.getElem_cons_zero, Act.put, List.setIfInBounds_toArray, List.set_cons_zero, List.set_cons_succ])
    (refine wpAnyH_take (i := 4) (v := ?_) rfl (by kernel_rfl) (by kernel_rfl) (by kernel_rfl) (fun _ _ _ h => h) (Or.inl ⟨by rfl, ?_⟩) (by assumption) ?_; rotate_left; focus (intro w hSw; (try dsimp only at hSw); go_simp; try with_reducible rfl))
    (try simp only [List.getElem_toArray, List.getElem_cons_succ, List.getElem_cons_zero, Act.put, List.setIfInBounds_toArray, List.set_cons_zero, List.set_cons_succ])
    (refine wpAnyH_take (i := 5) (v := ?_) rfl (by kernel_rfl) (by kernel_rfl) (by kernel_rfl) (fun _ _ _ h => h) (Or.inl ⟨by rfl, ?_⟩) (by assumption) ?_; rotate_left; focus (intro w hSw; (try dsimp only at hSw); go_simp; try with_reducible rfl))
    (try simp only [List.getElem_toArray, List.getElem_cons_succ, List.getElem_cons_zero, Act.put, List.setIfInBounds_toArray, List.set_cons_zero, List.set_cons_succ])
    refine wpAnyH_ready (rs := [6]) (by kernel_rfl) (by simp) ?_
    refine AllReadyH.cons rfl (fun K hK => ?_) AllReadyH.nil
    refine step_append_room rfl (.tmp 22) (.tmp 25) 55 rfl 58 i0 2 Tryd.underlying55 hi0 hz1 g 0 k (k + 1) (by first | rfl | simp [Act.eval, Act.put]) ⟨g, 0, none⟩ 0 0 [] (by first | rfl | simp [Act.eval, Act.put]) (by simp) (fun j u h => by simp at h) (fun u h => by simp at h) (by omega) (fun j h => by simp at h) ?_
    refine hK.out _ _ (trivial) (fun hHeld => ?_)
    clear hK K
    (try simp only [List.getElem_toArray, List.getElem_cons_succ, List.getElem_cons_zero, Act.put, List.setIfInBounds_toArray, List.set_cons_zero, List.set_cons_succ])
    (refine wpAnyH_take (i := 7) (v := ?_) rfl (by kernel_rfl) (by kernel_rfl) (by kernel_rfl) (fun _ _ _ h => h) (Or.inl ⟨by rfl, ?_⟩) (by assumption) ?_; rotate_left; focus (intro w hSw; (try dsimp only at hSw); go_simp; try with_reducible rfl))
    (try simp only [List.getElem_toArray, List.getElem_cons_succ, List.getElem_cons_zero, Act.put, List.setIfInBounds_toArray, List.set_cons_zero, List.set_cons_succ])
    refine wpAnyH_done (by kernel_rfl) ?_ _
    first | refine NoPanic.normal ?_ | skip
    rw [← HW1.out]
    have hNc : ¬ k + 1 = k := by omega
    have hcl := HCL.out
    rw [show k + 1 - k = 1 by omega] at hcl
    have j4 : ((k : Int) + 1).toNat = k + 1 := by omega
    clear hHeld
    go_wp2
    go_ret
    exact ⟨rfl, by rw [← HNW.out]; exact HO2.out, HY2.out⟩
  · go_enter Tryd.func29, Tryd.ntmps29
    go_wp2_with fail
    first | refine wp_region_noPanic ?_ | skip
    refine wp_region_held_drew (S := fun _ => True) (by kernel_rfl) (by exact trivial) (fun hHeld => ?_)
    (refine wpAnyH_take (i := 0) (v := ?_) rfl (by kernel_rfl) (by kernel_rfl) (by kernel_rfl) (fun _ _ _ h => h) (Or.inl ⟨by rfl, ?_⟩) (by assumption) ?_; rotate_left; focus (intro w hSw; (try dsimp only at hSw); go_simp; try with_reducible rfl))
    (try simp only [List.getElem_toArray, List.getElem_cons_succ, List.getElem_cons_zero, Act.put, List.setIfInBounds_toArray, List.set_cons_zero, List.set_cons_succ])
    (refine wpAnyH_take (i := 1) (v := ?_) rfl (by kernel_rfl) (by kernel_rfl) (by kernel_rfl) (fun _ _ _ h => h) (Or.inl ⟨by rfl, ?_⟩) (by assumption) ?_; rotate_left; focus (intro w hSw; (try dsimp only at hSw); go_simp; try with_reducible rfl))
    (try simp only [List.getElem_toArray, List.getElem_cons_succ, List.getElem_cons_zero, Act.put, List.setIfInBounds_toArray, List.set_cons_zero, List.set_cons_succ])
    (refine wpAnyH_take (i := 2) (v := ?_) rfl (by kernel_rfl) (by kernel_rfl) (by kernel_rfl) (fun _ _ _ h => h) (Or.inl ⟨by rfl, ?_⟩) (by assumption) ?_; rotate_left; focus (intro w hSw; (try dsimp only at hSw); go_simp; try with_reducible rfl))
    (try simp only [List.getElem_toArray, List.getElem_cons_succ, List.getElem_cons_zero, Act.put, List.setIfInBounds_toArray, List.set_cons_zero, List.set_cons_succ])
    (refine wpAnyH_take (i := 3) (v := ?_) rfl (by kernel_rfl) (by kernel_rfl) (by kernel_rfl) (fun _ _ _ h => h) (Or.inl ⟨by rfl, ?_⟩) (by assumption) ?_; rotate_left; focus (intro w hSw; (try dsimp only at hSw); go_simp; try with_reducible rfl))
    (try simp only [List.getElem_toArray, List.getElem_cons_succ, List.getElem_cons_zero, Act.put, List.setIfInBounds_toArray, List.set_cons_zero, List.set_cons_succ])
    (refine wpAnyH_take (i := 4) (v := ?_) rfl (by kernel_rfl) (by kernel_rfl) (by kernel_rfl) (fun _ _ _ h => h) (Or.inl ⟨by rfl, ?_⟩) (by assumption) ?_; rotate_left; focus (intro w hSw; (try dsimp only at hSw); go_simp; try with_reducible rfl))
    (try simp only [List.getElem_toArray, List.getElem_cons_succ, List.getElem_cons_zero, Act.put, List.setIfInBounds_toArray, List.set_cons_zero, List.set_cons_succ])
    (refine wpAnyH_take (i := 5) (v := ?_) rfl (by kernel_rfl) (by kernel_rfl) (by kernel_rfl) (fun _ _ _ h => h) (Or.inl ⟨by rfl, ?_⟩) (by assumption) ?_; rotate_left; focus (intro w hSw; (try dsimp only at hSw); go_simp; try with_reducible rfl))
    (try simp only [List.getElem_toArray, List.getElem_cons_succ, List.getElem_cons_zero, Act.put, List.setIfInBounds_toArray, List.set_cons_zero, List.set_cons_succ])
    refine wpAnyH_ready (rs := [6]) (by kernel_rfl) (by simp) ?_
    refine AllReadyH.cons rfl (fun K hK => ?_) AllReadyH.nil
    refine step_append_room rfl (.tmp 22) (.tmp 25) 55 rfl 58 i0 2 Tryd.underlying55 hi0 hz1 g 0 k cap (by first | rfl | simp [Act.eval, Act.put]) ⟨g, (k + 1) * 2, none⟩ (N + 1 - (k + 1)) (cap - (k + 1)) news (by first | rfl | simp [Act.eval, Act.put]) HN.out HSRC.out HONE.out (by omega) HSP.out ?_
    refine hK.out _ _ (trivial) (fun hHeld => ?_)
    clear hK K
    (try simp only [List.getElem_toArray, List.getElem_cons_succ, List.getElem_cons_zero, Act.put, List.setIfInBounds_toArray, List.set_cons_zero, List.set_cons_succ])
    (refine wpAnyH_take (i := 7) (v := ?_) rfl (by kernel_rfl) (by kernel_rfl) (by kernel_rfl) (fun _ _ _ h => h) (Or.inl ⟨by rfl, ?_⟩) (by assumption) ?_; rotate_left; focus (intro w hSw; (try dsimp only at hSw); go_simp; try with_reducible rfl))
    (try simp only [List.getElem_toArray, List.getElem_cons_succ, List.getElem_cons_zero, Act.put, List.setIfInBounds_toArray, List.set_cons_zero, List.set_cons_succ])
    refine wpAnyH_done (by kernel_rfl) ?_ _
    first | refine NoPanic.normal ?_ | skip
    rw [← HW1.out]
    rw [show k + (N - k) = N by omega]
    have hNc : ¬ cap = N := by omega
    have hcl := HCL.out
    have j1 : (0 : Int) ≤ (N : Int) := by omega
    have j2 : (N : Int) ≤ (N : Int) + 1 := by omega
    have j3 : ((N : Int) + 1).toNat = N + 1 := by omega
    clear hHeld
    go_wp2
    go_ret
    exact ⟨rfl, by rw [← HNW.out]; exact HO2.out, HY2.out⟩
end Go.Proofs.YtekidodfcanjaaaDoor
