/-
  The program's step of a state of the search.
-/
import Derived.Test.YtekidodfcanjaaaDoorWitA
import Derived.Test.YtekidodfcanjaaaDoorBegins
import Derived.Test.YtekidodfcanjaaaDoorConcatI
import Derived.Test.YtekidodfcanjaaaDoorDictT
namespace Go.Proofs.YtekidodfcanjaaaDoor
open Go.RowKit
set_option linter.unusedVariables false
set_option linter.unusedSimpArgs false
set_option maxRecDepth 100000

/-- A state of the search as a value: the strokes and what is left of the longer reading. -/
def WitV (B : Nat) (w : World) (v : Value) (r a : List Int) : Prop := ∃ (A R : Option Addr) (ca cr : Nat), v = .agg #[.slice A a.length ca, .slice R r.length cr] ∧ RowT 3 B w A a.length (ints a) ∧ RowT 3 B w R r.length (ints r) ∧ a.length ≤ ca ∧ ca ≤ maxLen ∧ r.length ≤ cr ∧ cr ≤ maxLen
theorem begins_le' {xs ys : List Int} (h : beginsB xs ys = true) : ys.length ≤ xs.length := by
  obtain ⟨x, hx⟩ := begins_iff.1 h
  rw [hx]; simp
def StepRes (B : Nat) (o r a : List Int) (w : World) (e : Ending) (w' : World) : Prop := ∃ v, e = .returned (.tuple #[v, .bool (stepO o r a).isSome]) ∧ (∃ (X : Option Addr) (nx cx : Nat) (Y : Option Addr) (ny cy : Nat), v = .agg #[.slice X nx cx, .slice Y ny cy]) ∧ (∀ r' a', stepO o r a = some (r', a') → WitV B w' v r' a') ∧ Below w.heap.size w w'
set_option maxHeartbeats 2000000 in
theorem impl_step (B : Nat) (A R O : Option Addr) (ca cr co : Nat) (o r a : List Int) (w : World) (hBw : B ≤ w.heap.size) (ha : RowT 3 B w A a.length (ints a)) (hr : RowT 3 B w R r.length (ints r)) (ho : RowT 3 B w O o.length (ints o))
    (hal : a.length ≤ 1048576) (hrl : r.length ≤ 1048576) (hol : o.length ≤ 1048576) (ha0 : 0 < a.length) (hr0 : 0 < r.length) (ho0 : 0 < o.length) (hca : a.length ≤ ca) (hcam : ca ≤ maxLen) (hcr : r.length ≤ cr) (hcrm : cr ≤ maxLen) (hco : o.length ≤ co) (hcom : co ≤ maxLen) :
    Calls Tryd.prog 33 #[.agg #[.slice A a.length ca, .slice R r.length cr], .slice O o.length co] w (StepRes B o r a w) := by
  obtain ⟨W1, hW1⟩ : ∃ W1, W1 = (w.alloc (.cells #[.slice A a.length ca, .slice R r.length cr] 58)).alloc (.cells #[.slice none 0 0, .slice none 0 0] 58) := ⟨_, rfl⟩
  have t0 : Two W1 w.heap.size 58 (.slice A a.length ca) (.slice R r.length cr) := by rw [hW1]; exact (Two.new w _ _ _).far ((Below.refl _ _).alloc (Nat.le_refl _) _)
  have t1 : Two W1 (w.heap.size + 1) 58 (.slice none 0 0) (.slice none 0 0) := by
    rw [hW1]
    have := Two.new (w.alloc (.cells #[.slice A a.length ca, .slice R r.length cr] 58)) 58 (.slice none 0 0) (.slice none 0 0)
    simpa using this
  have b1 : Below w.heap.size w W1 := by rw [hW1]; exact ((Below.refl _ _).alloc (Nat.le_refl _) _).alloc (by simp) _
  have k1 := Keep.of_below (e := 3) b1 hBw
  have HA := Lib.hid (ha.keep k1)
  have HR := Lib.hid (hr.keep k1)
  have HO := Lib.hid (ho.keep k1)
  obtain ⟨bR, oR, hRA, -, -⟩ := hr.2 hr0
  obtain ⟨bO, oO, hOA, -, -⟩ := ho.2 ho0
  subst hRA hOA
  have c0 := t0.cell0
  have c1 := t0.cell1
  unfold maxLen at hcrm hcom
  clear ha hr ho k1
  go_enter Tryd.func33, Tryd.ntmps33
  go_upto_region 1 with fail
  rw [← hW1]
  clear hW1
  go_wp2_with fail
  refine (impl_startsWith (some ⟨bR, oR, none⟩) (some ⟨bO, oO, none⟩) cr co r o _ HR.out.reads HO.out.reads hrl ho0 hcr hcrm).mono ?_
  rintro e w2 ⟨rfl, b2⟩
  have T0 := Lib.hid (t0.far b2)
  have T1 := Lib.hid (t1.far b2)
  have B2 := b1.trans (b2.mono b1.size)
  have k2 := Keep.of_below (e := 3) b2 (Nat.le_trans hBw b1.size)
  have HA2 := Lib.hid (HA.out.keep k2)
  have HR2 := Lib.hid (HR.out.keep k2)
  have HO2 := Lib.hid (HO.out.keep k2)
  clear c0 c1 t0 t1 HA HR HO k2 b2
  by_cases h1 : beginsB r o = true
  · rw [h1]
    have hle := begins_le' h1
    have l0 : (0 : Int) ≤ (o.length : Int) := by omega
    have l1 : (o.length : Int) ≤ (r.length : Int) := by omega
    have c0 := T0.out.cell0
    have c1 := T0.out.cell1
    go_wp2
    by_cases hce : cr = o.length
    · subst hce
      have cD : w2.drew.cell? ⟨w.heap.size, 0, none⟩ = some (.slice A a.length ca) ∧ w2.drew.cell? ⟨w.heap.size, 1, none⟩ = some (.slice (some ⟨bR, oR, none⟩) r.length o.length) := ⟨c0, c1⟩
      have u0 := T1.out.cell0
      have u1 := T1.out.cell1
      have hT1 : w2.drew.heap[w.heap.size + 1]? = some (.cells #[.slice none 0 0, .slice none 0 0] 58 (0, 0)) := T1.out
      first | refine wp_region_noPanic ?_ | skip
      refine wp_region_held_drew (S := fun w' => w'.cell? ⟨w.heap.size, 0, none⟩ = some (.slice A a.length ca) ∧ w'.cell? ⟨w.heap.size, 1, none⟩ = some (.slice (some ⟨bR, oR, none⟩) r.length o.length)) (by kernel_rfl) (by exact cD) (fun hHeld => ?_)
      (refine wpAnyH_take (i := 0) (v := ?_) rfl (by kernel_rfl) (by kernel_rfl) (by kernel_rfl) (fun _ _ _ h => h) (Or.inl ⟨by rfl, ?_⟩) (by assumption) ?_; rotate_left; focus (intro w hSw; (try dsimp only at hSw); go_simp; try with_reducible rfl))
      (try simp only [List.getElem_toArray, List.getElem_cons_succ, List.getElem_cons_zero, Act.put, List.setIfInBounds_toArray, List.set_cons_zero, List.set_cons_succ])
      (refine wpAnyH_take (i := 1) (v := ?_) rfl (by kernel_rfl) (by kernel_rfl) (by kernel_rfl) (fun _ _ _ h => h) (Or.inl ⟨by rfl, ?_⟩) (by assumption) ?_; rotate_left; focus (intro w hSw; (try dsimp only at hSw); go_simp; try with_reducible rfl))
      (try simp only [List.getElem_toArray, List.getElem_cons_succ, List.getElem_cons_zero, Act.put, List.setIfInBounds_toArray, List.set_cons_zero, List.set_cons_succ])
      (refine wpAnyH_take (i := 2) (v := ?_) rfl (by kernel_rfl) (by kernel_rfl) (by kernel_rfl) (fun _ _ _ h => h) (Or.inl ⟨by rfl, ?_⟩) (by assumption) ?_; rotate_left; focus (intro w hSw; (try dsimp only at hSw); go_simp; try with_reducible rfl))
      (try simp only [List.getElem_toArray, List.getElem_cons_succ, List.getElem_cons_zero, Act.put, List.setIfInBounds_toArray, List.set_cons_zero, List.set_cons_succ])
      (refine wpAnyH_take (i := 3) (v := ?_) rfl (by kernel_rfl) (by kernel_rfl) (by kernel_rfl) (fun _ _ _ h => h) (Or.inl ⟨by rfl, ?_⟩) (by assumption) ?_; rotate_left; focus (intro w hSw; (try dsimp only at hSw); go_simp; try with_reducible rfl))
      (try simp only [List.getElem_toArray, List.getElem_cons_succ, List.getElem_cons_zero, Act.put, List.setIfInBounds_toArray, List.set_cons_zero, List.set_cons_succ])
      (refine wpAnyH_take (i := 4) (v := ?_) rfl (by kernel_rfl) (by kernel_rfl) (by kernel_rfl) (fun _ _ _ h => h) (Or.inl ⟨by rfl, ?_⟩) (by assumption) ?_; rotate_left; focus (intro w hSw; (try dsimp only at hSw); go_simp; try with_reducible rfl))
      (try simp only [List.getElem_toArray, List.getElem_cons_succ, List.getElem_cons_zero, Act.put, List.setIfInBounds_toArray, List.set_cons_zero, List.set_cons_succ])
      (refine wpAnyH_take (i := 5) (v := ?_) rfl (by kernel_rfl) (by kernel_rfl) (by kernel_rfl) (fun _ _ _ h => h) (Or.inl ⟨by rfl, ?_⟩) (by assumption) ?_; rotate_left; focus (intro w hSw; (try dsimp only at hSw); go_simp; try with_reducible rfl))
      (try simp only [List.getElem_toArray, List.getElem_cons_succ, List.getElem_cons_zero, Act.put, List.setIfInBounds_toArray, List.set_cons_zero, List.set_cons_succ])
      (refine wpAnyH_take (i := 6) (v := ?_) rfl (by kernel_rfl) (by kernel_rfl) (by kernel_rfl) (fun _ _ _ h => h) (Or.inl ⟨by rfl, ?_⟩) (by assumption) ?_; rotate_left; focus (intro w hSw; (try dsimp only at hSw); go_simp; try with_reducible rfl))
      (try simp only [List.getElem_toArray, List.getElem_cons_succ, List.getElem_cons_zero, Act.put, List.setIfInBounds_toArray, List.set_cons_zero, List.set_cons_succ])
      (refine wpAnyH_take (i := 7) (v := ?_) rfl (by kernel_rfl) (by kernel_rfl) (by kernel_rfl) (fun _ _ _ h => h) (Or.inl ⟨by rfl, ?_⟩) (by assumption) ?_; rotate_left; focus (intro w hSw; (try dsimp only at hSw); go_simp; try with_reducible rfl))
      (try simp only [List.getElem_toArray, List.getElem_cons_succ, List.getElem_cons_zero, Act.put, List.setIfInBounds_toArray, List.set_cons_zero, List.set_cons_succ])
      have f0 := T1.out.free 0
      have T3 := Lib.hid (T1.out.set0 (.slice A a.length ca))
      have d1 := T3.out.cell1
      have f1 := T3.out.free 1
      have T4 := Lib.hid (T1.out.setSelf (.slice A a.length ca) (.slice (some ⟨bR, oR, none⟩) 0 0))
      have T5 := Lib.hid (T0.out.setTwo (k := w.heap.size + 1) (by omega) (.slice A a.length ca) (.slice (some ⟨bR, oR, none⟩) 0 0))
      refine wpAnyH_ready (rs := [8]) (by kernel_rfl) (by simp) ?_
      refine AllReadyH.cons rfl (fun K hK => ?_) AllReadyH.nil
      go_simp
      refine hK.out _ _ (⟨T5.out.cell0, T5.out.cell1⟩) (fun hHeld => ?_)
      clear hK K
      (try simp only [List.getElem_toArray, List.getElem_cons_succ, List.getElem_cons_zero, Act.put, List.setIfInBounds_toArray, List.set_cons_zero, List.set_cons_succ])
      (refine wpAnyH_take (i := 9) (v := ?_) rfl (by kernel_rfl) (by kernel_rfl) (by kernel_rfl) (fun _ _ _ h => h) (Or.inl ⟨by rfl, ?_⟩) (by assumption) ?_; rotate_left; focus (intro w hSw; (try dsimp only at hSw); go_simp; try with_reducible rfl))
      (try simp only [List.getElem_toArray, List.getElem_cons_succ, List.getElem_cons_zero, Act.put, List.setIfInBounds_toArray, List.set_cons_zero, List.set_cons_succ])
      refine wpAnyH_done (by kernel_rfl) ?_ _
      first | refine NoPanic.normal ?_ | skip
      have hs2 := B2.size
      have B4 : Below w.heap.size w ((w2.setCell ⟨w.heap.size + 1, 0, none⟩ (.slice A a.length ca)).setCell ⟨w.heap.size + 1, 1, none⟩ (.slice (some ⟨bR, oR, none⟩) 0 0)) := (B2.setCell (p := ⟨w.heap.size + 1, 0, none⟩) (by simp) _).setCell (p := ⟨w.heap.size + 1, 1, none⟩) (by simp) _
      have K4 : Keep 3 B w2 ((w2.setCell ⟨w.heap.size + 1, 0, none⟩ (.slice A a.length ca)).setCell ⟨w.heap.size + 1, 1, none⟩ (.slice (some ⟨bR, oR, none⟩) 0 0)) := (Keep.of_cell (cur := #[.slice none 0 0, .slice none 0 0]) T1.out (by decide) (by omega) 0 (.slice A a.length ca)).trans (Keep.of_cell (cur := #[(.slice A a.length ca), .slice none 0 0]) T3.out (by decide) (by omega) 1 (.slice (some ⟨bR, oR, none⟩) 0 0))
      have t4 := T4.out
      obtain ⟨w4, hw4⟩ : ∃ w4, w4 = ((w2.setCell ⟨w.heap.size + 1, 0, none⟩ (.slice A a.length ca)).setCell ⟨w.heap.size + 1, 1, none⟩ (.slice (some ⟨bR, oR, none⟩) 0 0)) := ⟨_, rfl⟩
      rw [← hw4] at t4 B4 K4 ⊢
      have B4 := B4.drew
      have K4 := K4.drew
      have c4 := t4.cell0
      have d4 := t4.cell1
      clear hw4 T3 T4 T5
      clear hHeld u0 u1 hT1 f0 f1 d1 cD c0 c1
      go_wp2
      refine bodyPost_ret (v := .tuple #[.agg #[(.slice A a.length ca), (.slice (some ⟨bR, oR, none⟩) 0 0)], .bool true]) (by simp [results, go_sem, c4, d4]) rfl ?_
      have hst : stepO o r a = some (r.drop o.length, a) := by unfold stepO; rw [if_pos h1]
      refine ⟨_, by rw [hst]; rfl, ⟨_, _, _, _, _, _, rfl⟩, fun r' a' h => ?_, B4⟩
      rw [hst] at h
      injection h with h
      injection h with h3 h4
      subst h3 h4
      refine ⟨A, (some ⟨bR, oR, none⟩), ca, 0, by (try rw [List.length_drop]); (try rw [show r.length - o.length = 0 by omega]), HA2.out.keep K4, ?_, hca, hcam, by rw [List.length_drop]; omega, by unfold maxLen; omega⟩
      have hd := (HR2.out.keep K4).drop (k := o.length) (A' := (some ⟨bR, oR, none⟩)) hle (fun hk b off he => by
        injection he with he
        injection he with e1 e2
        subst e1 e2
        omega)
      rw [List.length_drop]
      rw [show ints (r.drop o.length) = (ints r).drop o.length by simp [ints, List.map_drop]]
      exact hd
    · have cD : w2.drew.cell? ⟨w.heap.size, 0, none⟩ = some (.slice A a.length ca) ∧ w2.drew.cell? ⟨w.heap.size, 1, none⟩ = some (.slice (some ⟨bR, oR, none⟩) r.length cr) := ⟨c0, c1⟩
      have u0 := T1.out.cell0
      have u1 := T1.out.cell1
      have hT1 : w2.drew.heap[w.heap.size + 1]? = some (.cells #[.slice none 0 0, .slice none 0 0] 58 (0, 0)) := T1.out
      first | refine wp_region_noPanic ?_ | skip
      refine wp_region_held_drew (S := fun w' => w'.cell? ⟨w.heap.size, 0, none⟩ = some (.slice A a.length ca) ∧ w'.cell? ⟨w.heap.size, 1, none⟩ = some (.slice (some ⟨bR, oR, none⟩) r.length cr)) (by kernel_rfl) (by exact cD) (fun hHeld => ?_)
      (refine wpAnyH_take (i := 0) (v := ?_) rfl (by kernel_rfl) (by kernel_rfl) (by kernel_rfl) (fun _ _ _ h => h) (Or.inl ⟨by rfl, ?_⟩) (by assumption) ?_; rotate_left; focus (intro w hSw; (try dsimp only at hSw); go_simp; try with_reducible rfl))
      (try simp only [List.getElem_toArray, List.getElem_cons_succ, List.getElem_cons_zero, Act.put, List.setIfInBounds_toArray, List.set_cons_zero, List.set_cons_succ])
      (refine wpAnyH_take (i := 1) (v := ?_) rfl (by kernel_rfl) (by kernel_rfl) (by kernel_rfl) (fun _ _ _ h => h) (Or.inl ⟨by rfl, ?_⟩) (by assumption) ?_; rotate_left; focus (intro w hSw; (try dsimp only at hSw); go_simp; try with_reducible rfl))
      (try simp only [List.getElem_toArray, List.getElem_cons_succ, List.getElem_cons_zero, Act.put, List.setIfInBounds_toArray, List.set_cons_zero, List.set_cons_succ])
      (refine wpAnyH_take (i := 2) (v := ?_) rfl (by kernel_rfl) (by kernel_rfl) (by kernel_rfl) (fun _ _ _ h => h) (Or.inl ⟨by rfl, ?_⟩) (by assumption) ?_; rotate_left; focus (intro w hSw; (try dsimp only at hSw); go_simp; try with_reducible rfl))
      (try simp only [List.getElem_toArray, List.getElem_cons_succ, List.getElem_cons_zero, Act.put, List.setIfInBounds_toArray, List.set_cons_zero, List.set_cons_succ])
      (refine wpAnyH_take (i := 3) (v := ?_) rfl (by kernel_rfl) (by kernel_rfl) (by kernel_rfl) (fun _ _ _ h => h) (Or.inl ⟨by rfl, ?_⟩) (by assumption) ?_; rotate_left; focus (intro w hSw; (try dsimp only at hSw); go_simp; try with_reducible rfl))
      (try simp only [List.getElem_toArray, List.getElem_cons_succ, List.getElem_cons_zero, Act.put, List.setIfInBounds_toArray, List.set_cons_zero, List.set_cons_succ])
      (refine wpAnyH_take (i := 4) (v := ?_) rfl (by kernel_rfl) (by kernel_rfl) (by kernel_rfl) (fun _ _ _ h => h) (Or.inl ⟨by rfl, ?_⟩) (by assumption) ?_; rotate_left; focus (intro w hSw; (try dsimp only at hSw); go_simp; try with_reducible rfl))
      (try simp only [List.getElem_toArray, List.getElem_cons_succ, List.getElem_cons_zero, Act.put, List.setIfInBounds_toArray, List.set_cons_zero, List.set_cons_succ])
      (refine wpAnyH_take (i := 5) (v := ?_) rfl (by kernel_rfl) (by kernel_rfl) (by kernel_rfl) (fun _ _ _ h => h) (Or.inl ⟨by rfl, ?_⟩) (by assumption) ?_; rotate_left; focus (intro w hSw; (try dsimp only at hSw); go_simp; try with_reducible rfl))
      (try simp only [List.getElem_toArray, List.getElem_cons_succ, List.getElem_cons_zero, Act.put, List.setIfInBounds_toArray, List.set_cons_zero, List.set_cons_succ])
      (refine wpAnyH_take (i := 6) (v := ?_) rfl (by kernel_rfl) (by kernel_rfl) (by kernel_rfl) (fun _ _ _ h => h) (Or.inl ⟨by rfl, ?_⟩) (by assumption) ?_; rotate_left; focus (intro w hSw; (try dsimp only at hSw); go_simp; try with_reducible rfl))
      (try simp only [List.getElem_toArray, List.getElem_cons_succ, List.getElem_cons_zero, Act.put, List.setIfInBounds_toArray, List.set_cons_zero, List.set_cons_succ])
      (refine wpAnyH_take (i := 7) (v := ?_) rfl (by kernel_rfl) (by kernel_rfl) (by kernel_rfl) (fun _ _ _ h => h) (Or.inl ⟨by rfl, ?_⟩) (by assumption) ?_; rotate_left; focus (intro w hSw; (try dsimp only at hSw); go_simp; try with_reducible rfl))
      (try simp only [List.getElem_toArray, List.getElem_cons_succ, List.getElem_cons_zero, Act.put, List.setIfInBounds_toArray, List.set_cons_zero, List.set_cons_succ])
      have f0 := T1.out.free 0
      have T3 := Lib.hid (T1.out.set0 (.slice A a.length ca))
      have d1 := T3.out.cell1
      have f1 := T3.out.free 1
      have T4 := Lib.hid (T1.out.setSelf (.slice A a.length ca) (.slice (some ⟨bR, oR + o.length, none⟩) (r.length - o.length) (cr - o.length)))
      have T5 := Lib.hid (T0.out.setTwo (k := w.heap.size + 1) (by omega) (.slice A a.length ca) (.slice (some ⟨bR, oR + o.length, none⟩) (r.length - o.length) (cr - o.length)))
      refine wpAnyH_ready (rs := [8]) (by kernel_rfl) (by simp) ?_
      refine AllReadyH.cons rfl (fun K hK => ?_) AllReadyH.nil
      go_simp
      refine hK.out _ _ (⟨T5.out.cell0, T5.out.cell1⟩) (fun hHeld => ?_)
      clear hK K
      (try simp only [List.getElem_toArray, List.getElem_cons_succ, List.getElem_cons_zero, Act.put, List.setIfInBounds_toArray, List.set_cons_zero, List.set_cons_succ])
      (refine wpAnyH_take (i := 9) (v := ?_) rfl (by kernel_rfl) (by kernel_rfl) (by kernel_rfl) (fun _ _ _ h => h) (Or.inl ⟨by rfl, ?_⟩) (by assumption) ?_; rotate_left; focus (intro w hSw; (try dsimp only at hSw); go_simp; try with_reducible rfl))
      (try simp only [List.getElem_toArray, List.getElem_cons_succ, List.getElem_cons_zero, Act.put, List.setIfInBounds_toArray, List.set_cons_zero, List.set_cons_succ])
      refine wpAnyH_done (by kernel_rfl) ?_ _
      first | refine NoPanic.normal ?_ | skip
      have hs2 := B2.size
      have B4 : Below w.heap.size w ((w2.setCell ⟨w.heap.size + 1, 0, none⟩ (.slice A a.length ca)).setCell ⟨w.heap.size + 1, 1, none⟩ (.slice (some ⟨bR, oR + o.length, none⟩) (r.length - o.length) (cr - o.length))) := (B2.setCell (p := ⟨w.heap.size + 1, 0, none⟩) (by simp) _).setCell (p := ⟨w.heap.size + 1, 1, none⟩) (by simp) _
      have K4 : Keep 3 B w2 ((w2.setCell ⟨w.heap.size + 1, 0, none⟩ (.slice A a.length ca)).setCell ⟨w.heap.size + 1, 1, none⟩ (.slice (some ⟨bR, oR + o.length, none⟩) (r.length - o.length) (cr - o.length))) := (Keep.of_cell (cur := #[.slice none 0 0, .slice none 0 0]) T1.out (by decide) (by omega) 0 (.slice A a.length ca)).trans (Keep.of_cell (cur := #[(.slice A a.length ca), .slice none 0 0]) T3.out (by decide) (by omega) 1 (.slice (some ⟨bR, oR + o.length, none⟩) (r.length - o.length) (cr - o.length)))
      have t4 := T4.out
      obtain ⟨w4, hw4⟩ : ∃ w4, w4 = ((w2.setCell ⟨w.heap.size + 1, 0, none⟩ (.slice A a.length ca)).setCell ⟨w.heap.size + 1, 1, none⟩ (.slice (some ⟨bR, oR + o.length, none⟩) (r.length - o.length) (cr - o.length))) := ⟨_, rfl⟩
      rw [← hw4] at t4 B4 K4 ⊢
      have B4 := B4.drew
      have K4 := K4.drew
      have c4 := t4.cell0
      have d4 := t4.cell1
      clear hw4 T3 T4 T5
      clear hHeld u0 u1 hT1 f0 f1 d1 cD c0 c1
      go_wp2
      refine bodyPost_ret (v := .tuple #[.agg #[(.slice A a.length ca), (.slice (some ⟨bR, oR + o.length, none⟩) (r.length - o.length) (cr - o.length))], .bool true]) (by simp [results, go_sem, c4, d4]) rfl ?_
      have hst : stepO o r a = some (r.drop o.length, a) := by unfold stepO; rw [if_pos h1]
      refine ⟨_, by rw [hst]; rfl, ⟨_, _, _, _, _, _, rfl⟩, fun r' a' h => ?_, B4⟩
      rw [hst] at h
      injection h with h
      injection h with h3 h4
      subst h3 h4
      refine ⟨A, (some ⟨bR, oR + o.length, none⟩), ca, (cr - o.length), by (try rw [List.length_drop]); (try rw [show r.length - o.length = 0 by omega]), HA2.out.keep K4, ?_, hca, hcam, by rw [List.length_drop]; omega, by unfold maxLen; omega⟩
      have hd := (HR2.out.keep K4).drop (k := o.length) (A' := (some ⟨bR, oR + o.length, none⟩)) hle (fun hk b off he => by
        injection he with he
        injection he with e1 e2
        subst e1 e2
        rfl)
      rw [List.length_drop]
      rw [show ints (r.drop o.length) = (ints r).drop o.length by simp [ints, List.map_drop]]
      exact hd
  · have h1' : beginsB r o = false := by simpa using h1
    rw [h1']
    have c1 := T0.out.cell1
    go_wp2_with fail
    refine (impl_startsWith (some ⟨bO, oO, none⟩) (some ⟨bR, oR, none⟩) co cr o r _ HO2.out.reads HR2.out.reads hol hr0 hco (by unfold maxLen; exact hcom)).mono ?_
    rintro e w3 ⟨rfl, b3⟩
    have T03 := Lib.hid (T0.out.far b3)
    have T13 := Lib.hid (T1.out.far b3)
    have B3 := B2.trans (b3.mono B2.size)
    have k3 := Keep.of_below (e := 3) b3 (Nat.le_trans hBw B2.size)
    have HA3 := Lib.hid (HA2.out.keep k3)
    have HO3 := Lib.hid (HO2.out.keep k3)
    clear c1 T0 T1 HA2 HR2 HO2 k3 b3
    by_cases h2 : beginsB o r = true
    · rw [h2]
      have hle := begins_le' h2
      have l0 : (0 : Int) ≤ (r.length : Int) := by omega
      have l1 : (r.length : Int) ≤ (o.length : Int) := by omega
      have hst : stepO o r a = some (o.drop r.length, a ++ o.drop r.length) := by unfold stepO; rw [if_neg h1, if_pos h2]
      obtain ⟨ys, hys⟩ : ∃ ys, ys = o.drop r.length := ⟨_, rfl⟩
      have hyl : ys.length = o.length - r.length := by rw [hys, List.length_drop]
      by_cases hce : co = r.length
      · subst hce
        have c0 := T03.out.cell0
        have c1 := T03.out.cell1
        have HY := Lib.hid (show RowT 3 B w3 (some ⟨bO, oO, none⟩) ys.length (ints ys) from by
          have hd := HO3.out.drop (k := r.length) (A' := (some ⟨bO, oO, none⟩)) hle (fun hk b off he => by
            injection he with he
            injection he with e1 e2
            subst e1 e2
            omega)
          rw [hyl, show ints ys = (ints o).drop r.length by rw [hys]; simp [ints, List.map_drop]]
          exact hd)
        go_wp2_with fail
        obtain ⟨W4, hW4⟩ : ∃ W4, W4 = w3.alloc (.cells #[.slice A a.length ca, .slice (some ⟨bO, oO, none⟩) 0 0] 36) := ⟨_, rfl⟩
        have hg : Two W4 w3.heap.size 36 (.slice A a.length ca) (.slice (some ⟨bO, oO, none⟩) ys.length 0) := by rw [hW4, show ys.length = 0 by omega]; exact Two.new _ _ _ _
        have b4 : Below w3.heap.size w3 W4 := by rw [hW4]; exact (Below.refl _ _).alloc (Nat.le_refl _) _
        rw [← hW4]
        clear hW4 c0 c1
        have k4 := Keep.of_below (e := 3) b4 (Nat.le_trans hBw B3.size)
        have T14 := Lib.hid (T13.out.far b4)
        have B4' := B3.trans (b4.mono B3.size)
        have HY4 := Lib.hid (HY.out.keep k4)
        refine (impl_Concat A (some ⟨bO, oO, none⟩) ca 0 w3.heap.size a ys _ hg (HA3.out.keep k4).reads HY4.out.reads hal (by omega) (by omega)).mono ?_
        rintro e w5 ⟨vj, rfl, oj, b5⟩
        obtain ⟨Aj, cj, rfl, -, hcj, hcjm⟩ := oj.slice
        have T15 := Lib.hid (T14.out.far b5)
        have B5 := B4'.trans (b5.mono B4'.size)
        have k5 := Keep.of_below (e := 3) b5 (Nat.le_trans hBw B4'.size)
        have HJ := Lib.hid (RowT.of_own (B := B) oj.1)
        have HY5 := Lib.hid (HY4.out.keep k5)
        clear hg b4 b5 k4 k5 T13 T14 T03 oj
        obtain ⟨N, hN⟩ : ∃ N, N = (a ++ ys).length := ⟨_, rfl⟩
        rw [← hN]
        have HN := Lib.hid hN
        clear hN
        have f0 := T15.out.free 0
        have g0 := T15.out.cell0
        have g1 := T15.out.cell1
        have T3 := Lib.hid (T15.out.set0 (.slice Aj N cj))
        have d1 := T3.out.cell1
        have f1 := T3.out.free 1
        have T4 := Lib.hid (T15.out.setSelf (.slice Aj N cj) (.slice (some ⟨bO, oO, none⟩) 0 0))
        go_wp2
        have c4 := T4.out.cell0
        have d4 := T4.out.cell1
        have e4 := T3.out.cell0
        refine bodyPost_ret (v := .tuple #[.agg #[(.slice Aj N cj), (.slice (some ⟨bO, oO, none⟩) 0 0)], .bool true]) (by simp [results, go_sem, c4, d4, e4]) rfl ?_
        have hs2 := B5.size
        have B4 := ((B5.setCell (p := ⟨w.heap.size + 1, 0, none⟩) (by simp) (.slice Aj N cj)).setCell (p := ⟨w.heap.size + 1, 1, none⟩) (by simp) (.slice (some ⟨bO, oO, none⟩) 0 0))
        have K4 := (Keep.of_cell (e := 3) (B := B) (cur := #[.slice none 0 0, .slice none 0 0]) T15.out (by decide) (by omega) 0 (.slice Aj N cj)).trans (Keep.of_cell (e := 3) (B := B) (cur := #[(.slice Aj N cj), .slice none 0 0]) T3.out (by decide) (by omega) 1 (.slice (some ⟨bO, oO, none⟩) 0 0))
        refine ⟨_, by rw [hst]; rfl, ⟨_, _, _, _, _, _, rfl⟩, fun r' a' h => ?_, by first | exact B4 | exact B4.drew⟩
        rw [hst] at h
        injection h with h
        injection h with h3 h4
        rw [← hys] at h3 h4
        subst h3 h4
        refine ⟨Aj, (some ⟨bO, oO, none⟩), cj, 0, by rw [HN.out, show ys.length = 0 by omega], by first | exact HJ.out.keep K4 | exact HJ.out.keep K4.drew, by first | exact HY5.out.keep K4 | exact HY5.out.keep K4.drew, hcj, hcjm, by omega, by unfold maxLen; omega⟩
      · have hce' := hce
        have c0 := T03.out.cell0
        have c1 := T03.out.cell1
        have HY := Lib.hid (show RowT 3 B w3 (some ⟨bO, oO + r.length, none⟩) ys.length (ints ys) from by
          have hd := HO3.out.drop (k := r.length) (A' := (some ⟨bO, oO + r.length, none⟩)) hle (fun hk b off he => by
            injection he with he
            injection he with e1 e2
            subst e1 e2
            rfl)
          rw [hyl, show ints ys = (ints o).drop r.length by rw [hys]; simp [ints, List.map_drop]]
          exact hd)
        go_wp2_with fail
        rw [← hyl]
        obtain ⟨W4, hW4⟩ : ∃ W4, W4 = w3.alloc (.cells #[.slice A a.length ca, .slice (some ⟨bO, oO + r.length, none⟩) ys.length (co - r.length)] 36) := ⟨_, rfl⟩
        have hg : Two W4 w3.heap.size 36 (.slice A a.length ca) (.slice (some ⟨bO, oO + r.length, none⟩) ys.length (co - r.length)) := by rw [hW4]; exact Two.new _ _ _ _
        have b4 : Below w3.heap.size w3 W4 := by rw [hW4]; exact (Below.refl _ _).alloc (Nat.le_refl _) _
        rw [← hW4]
        clear hW4 c0 c1
        have k4 := Keep.of_below (e := 3) b4 (Nat.le_trans hBw B3.size)
        have T14 := Lib.hid (T13.out.far b4)
        have B4' := B3.trans (b4.mono B3.size)
        have HY4 := Lib.hid (HY.out.keep k4)
        refine (impl_Concat A (some ⟨bO, oO + r.length, none⟩) ca (co - r.length) w3.heap.size a ys _ hg (HA3.out.keep k4).reads HY4.out.reads hal (by omega) (by omega)).mono ?_
        rintro e w5 ⟨vj, rfl, oj, b5⟩
        obtain ⟨Aj, cj, rfl, -, hcj, hcjm⟩ := oj.slice
        have T15 := Lib.hid (T14.out.far b5)
        have B5 := B4'.trans (b5.mono B4'.size)
        have k5 := Keep.of_below (e := 3) b5 (Nat.le_trans hBw B4'.size)
        have HJ := Lib.hid (RowT.of_own (B := B) oj.1)
        have HY5 := Lib.hid (HY4.out.keep k5)
        clear hg b4 b5 k4 k5 T13 T14 T03 oj
        obtain ⟨N, hN⟩ : ∃ N, N = (a ++ ys).length := ⟨_, rfl⟩
        rw [← hN]
        have HN := Lib.hid hN
        clear hN
        have f0 := T15.out.free 0
        have g0 := T15.out.cell0
        have g1 := T15.out.cell1
        have T3 := Lib.hid (T15.out.set0 (.slice Aj N cj))
        have d1 := T3.out.cell1
        have f1 := T3.out.free 1
        have T4 := Lib.hid (T15.out.setSelf (.slice Aj N cj) (.slice (some ⟨bO, oO + r.length, none⟩) (o.length - r.length) (co - r.length)))
        go_wp2
        have c4 := T4.out.cell0
        have d4 := T4.out.cell1
        have e4 := T3.out.cell0
        refine bodyPost_ret (v := .tuple #[.agg #[(.slice Aj N cj), (.slice (some ⟨bO, oO + r.length, none⟩) (o.length - r.length) (co - r.length))], .bool true]) (by simp [results, go_sem, c4, d4, e4]) rfl ?_
        have hs2 := B5.size
        have B4 := ((B5.setCell (p := ⟨w.heap.size + 1, 0, none⟩) (by simp) (.slice Aj N cj)).setCell (p := ⟨w.heap.size + 1, 1, none⟩) (by simp) (.slice (some ⟨bO, oO + r.length, none⟩) (o.length - r.length) (co - r.length)))
        have K4 := (Keep.of_cell (e := 3) (B := B) (cur := #[.slice none 0 0, .slice none 0 0]) T15.out (by decide) (by omega) 0 (.slice Aj N cj)).trans (Keep.of_cell (e := 3) (B := B) (cur := #[(.slice Aj N cj), .slice none 0 0]) T3.out (by decide) (by omega) 1 (.slice (some ⟨bO, oO + r.length, none⟩) (o.length - r.length) (co - r.length)))
        refine ⟨_, by rw [hst]; rfl, ⟨_, _, _, _, _, _, rfl⟩, fun r' a' h => ?_, by first | exact B4 | exact B4.drew⟩
        rw [hst] at h
        injection h with h
        injection h with h3 h4
        rw [← hys] at h3 h4
        subst h3 h4
        refine ⟨Aj, (some ⟨bO, oO + r.length, none⟩), cj, (co - r.length), by rw [HN.out, hyl], by first | exact HJ.out.keep K4 | exact HJ.out.keep K4.drew, by first | exact HY5.out.keep K4 | exact HY5.out.keep K4.drew, hcj, hcjm, by omega, by unfold maxLen; omega⟩
    · have h2' : beginsB o r = false := by simpa using h2
      rw [h2']
      have hst : stepO o r a = none := by unfold stepO; rw [if_neg h1, if_neg h2]
      have f0 := T13.out.free 0
      have g0 := T13.out.cell0
      have g1 := T13.out.cell1
      have T3 := Lib.hid (T13.out.set0 (.slice none 0 0))
      have d1 := T3.out.cell1
      have f1 := T3.out.free 1
      have T4 := Lib.hid (T13.out.setSelf (.slice none 0 0) (.slice none 0 0))
      go_wp2
      have c4 := T4.out.cell0
      have d4 := T4.out.cell1
      have e4 := T3.out.cell0
      refine bodyPost_ret (v := .tuple #[.agg #[(.slice none 0 0), (.slice none 0 0)], .bool false]) (by simp [results, go_sem, c4, d4, e4]) rfl ?_
      refine ⟨_, by rw [hst]; rfl, ⟨_, _, _, _, _, _, rfl⟩, fun r' a' h => (by rw [hst] at h; cases h), ?_⟩
      have B4 := ((B3.setCell (p := ⟨w.heap.size + 1, 0, none⟩) (by simp) (.slice none 0 0)).setCell (p := ⟨w.heap.size + 1, 1, none⟩) (by simp) (.slice none 0 0))
      first | exact B4 | exact B4.drew
end Go.Proofs.YtekidodfcanjaaaDoor
