/-
  The program's step of a state of the search.
-/
import Derived.Test.YtekidodfcanjaaaGreatDoorWitA
import Derived.Test.YtekidodfcanjaaaGreatDoorBegins
import Derived.Test.YtekidodfcanjaaaGreatDoorConcatI
import Derived.Test.YtekidodfcanjaaaGreatDoorDictT
import Derived.Test.YtekidodfcanjaaaGreatDoorAtI
import Derived.Test.YtekidodfcanjaaaGreatDoorSrchPl
import Derived.Test.YtekidodfcanjaaaGreatDoorBase
import Derived.Lib.SliceRun
import Derived.Deep.RegionLaw
namespace Go.Proofs.YtekidodfcanjaaaGreatDoor
open Go.RowKit
set_option linter.unusedVariables false
set_option linter.unusedSimpArgs false
set_option maxRecDepth 100000

/-- A state of the search as a value: the strokes and what is left of the longer reading. -/
def WitV (B : Nat) (w : World) (v : Value) (r a : List Int) : Prop := ∃ (A R : Option Addr) (ca cr : Nat), v = .agg #[.slice A a.length ca, .slice R r.length cr] ∧ RowT 3 B w A a.length (ints a) ∧ RowT 3 B w R r.length (ints r) ∧ a.length ≤ ca ∧ ca ≤ maxLen ∧ r.length ≤ cr ∧ cr ≤ maxLen
theorem begins_le' {xs ys : List Int} (h : beginsB xs ys = true) : ys.length ≤ xs.length := by
  obtain ⟨x, hx⟩ := begins_iff.1 h
  rw [hx]; simp
def StepRes (B : Nat) (o r a : List Int) (w : World) (e : Ending) (w' : World) : Prop := ∃ v, e = .returned (.tuple #[v, .bool (stepO o r a).isSome]) ∧ (∃ (X : Option Addr) (nx cx : Nat) (Y : Option Addr) (ny cy : Nat), v = .agg #[.slice X nx cx, .slice Y ny cy]) ∧ (∀ r' a', stepO o r a = some (r', a') → WitV B w' v r' a') ∧ Below w.heap.size w w'
set_option maxHeartbeats 2000000 in
theorem impl_step (B : Nat) (A R O : Option Addr) (ca cr co : Nat) (o r a : List Int) (w : World) (hBw : B ≤ w.heap.size) (ha : RowT 3 B w A a.length (ints a)) (hr : RowT 3 B w R r.length (ints r)) (ho : RowT 3 B w O o.length (ints o))
    (hal : a.length ≤ 1048576) (hrl : r.length ≤ 1048576) (hol : o.length ≤ 1048576) (ha0 : 0 < a.length) (hr0 : 0 < r.length) (ho0 : 0 < o.length) (hca : a.length ≤ ca) (hcam : ca ≤ maxLen) (hcr : r.length ≤ cr) (hcrm : cr ≤ maxLen) (hco : o.length ≤ co) (hcom : co ≤ maxLen) :
    Calls Tryz.prog 82 #[.agg #[.slice A a.length ca, .slice R r.length cr], .slice O o.length co] w (StepRes B o r a w) := by
  obtain ⟨W1, hW1⟩ : ∃ W1, W1 = (w.alloc (.cells #[.slice A a.length ca, .slice R r.length cr] 96)).alloc (.cells #[.slice none 0 0, .slice none 0 0] 96) := ⟨_, rfl⟩
  have t0 : Two W1 w.heap.size 96 (.slice A a.length ca) (.slice R r.length cr) := by rw [hW1]; exact (Two.new w _ _ _).far ((Below.refl _ _).alloc (Nat.le_refl _) _)
  have t1 : Two W1 (w.heap.size + 1) 96 (.slice none 0 0) (.slice none 0 0) := by
    rw [hW1]
    have := Two.new (w.alloc (.cells #[.slice A a.length ca, .slice R r.length cr] 96)) 96 (.slice none 0 0) (.slice none 0 0)
    simpa using this
  have b1 : Below w.heap.size w W1 := by rw [hW1]; exact ((Below.refl _ _).alloc (Nat.le_refl _) _).alloc (by simp) _
  have k1 := Keep.of_below (e := 3) b1 hBw
  have HA := Lib.hid (ha.keep k1)
  have HR := Lib.hid (hr.keep k1)
  have HO := Lib.hid (ho.keep k1)
  obtain ⟨bR, oR, hRA, -, -⟩ := hr.2 hr0
  obtain ⟨bO, oO, hOA, -, -⟩ := ho.2 ho0
  subst hRA hOA
  have c0 := t0.cell0
  have c1 := t0.cell1
  unfold maxLen at hcrm hcom
  clear ha hr ho k1
  go_enter Tryz.func82, Tryz.ntmps82
  go_upto_region 1 with fail
  rw [← hW1]
  clear hW1
  go_wp2_with fail
  refine (impl_startsWith (some ⟨bR, oR, none⟩) (some ⟨bO, oO, none⟩) cr co r o _ HR.out.reads HO.out.reads hrl ho0 hcr hcrm).mono ?_
  rintro e w2 ⟨rfl, b2⟩
  have T0 := Lib.hid (t0.far b2)
  have T1 := Lib.hid (t1.far b2)
  have B2 := b1.trans (b2.mono b1.size)
  have k2 := Keep.of_below (e := 3) b2 (Nat.le_trans hBw b1.size)
  have HA2 := Lib.hid (HA.out.keep k2)
  have HR2 := Lib.hid (HR.out.keep k2)
  have HO2 := Lib.hid (HO.out.keep k2)
  clear c0 c1 t0 t1 HA HR HO k2 b2
  by_cases h1 : beginsB r o = true
  · rw [h1]
    have hle := begins_le' h1
    have l0 : (0 : Int) ≤ (o.length : Int) := by omega
    have l1 : (o.length : Int) ≤ (r.length : Int) := by omega
    have c0 := T0.out.cell0
    have c1 := T0.out.cell1
    go_wp2
    by_cases hce : cr = o.length
    · subst hce
      have cD : w2.drew.cell? ⟨w.heap.size, 0, none⟩ = some (.slice A a.length ca) ∧ w2.drew.cell? ⟨w.heap.size, 1, none⟩ = some (.slice (some ⟨bR, oR, none⟩) r.length o.length) := ⟨c0, c1⟩
      have u0 := T1.out.cell0
      have u1 := T1.out.cell1
      have hT1 : w2.drew.heap[w.heap.size + 1]? = some (.cells #[.slice none 0 0, .slice none 0 0] 96 (0, 0)) := T1.out
      first | refine wp_region_noPanic ?_ | skip
      refine wp_region_held_drew (S := fun w' => w'.cell? ⟨w.heap.size, 0, none⟩ = some (.slice A a.length ca) ∧ w'.cell? ⟨w.heap.size, 1, none⟩ = some (.slice (some ⟨bR, oR, none⟩) r.length o.length)) (by kernel_rfl) (by exact cD) (fun hHeld => ?_)
      (refine wpAnyH_take (i := 0) (v := ?_) rfl (by kernel_rfl) (by kernel_rfl) (by kernel_rfl) (fun _ _ _ h => h) (Or.inl ⟨by rfl, ?_⟩) (by assumption) ?_; rotate_left; focus (intro w hSw; (try dsimp only at hSw); go_simp; try with_reducible rfl))
      (try simp only [List.getElem_toArray, List.getElem_cons_succ, List.getElem_cons_zero, Act.put, List.setIfInBounds_toArray, List.set_cons_zero, List.set_cons_succ])
      (refine wpAnyH_take (i := 1) (v := ?_) rfl (by kernel_rfl) (by kernel_rfl) (by kernel_rfl) (fun _ _ _ h => h) (Or.inl ⟨by rfl, ?_⟩) (by assumption) ?_; rotate_left; focus (intro w hSw; (try dsimp only at hSw); go_simp; try with_reducible rfl))
      (try simp only [List.getElem_toArray, List.getElem_cons_succ, List.getElem_cons_zero, Act.put, List.setIfInBounds_toArray, List.set_cons_zero, List.set_cons_succ])
      (refine wpAnyH_take (i := 2) (v := ?_) rfl (by kernel_rfl) (by kernel_rfl) (by kernel_rfl) (fun _ _ _ h => h) (Or.inl ⟨by rfl, ?_⟩) (by assumption) ?_; rotate_left; focus (intro w hSw; (try dsimp only at hSw); go_simp; try with_reducible rfl))
      (try simp only [List.getElem_toArray, List.getElem_cons_succ, List.getElem_cons_zero, Act.put, List.setIfInBounds_toArray, List.set_cons_zero, List.set_cons_succ])
      (refine wpAnyH_take (i := 3) (v := ?_) rfl (by kernel_rfl) (by kernel_rfl) (by kernel_rfl) (fun _ _ _ h => h) (Or.inl ⟨by rfl, ?_⟩) (by assumption) ?_; rotate_left; focus (intro w hSw; (try dsimp only at hSw); go_simp; try with_reducible rfl))
      (try simp only [List.getElem_toArray, List.getElem_cons_succ, List.getElem_cons_zero, Act.put, List.setIfInBounds_toArray, List.set_cons_zero, List.set_cons_succ])
      (refine wpAnyH_take (i := 4) (v := ?_) rfl (by kernel_rfl) (by kernel_rfl) (by kernel_rfl) (fun _ _ _ h => h) (Or.inl ⟨by rfl, ?_⟩) (by assumption) ?_; rotate_left; focus (intro w hSw; (try dsimp only at hSw); go_simp; try with_reducible rfl))
      (try simp only [List.getElem_toArray, List.getElem_cons_succ, List.getElem_cons_zero, Act.put, List.setIfInBounds_toArray, List.set_cons_zero, List.set_cons_succ])
      (refine wpAnyH_take (i := 5) (v := ?_) rfl (by kernel_rfl) (by kernel_rfl) (by kernel_rfl) (fun _ _ _ h => h) (Or.inl ⟨by rfl, ?_⟩) (by assumption) ?_; rotate_left; focus (intro w hSw; (try dsimp only at hSw); go_simp; try with_reducible rfl))
      (try simp only [List.getElem_toArray, List.getElem_cons_succ, List.getElem_cons_zero, Act.put, List.setIfInBounds_toArray, List.set_cons_zero, List.set_cons_succ])
      (refine wpAnyH_take (i := 6) (v := ?_) rfl (by kernel_rfl) (by kernel_rfl) (by kernel_rfl) (fun _ _ _ h => h) (Or.inl ⟨by rfl, ?_⟩) (by assumption) ?_; rotate_left; focus (intro w hSw; (try dsimp only at hSw); go_simp; try with_reducible rfl))
      (try simp only [List.getElem_toArray, List.getElem_cons_succ, List.getElem_cons_zero, Act.put, List.setIfInBounds_toArray, List.set_cons_zero, List.set_cons_succ])
      (refine wpAnyH_take (i := 7) (v := ?_) rfl (by kernel_rfl) (by kernel_rfl) (by kernel_rfl) (fun _ _ _ h => h) (Or.inl ⟨by rfl, ?_⟩) (by assumption) ?_; rotate_left; focus (intro w hSw; (try dsimp only at hSw); go_simp; try with_reducible rfl))
      (try simp only [List.getElem_toArray, List.getElem_cons_succ, List.getElem_cons_zero, Act.put, List.setIfInBounds_toArray, List.set_cons_zero, List.set_cons_succ])
      have f0 := T1.out.free 0
      have T3 := Lib.hid (T1.out.set0 (.slice A a.length ca))
      have d1 := T3.out.cell1
      have f1 := T3.out.free 1
      have T4 := Lib.hid (T1.out.setSelf (.slice A a.length ca) (.slice (some ⟨bR, oR, none⟩) 0 0))
      have T5 := Lib.hid (T0.out.setTwo (k := w.heap.size + 1) (by omega) (.slice A a.length ca) (.slice (some ⟨bR, oR, none⟩) 0 0))
      refine wpAnyH_ready (rs := [8]) (by kernel_rfl) (by simp) ?_
      refine AllReadyH.cons rfl (fun K hK => ?_) AllReadyH.nil
      go_simp
      refine hK.out _ _ (⟨T5.out.cell0, T5.out.cell1⟩) (fun hHeld => ?_)
      clear hK K
      (try simp only [List.getElem_toArray, List.getElem_cons_succ, List.getElem_cons_zero, Act.put, List.setIfInBounds_toArray, List.set_cons_zero, List.set_cons_succ])
      (refine wpAnyH_take (i := 9) (v := ?_) rfl (by kernel_rfl) (by kernel_rfl) (by kernel_rfl) (fun _ _ _ h => h) (Or.inl ⟨by rfl, ?_⟩) (by assumption) ?_; rotate_left; focus (intro w hSw; (try dsimp only at hSw); go_simp; try with_reducible rfl))
      (try simp only [List.getElem_toArray, List.getElem_cons_succ, List.getElem_cons_zero, Act.put, List.setIfInBounds_toArray, List.set_cons_zero, List.set_cons_succ])
      refine wpAnyH_done (by kernel_rfl) ?_ _
      first | refine NoPanic.normal ?_ | skip
      have hs2 := B2.size
      have B4 : Below w.heap.size w ((w2.setCell ⟨w.heap.size + 1, 0, none⟩ (.slice A a.length ca)).setCell ⟨w.heap.size + 1, 1, none⟩ (.slice (some ⟨bR, oR, none⟩) 0 0)) := (B2.setCell (p := ⟨w.heap.size + 1, 0, none⟩) (by simp) _).setCell (p := ⟨w.heap.size + 1, 1, none⟩) (by simp) _
      have K4 : Keep 3 B w2 ((w2.setCell ⟨w.heap.size + 1, 0, none⟩ (.slice A a.length ca)).setCell ⟨w.heap.size + 1, 1, none⟩ (.slice (some ⟨bR, oR, none⟩) 0 0)) := (Keep.of_cell (cur := #[.slice none 0 0, .slice none 0 0]) T1.out (by decide) (by omega) 0 (.slice A a.length ca)).trans (Keep.of_cell (cur := #[(.slice A a.length ca), .slice none 0 0]) T3.out (by decide) (by omega) 1 (.slice (some ⟨bR, oR, none⟩) 0 0))
      have t4 := T4.out
      obtain ⟨w4, hw4⟩ : ∃ w4, w4 = ((w2.setCell ⟨w.heap.size + 1, 0, none⟩ (.slice A a.length ca)).setCell ⟨w.heap.size + 1, 1, none⟩ (.slice (some ⟨bR, oR, none⟩) 0 0)) := ⟨_, rfl⟩
      rw [← hw4] at t4 B4 K4 ⊢
      have B4 := B4.drew
      have K4 := K4.drew
      have c4 := t4.cell0
      have d4 := t4.cell1
      clear hw4 T3 T4 T5
      clear hHeld u0 u1 hT1 f0 f1 d1 cD c0 c1
      go_wp2
      refine bodyPost_ret (v := .tuple #[.agg #[(.slice A a.length ca), (.slice (some ⟨bR, oR, none⟩) 0 0)], .bool true]) (by simp [results, go_sem, c4, d4]) rfl ?_
      have hst : stepO o r a = some (r.drop o.length, a) := by unfold stepO; rw [if_pos h1]
      refine ⟨_, by rw [hst]; rfl, ⟨_, _, _, _, _, _, rfl⟩, fun r' a' h => ?_, B4⟩
      rw [hst] at h
      injection h with h
      injection h with h3 h4
      subst h3 h4
      refine ⟨A, (some ⟨bR, oR, none⟩), ca, 0, by (try rw [List.length_drop]); (try rw [show r.length - o.length = 0 by omega]), HA2.out.keep K4, ?_, hca, hcam, by rw [List.length_drop]; omega, by unfold maxLen; omega⟩
      have hd := (HR2.out.keep K4).drop (k := o.length) (A' := (some ⟨bR, oR, none⟩)) hle (fun hk b off he => by
        injection he with he
        injection he with e1 e2
        subst e1 e2
        omega)
      rw [List.length_drop]
      rw [show ints (r.drop o.length) = (ints r).drop o.length by simp [ints, List.map_drop]]
      exact hd
    · have cD : w2.drew.cell? ⟨w.heap.size, 0, none⟩ = some (.slice A a.length ca) ∧ w2.drew.cell? ⟨w.heap.size, 1, none⟩ = some (.slice (some ⟨bR, oR, none⟩) r.length cr) := ⟨c0, c1⟩
      have u0 := T1.out.cell0
      have u1 := T1.out.cell1
      have hT1 : w2.drew.heap[w.heap.size + 1]? = some (.cells #[.slice none 0 0, .slice none 0 0] 96 (0, 0)) := T1.out
      first | refine wp_region_noPanic ?_ | skip
      refine wp_region_held_drew (S := fun w' => w'.cell? ⟨w.heap.size, 0, none⟩ = some (.slice A a.length ca) ∧ w'.cell? ⟨w.heap.size, 1, none⟩ = some (.slice (some ⟨bR, oR, none⟩) r.length cr)) (by kernel_rfl) (by exact cD) (fun hHeld => ?_)
      (refine wpAnyH_take (i := 0) (v := ?_) rfl (by kernel_rfl) (by kernel_rfl) (by kernel_rfl) (fun _ _ _ h => h) (Or.inl ⟨by rfl, ?_⟩) (by assumption) ?_; rotate_left; focus (intro w hSw; (try dsimp only at hSw); go_simp; try with_reducible rfl))
      (try simp only [List.getElem_toArray, List.getElem_cons_succ, List.getElem_cons_zero, Act.put, List.setIfInBounds_toArray, List.set_cons_zero, List.set_cons_succ])
      (refine wpAnyH_take (i := 1) (v := ?_) rfl (by kernel_rfl) (by kernel_rfl) (by kernel_rfl) (fun _ _ _ h => h) (Or.inl ⟨by rfl, ?_⟩) (by assumption) ?_; rotate_left; focus (intro w hSw; (try dsimp only at hSw); go_simp; try with_reducible rfl))
      (try simp only [List.getElem_toArray, List.getElem_cons_succ, List.getElem_cons_zero, Act.put, List.setIfInBounds_toArray, List.set_cons_zero, List.set_cons_succ])
      (refine wpAnyH_take (i := 2) (v := ?_) rfl (by kernel_rfl) (by kernel_rfl) (by kernel_rfl) (fun _ _ _ h => h) (Or.inl ⟨by rfl, ?_⟩) (by assumption) ?_; rotate_left; focus (intro w hSw; (try dsimp only at hSw); go_simp; try with_reducible rfl))
      (try simp only [List.getElem_toArray, List.getElem_cons_succ, List.getElem_cons_zero, Act.put, List.setIfInBounds_toArray, List.set_cons_zero, List.set_cons_succ])
      (refine wpAnyH_take (i := 3) (v := ?_) rfl (by kernel_rfl) (by kernel_rfl) (by kernel_rfl) (fun _ _ _ h => h) (Or.inl ⟨by rfl, ?_⟩) (by assumption) ?_; rotate_left; focus (intro w hSw; (try dsimp only at hSw); go_simp; try with_reducible rfl))
      (try simp only [List.getElem_toArray, List.getElem_cons_succ, List.getElem_cons_zero, Act.put, List.setIfInBounds_toArray, List.set_cons_zero, List.set_cons_succ])
      (refine wpAnyH_take (i := 4) (v := ?_) rfl (by kernel_rfl) (by kernel_rfl) (by kernel_rfl) (fun _ _ _ h => h) (Or.inl ⟨by rfl, ?_⟩) (by assumption) ?_; rotate_left; focus (intro w hSw; (try dsimp only at hSw); go_simp; try with_reducible rfl))
      (try simp only [List.getElem_toArray, List.getElem_cons_succ, List.getElem_cons_zero, Act.put, List.setIfInBounds_toArray, List.set_cons_zero, List.set_cons_succ])
      (refine wpAnyH_take (i := 5) (v := ?_) rfl (by kernel_rfl) (by kernel_rfl) (by kernel_rfl) (fun _ _ _ h => h) (Or.inl ⟨by rfl, ?_⟩) (by assumption) ?_; rotate_left; focus (intro w hSw; (try dsimp only at hSw); go_simp; try with_reducible rfl))
      (try simp only [List.getElem_toArray, List.getElem_cons_succ, List.getElem_cons_zero, Act.put, List.setIfInBounds_toArray, List.set_cons_zero, List.set_cons_succ])
      (refine wpAnyH_take (i := 6) (v := ?_) rfl (by kernel_rfl) (by kernel_rfl) (by kernel_rfl) (fun _ _ _ h => h) (Or.inl ⟨by rfl, ?_⟩) (by assumption) ?_; rotate_left; focus (intro w hSw; (try dsimp only at hSw); go_simp; try with_reducible rfl))
      (try simp only [List.getElem_toArray, List.getElem_cons_succ, List.getElem_cons_zero, Act.put, List.setIfInBounds_toArray, List.set_cons_zero, List.set_cons_succ])
      (refine wpAnyH_take (i := 7) (v := ?_) rfl (by kernel_rfl) (by kernel_rfl) (by kernel_rfl) (fun _ _ _ h => h) (Or.inl ⟨by rfl, ?_⟩) (by assumption) ?_; rotate_left; focus (intro w hSw; (try dsimp only at hSw); go_simp; try with_reducible rfl))
      (try simp only [List.getElem_toArray, List.getElem_cons_succ, List.getElem_cons_zero, Act.put, List.setIfInBounds_toArray, List.set_cons_zero, List.set_cons_succ])
      have f0 := T1.out.free 0
      have T3 := Lib.hid (T1.out.set0 (.slice A a.length ca))
      have d1 := T3.out.cell1
      have f1 := T3.out.free 1
      have T4 := Lib.hid (T1.out.setSelf (.slice A a.length ca) (.slice (some ⟨bR, oR + o.length, none⟩) (r.length - o.length) (cr - o.length)))
      have T5 := Lib.hid (T0.out.setTwo (k := w.heap.size + 1) (by omega) (.slice A a.length ca) (.slice (some ⟨bR, oR + o.length, none⟩) (r.length - o.length) (cr - o.length)))
      refine wpAnyH_ready (rs := [8]) (by kernel_rfl) (by simp) ?_
      refine AllReadyH.cons rfl (fun K hK => ?_) AllReadyH.nil
      go_simp
      refine hK.out _ _ (⟨T5.out.cell0, T5.out.cell1⟩) (fun hHeld => ?_)
      clear hK K
      (try simp only [List.getElem_toArray, List.getElem_cons_succ, List.getElem_cons_zero, Act.put, List.setIfInBounds_toArray, List.set_cons_zero, List.set_cons_succ])
      (refine wpAnyH_take (i := 9) (v := ?_) rfl (by kernel_rfl) (by kernel_rfl) (by kernel_rfl) (fun _ _ _ h => h) (Or.inl ⟨by rfl, ?_⟩) (by assumption) ?_; rotate_left; focus (intro w hSw; (try dsimp only at hSw); go_simp; try with_reducible rfl))
      (try simp only [List.getElem_toArray, List.getElem_cons_succ, List.getElem_cons_zero, Act.put, List.setIfInBounds_toArray, List.set_cons_zero, List.set_cons_succ])
      refine wpAnyH_done (by kernel_rfl) ?_ _
      first | refine NoPanic.normal ?_ | skip
      have hs2 := B2.size
      have B4 : Below w.heap.size w ((w2.setCell ⟨w.heap.size + 1, 0, none⟩ (.slice A a.length ca)).setCell ⟨w.heap.size + 1, 1, none⟩ (.slice (some ⟨bR, oR + o.length, none⟩) (r.length - o.length) (cr - o.length))) := (B2.setCell (p := ⟨w.heap.size + 1, 0, none⟩) (by simp) _).setCell (p := ⟨w.heap.size + 1, 1, none⟩) (by simp) _
      have K4 : Keep 3 B w2 ((w2.setCell ⟨w.heap.size + 1, 0, none⟩ (.slice A a.length ca)).setCell ⟨w.heap.size + 1, 1, none⟩ (.slice (some ⟨bR, oR + o.length, none⟩) (r.length - o.length) (cr - o.length))) := (Keep.of_cell (cur := #[.slice none 0 0, .slice none 0 0]) T1.out (by decide) (by omega) 0 (.slice A a.length ca)).trans (Keep.of_cell (cur := #[(.slice A a.length ca), .slice none 0 0]) T3.out (by decide) (by omega) 1 (.slice (some ⟨bR, oR + o.length, none⟩) (r.length - o.length) (cr - o.length)))
      have t4 := T4.out
      obtain ⟨w4, hw4⟩ : ∃ w4, w4 = ((w2.setCell ⟨w.heap.size + 1, 0, none⟩ (.slice A a.length ca)).setCell ⟨w.heap.size + 1, 1, none⟩ (.slice (some ⟨bR, oR + o.length, none⟩) (r.length - o.length) (cr - o.length))) := ⟨_, rfl⟩
      rw [← hw4] at t4 B4 K4 ⊢
      have B4 := B4.drew
      have K4 := K4.drew
      have c4 := t4.cell0
      have d4 := t4.cell1
      clear hw4 T3 T4 T5
      clear hHeld u0 u1 hT1 f0 f1 d1 cD c0 c1
      go_wp2
      refine bodyPost_ret (v := .tuple #[.agg #[(.slice A a.length ca), (.slice (some ⟨bR, oR + o.length, none⟩) (r.length - o.length) (cr - o.length))], .bool true]) (by simp [results, go_sem, c4, d4]) rfl ?_
      have hst : stepO o r a = some (r.drop o.length, a) := by unfold stepO; rw [if_pos h1]
      refine ⟨_, by rw [hst]; rfl, ⟨_, _, _, _, _, _, rfl⟩, fun r' a' h => ?_, B4⟩
      rw [hst] at h
      injection h with h
      injection h with h3 h4
      subst h3 h4
      refine ⟨A, (some ⟨bR, oR + o.length, none⟩), ca, (cr - o.length), by (try rw [List.length_drop]); (try rw [show r.length - o.length = 0 by omega]), HA2.out.keep K4, ?_, hca, hcam, by rw [List.length_drop]; omega, by unfold maxLen; omega⟩
      have hd := (HR2.out.keep K4).drop (k := o.length) (A' := (some ⟨bR, oR + o.length, none⟩)) hle (fun hk b off he => by
        injection he with he
        injection he with e1 e2
        subst e1 e2
        rfl)
      rw [List.length_drop]
      rw [show ints (r.drop o.length) = (ints r).drop o.length by simp [ints, List.map_drop]]
      exact hd
  · have h1' : beginsB r o = false := by simpa using h1
    rw [h1']
    have c1 := T0.out.cell1
    go_wp2_with fail
    refine (impl_startsWith (some ⟨bO, oO, none⟩) (some ⟨bR, oR, none⟩) co cr o r _ HO2.out.reads HR2.out.reads hol hr0 hco (by unfold maxLen; exact hcom)).mono ?_
    rintro e w3 ⟨rfl, b3⟩
    have T03 := Lib.hid (T0.out.far b3)
    have T13 := Lib.hid (T1.out.far b3)
    have B3 := B2.trans (b3.mono B2.size)
    have k3 := Keep.of_below (e := 3) b3 (Nat.le_trans hBw B2.size)
    have HA3 := Lib.hid (HA2.out.keep k3)
    have HO3 := Lib.hid (HO2.out.keep k3)
    clear c1 T0 T1 HA2 HR2 HO2 k3 b3
    by_cases h2 : beginsB o r = true
    · rw [h2]
      have hle := begins_le' h2
      have l0 : (0 : Int) ≤ (r.length : Int) := by omega
      have l1 : (r.length : Int) ≤ (o.length : Int) := by omega
      have hst : stepO o r a = some (o.drop r.length, a ++ o.drop r.length) := by unfold stepO; rw [if_neg h1, if_pos h2]
      obtain ⟨ys, hys⟩ : ∃ ys, ys = o.drop r.length := ⟨_, rfl⟩
      have hyl : ys.length = o.length - r.length := by rw [hys, List.length_drop]
      by_cases hce : co = r.length
      · subst hce
        have c0 := T03.out.cell0
        have c1 := T03.out.cell1
        have HY := Lib.hid (show RowT 3 B w3 (some ⟨bO, oO, none⟩) ys.length (ints ys) from by
          have hd := HO3.out.drop (k := r.length) (A' := (some ⟨bO, oO, none⟩)) hle (fun hk b off he => by
            injection he with he
            injection he with e1 e2
            subst e1 e2
            omega)
          rw [hyl, show ints ys = (ints o).drop r.length by rw [hys]; simp [ints, List.map_drop]]
          exact hd)
        go_wp2_with fail
        obtain ⟨W4, hW4⟩ : ∃ W4, W4 = w3.alloc (.cells #[.slice A a.length ca, .slice (some ⟨bO, oO, none⟩) 0 0] 26) := ⟨_, rfl⟩
        have hg : Two W4 w3.heap.size 26 (.slice A a.length ca) (.slice (some ⟨bO, oO, none⟩) ys.length 0) := by rw [hW4, show ys.length = 0 by omega]; exact Two.new _ _ _ _
        have b4 : Below w3.heap.size w3 W4 := by rw [hW4]; exact (Below.refl _ _).alloc (Nat.le_refl _) _
        rw [← hW4]
        clear hW4 c0 c1
        have k4 := Keep.of_below (e := 3) b4 (Nat.le_trans hBw B3.size)
        have T14 := Lib.hid (T13.out.far b4)
        have B4' := B3.trans (b4.mono B3.size)
        have HY4 := Lib.hid (HY.out.keep k4)
        refine (impl_Concat A (some ⟨bO, oO, none⟩) ca 0 w3.heap.size a ys _ hg (HA3.out.keep k4).reads HY4.out.reads hal (by omega) (by omega)).mono ?_
        rintro e w5 ⟨vj, rfl, oj, b5⟩
        obtain ⟨Aj, cj, rfl, -, hcj, hcjm⟩ := oj.slice
        have T15 := Lib.hid (T14.out.far b5)
        have B5 := B4'.trans (b5.mono B4'.size)
        have k5 := Keep.of_below (e := 3) b5 (Nat.le_trans hBw B4'.size)
        have HJ := Lib.hid (RowT.of_own (B := B) oj.1)
        have HY5 := Lib.hid (HY4.out.keep k5)
        clear hg b4 b5 k4 k5 T13 T14 T03 oj
        obtain ⟨N, hN⟩ : ∃ N, N = (a ++ ys).length := ⟨_, rfl⟩
        rw [← hN]
        have HN := Lib.hid hN
        clear hN
        have f0 := T15.out.free 0
        have g0 := T15.out.cell0
        have g1 := T15.out.cell1
        have T3 := Lib.hid (T15.out.set0 (.slice Aj N cj))
        have d1 := T3.out.cell1
        have f1 := T3.out.free 1
        have T4 := Lib.hid (T15.out.setSelf (.slice Aj N cj) (.slice (some ⟨bO, oO, none⟩) 0 0))
        go_wp2
        have c4 := T4.out.cell0
        have d4 := T4.out.cell1
        have e4 := T3.out.cell0
        refine bodyPost_ret (v := .tuple #[.agg #[(.slice Aj N cj), (.slice (some ⟨bO, oO, none⟩) 0 0)], .bool true]) (by simp [results, go_sem, c4, d4, e4]) rfl ?_
        have hs2 := B5.size
        have B4 := ((B5.setCell (p := ⟨w.heap.size + 1, 0, none⟩) (by simp) (.slice Aj N cj)).setCell (p := ⟨w.heap.size + 1, 1, none⟩) (by simp) (.slice (some ⟨bO, oO, none⟩) 0 0))
        have K4 := (Keep.of_cell (e := 3) (B := B) (cur := #[.slice none 0 0, .slice none 0 0]) T15.out (by decide) (by omega) 0 (.slice Aj N cj)).trans (Keep.of_cell (e := 3) (B := B) (cur := #[(.slice Aj N cj), .slice none 0 0]) T3.out (by decide) (by omega) 1 (.slice (some ⟨bO, oO, none⟩) 0 0))
        refine ⟨_, by rw [hst]; rfl, ⟨_, _, _, _, _, _, rfl⟩, fun r' a' h => ?_, by first | exact B4 | exact B4.drew⟩
        rw [hst] at h
        injection h with h
        injection h with h3 h4
        rw [← hys] at h3 h4
        subst h3 h4
        refine ⟨Aj, (some ⟨bO, oO, none⟩), cj, 0, by rw [HN.out, show ys.length = 0 by omega], by first | exact HJ.out.keep K4 | exact HJ.out.keep K4.drew, by first | exact HY5.out.keep K4 | exact HY5.out.keep K4.drew, hcj, hcjm, by omega, by unfold maxLen; omega⟩
      · have hce' := hce
        have c0 := T03.out.cell0
        have c1 := T03.out.cell1
        have HY := Lib.hid (show RowT 3 B w3 (some ⟨bO, oO + r.length, none⟩) ys.length (ints ys) from by
          have hd := HO3.out.drop (k := r.length) (A' := (some ⟨bO, oO + r.length, none⟩)) hle (fun hk b off he => by
            injection he with he
            injection he with e1 e2
            subst e1 e2
            rfl)
          rw [hyl, show ints ys = (ints o).drop r.length by rw [hys]; simp [ints, List.map_drop]]
          exact hd)
        go_wp2_with fail
        rw [← hyl]
        obtain ⟨W4, hW4⟩ : ∃ W4, W4 = w3.alloc (.cells #[.slice A a.length ca, .slice (some ⟨bO, oO + r.length, none⟩) ys.length (co - r.length)] 26) := ⟨_, rfl⟩
        have hg : Two W4 w3.heap.size 26 (.slice A a.length ca) (.slice (some ⟨bO, oO + r.length, none⟩) ys.length (co - r.length)) := by rw [hW4]; exact Two.new _ _ _ _
        have b4 : Below w3.heap.size w3 W4 := by rw [hW4]; exact (Below.refl _ _).alloc (Nat.le_refl _) _
        rw [← hW4]
        clear hW4 c0 c1
        have k4 := Keep.of_below (e := 3) b4 (Nat.le_trans hBw B3.size)
        have T14 := Lib.hid (T13.out.far b4)
        have B4' := B3.trans (b4.mono B3.size)
        have HY4 := Lib.hid (HY.out.keep k4)
        refine (impl_Concat A (some ⟨bO, oO + r.length, none⟩) ca (co - r.length) w3.heap.size a ys _ hg (HA3.out.keep k4).reads HY4.out.reads hal (by omega) (by omega)).mono ?_
        rintro e w5 ⟨vj, rfl, oj, b5⟩
        obtain ⟨Aj, cj, rfl, -, hcj, hcjm⟩ := oj.slice
        have T15 := Lib.hid (T14.out.far b5)
        have B5 := B4'.trans (b5.mono B4'.size)
        have k5 := Keep.of_below (e := 3) b5 (Nat.le_trans hBw B4'.size)
        have HJ := Lib.hid (RowT.of_own (B := B) oj.1)
        have HY5 := Lib.hid (HY4.out.keep k5)
        clear hg b4 b5 k4 k5 T13 T14 T03 oj
        obtain ⟨N, hN⟩ : ∃ N, N = (a ++ ys).length := ⟨_, rfl⟩
        rw [← hN]
        have HN := Lib.hid hN
        clear hN
        have f0 := T15.out.free 0
        have g0 := T15.out.cell0
        have g1 := T15.out.cell1
        have T3 := Lib.hid (T15.out.set0 (.slice Aj N cj))
        have d1 := T3.out.cell1
        have f1 := T3.out.free 1
        have T4 := Lib.hid (T15.out.setSelf (.slice Aj N cj) (.slice (some ⟨bO, oO + r.length, none⟩) (o.length - r.length) (co - r.length)))
        go_wp2
        have c4 := T4.out.cell0
        have d4 := T4.out.cell1
        have e4 := T3.out.cell0
        refine bodyPost_ret (v := .tuple #[.agg #[(.slice Aj N cj), (.slice (some ⟨bO, oO + r.length, none⟩) (o.length - r.length) (co - r.length))], .bool true]) (by simp [results, go_sem, c4, d4, e4]) rfl ?_
        have hs2 := B5.size
        have B4 := ((B5.setCell (p := ⟨w.heap.size + 1, 0, none⟩) (by simp) (.slice Aj N cj)).setCell (p := ⟨w.heap.size + 1, 1, none⟩) (by simp) (.slice (some ⟨bO, oO + r.length, none⟩) (o.length - r.length) (co - r.length)))
        have K4 := (Keep.of_cell (e := 3) (B := B) (cur := #[.slice none 0 0, .slice none 0 0]) T15.out (by decide) (by omega) 0 (.slice Aj N cj)).trans (Keep.of_cell (e := 3) (B := B) (cur := #[(.slice Aj N cj), .slice none 0 0]) T3.out (by decide) (by omega) 1 (.slice (some ⟨bO, oO + r.length, none⟩) (o.length - r.length) (co - r.length)))
        refine ⟨_, by rw [hst]; rfl, ⟨_, _, _, _, _, _, rfl⟩, fun r' a' h => ?_, by first | exact B4 | exact B4.drew⟩
        rw [hst] at h
        injection h with h
        injection h with h3 h4
        rw [← hys] at h3 h4
        subst h3 h4
        refine ⟨Aj, (some ⟨bO, oO + r.length, none⟩), cj, (co - r.length), by rw [HN.out, hyl], by first | exact HJ.out.keep K4 | exact HJ.out.keep K4.drew, by first | exact HY5.out.keep K4 | exact HY5.out.keep K4.drew, hcj, hcjm, by omega, by unfold maxLen; omega⟩
    · have h2' : beginsB o r = false := by simpa using h2
      rw [h2']
      have hst : stepO o r a = none := by unfold stepO; rw [if_neg h1, if_neg h2]
      have f0 := T13.out.free 0
      have g0 := T13.out.cell0
      have g1 := T13.out.cell1
      have T3 := Lib.hid (T13.out.set0 (.slice none 0 0))
      have d1 := T3.out.cell1
      have f1 := T3.out.free 1
      have T4 := Lib.hid (T13.out.setSelf (.slice none 0 0) (.slice none 0 0))
      go_wp2
      have c4 := T4.out.cell0
      have d4 := T4.out.cell1
      have e4 := T3.out.cell0
      refine bodyPost_ret (v := .tuple #[.agg #[(.slice none 0 0), (.slice none 0 0)], .bool false]) (by simp [results, go_sem, c4, d4, e4]) rfl ?_
      refine ⟨_, by rw [hst]; rfl, ⟨_, _, _, _, _, _, rfl⟩, fun r' a' h => (by rw [hst] at h; cases h), ?_⟩
      have B4 := ((B3.setCell (p := ⟨w.heap.size + 1, 0, none⟩) (by simp) (.slice none 0 0)).setCell (p := ⟨w.heap.size + 1, 1, none⟩) (by simp) (.slice none 0 0))
      first | exact B4 | exact B4.drew
end Go.Proofs.YtekidodfcanjaaaGreatDoor
namespace Go.Proofs.YtekidodfcanjaaaGreatDoor
open Go.RowKit
set_option linter.unusedVariables false
set_option linter.unusedSimpArgs false
set_option maxRecDepth 100000

set_option maxHeartbeats 1000000 in
theorem ambig1_calls (A R : Option Addr) (co cr g : Nat) (p r : List Int) (u : Value) (w : World) (hp : Reads w w.heap.size 1 A p.length (ints p)) (hr : Reads w w.heap.size 1 R r.length (ints r)) (hg : Two w g 96 u (.slice R r.length cr)) (hn : p.length ≤ 1048576) (hm : r.length ≤ 1048576) :
    Calls Tryz.prog 81 #[.slice A p.length co, .pointer (some ⟨g, 0, none⟩)] w fun e w' => e = .returned (.bool (decide (p = r))) ∧ ∃ q, w' = w.drewN q := by
  have c2 := hg.cell1
  have HE := Lib.hid (impl_Equal A R co cr p r w hp hr hn hm)
  clear hp hr
  go_enter Tryz.func81, Tryz.ntmps81
  go_wp2_with fail
  refine HE.out.mono ?_
  rintro e w1 ⟨rfl, q, rfl⟩
  go_wp2
  go_ret
  exact ⟨rfl, q, rfl⟩
end Go.Proofs.YtekidodfcanjaaaGreatDoor
namespace Go.Proofs.YtekidodfcanjaaaGreatDoor
open Go.RowKit
set_option linter.unusedVariables false
set_option linter.unusedSimpArgs false
set_option maxRecDepth 100000

/-- The list of rows at A reads as rows. -/
def ListR (w : World) (A : Option Addr) (rows : List (List Int)) : Prop := 0 < rows.length → ∃ b off, A = some ⟨b, off, none⟩ ∧ ∀ (k : Nat) r, rows[k]? = some r → ∃ (a : Option Addr) (c : Nat), w.cell? ⟨b, off + k, none⟩ = some (.slice a r.length c) ∧ Reads w w.heap.size 1 a r.length (ints r)
set_option maxHeartbeats 2000000 in
theorem IndexFunc_rows (A R : Option Addr) (cap cr g : Nat) (rows : List (List Int)) (r : List Int) (u : Value) (w : World) (hl : ListR w A rows) (hr : Reads w w.heap.size 1 R r.length (ints r)) (hg : Two w g 96 u (.slice R r.length cr)) (hm : r.length ≤ 1048576) (hn : rows.length ≤ 1048576) (hs : ∀ x ∈ rows, x.length ≤ 1048576) :
    Calls Tryz.prog 105 #[.slice A rows.length cap, .func (.func 81) #[] #[.pointer (some ⟨g, 0, none⟩)]] w fun e w' => (∃ z : Int, e = .returned (.int .i64 z) ∧ (0 ≤ z ↔ r ∈ rows)) ∧ ∃ q, w' = w.drewN q := by
  have hin : ∀ args W, (callFunc 81 args).run Tryz.prog W = .ok (.enter 81 args) W := fun args W => run_enter Tryz.func81 (by kernel_rfl) rfl args W
  have HL := Lib.hid hl
  have HS := Lib.hid hs
  have HA1 := Lib.hid (fun (a : Option Addr) (c q : Nat) (p : List Int) (hp : Reads w w.heap.size 1 a p.length (ints p)) (hpn : p.length ≤ 1048576) => ambig1_calls a R c cr g p r u (w.drewN q) (show Reads (w.drewN q) (w.drewN q).heap.size 1 a p.length (ints p) from hp) (show Reads (w.drewN q) (w.drewN q).heap.size 1 R r.length (ints r) from hr) (show Two (w.drewN q) g 96 u (.slice R r.length cr) from hg) hpn hm)
  clear hl hs hr hg
  go_enter Tryz.func105, Tryz.ntmps105
  go_wp2
  go_loopw [8] (fun i wr => ∃ k : Nat, k ≤ rows.length ∧ i = .int .i64 k ∧ (∀ (j : Nat) d, j < k → rows[j]? = some d → d ≠ r) ∧ ∃ q, wr = w.drewN q) (fun i _ => rows.length - (intOf i).toNat)
  case atStart => exact ⟨0, Nat.zero_le _, rfl, fun j _ hj => absurd hj (Nat.not_lt_zero _), 0, rfl⟩
  case round =>
    obtain ⟨k, hk, rfl, hall, q, rfl⟩ := hrel
    have HA := Lib.hid hall
    clear hall
    by_cases hlt : k < rows.length
    · obtain ⟨b, off, rfl, hc⟩ := HL.out (by omega)
      obtain ⟨p, hy⟩ := some_at rows hlt
      obtain ⟨ap, cp, d1, r1⟩ := hc k p hy
      have HF1 := Lib.hid (HA1.out ap cp q p r1 (HS.out p (List.mem_of_getElem? hy)))
      have HY := Lib.hid hy
      have d1' : (w.drewN q).cell? ⟨b, off + k, none⟩ = some (.slice ap p.length cp) := d1
      have i0 : (0 : Int) ≤ (k : Int) := by omega
      have i1 : (k : Int) < (rows.length : Int) := by omega
      clear hy hc r1
      by_cases he : p = r
      · have HE := Lib.hid (decide_eq_true he)
        have HM := Lib.hid (show r ∈ rows by rw [← he]; exact List.mem_of_getElem? HY.out)
        clear he
        go_wp2_with fail
        refine HF1.out.mono ?_
        rw [HE.out]
        rintro e w1 ⟨rfl, q1, rfl⟩
        go_wp2
        go_ret
        exact ⟨⟨(k : Int), rfl, fun _ => HM.out, fun _ => by omega⟩, q + q1, rfl⟩
      · have HE := Lib.hid (decide_eq_false he)
        have HN := Lib.hid he
        clear he
        go_wp2_with fail
        refine HF1.out.mono ?_
        rw [HE.out]
        rintro e w1 ⟨rfl, q1, rfl⟩
        go_wp2
        go_roundw
        case rel => exact ⟨k + 1, by omega, by go_num, fun j d hj hd => by
          rcases Nat.lt_or_ge j k with h | h
          · exact HA.out j d h hd
          · obtain rfl : j = k := by omega
            rw [HY.out] at hd
            obtain rfl := Option.some.inj hd
            exact HN.out, q + q1, rfl⟩
        case measure => simp [intOf]; omega
    · obtain rfl : k = rows.length := by omega
      have HF := Lib.hid (show ¬ r ∈ rows from fun h => by
        obtain ⟨j, hj, e⟩ := List.mem_iff_getElem.1 h
        exact HA.out j _ hj (List.getElem?_eq_getElem hj) e)
      clear hin
      go_wp2
      go_ret
      exact ⟨⟨-1, rfl, fun h => absurd h (by omega), fun h => absurd h HF.out⟩, q, rfl⟩
end Go.Proofs.YtekidodfcanjaaaGreatDoor
namespace Go.Proofs.YtekidodfcanjaaaGreatDoor
open Go.RowKit
set_option linter.unusedVariables false
set_option linter.unusedSimpArgs false
set_option maxRecDepth 100000

set_option maxHeartbeats 1000000 in
theorem ContainsFunc_rows (A R : Option Addr) (cap cr g : Nat) (rows : List (List Int)) (r : List Int) (u : Value) (w : World) (hl : ListR w A rows) (hr : Reads w w.heap.size 1 R r.length (ints r)) (hg : Two w g 96 u (.slice R r.length cr)) (hm : r.length ≤ 1048576) (hn : rows.length ≤ 1048576) (hs : ∀ x ∈ rows, x.length ≤ 1048576) :
    Calls Tryz.prog 80 #[.slice A rows.length cap, .func (.func 81) #[] #[.pointer (some ⟨g, 0, none⟩)]] w fun e w' => e = .returned (.bool (decide (r ∈ rows))) ∧ ∃ q, w' = w.drewN q := by
  have HI := Lib.hid (IndexFunc_rows A R cap cr g rows r u w hl hr hg hm hn hs)
  clear hl hr hg hs
  by_cases hmem : r ∈ rows
  · rw [show decide (r ∈ rows) = true from decide_eq_true hmem]
    have HM := Lib.hid hmem
    clear hmem
    go_enter Tryz.func80, Tryz.ntmps80
    go_wp2_with fail
    refine HI.out.mono ?_
    rintro e w1 ⟨⟨z, rfl, hz⟩, q, rfl⟩
    have h0 : 0 ≤ z := hz.2 HM.out
    clear hz
    go_wp2
    go_ret
    exact ⟨by first | rfl | simp [h0], q, rfl⟩
  · rw [show decide (r ∈ rows) = false from decide_eq_false hmem]
    have HM := Lib.hid hmem
    clear hmem
    go_enter Tryz.func80, Tryz.ntmps80
    go_wp2_with fail
    refine HI.out.mono ?_
    rintro e w1 ⟨⟨z, rfl, hz⟩, q, rfl⟩
    have h0 : ¬ 0 ≤ z := fun h => HM.out (hz.1 h)
    clear hz
    go_wp2
    go_ret
    exact ⟨by first | rfl | simp [h0], q, rfl⟩
end Go.Proofs.YtekidodfcanjaaaGreatDoor
namespace Go.Proofs.YtekidodfcanjaaaGreatDoor
open Go.RowKit
set_option linter.unusedVariables false
set_option linter.unusedSimpArgs false
set_option maxRecDepth 100000

theorem own_keep {e : TypeId} {B B' size n : Nat} {w w' : World} {v : Value} {xs : List Value} (h : w.ownsRow B e size v n xs) (k : Keep e B' w w') : w'.ownsRow B e size v n xs := by
  obtain ⟨h1, h2⟩ := h
  refine ⟨h1, ?_⟩
  rcases h2 with h2 | ⟨g, cap, cur, hv, hb, hg, rest⟩
  · exact .inl h2
  · exact .inr ⟨g, cap, cur, hv, hb, k.typed g cur hg, rest⟩
/-- One block of another type has been written. -/
theorem keep_only {e e2 : TypeId} {B size n g cap : Nat} {w w' : World} {xs : List Value} (h : w.ownsRow B e2 size (.slice (some ⟨g, 0, none⟩) n cap) n xs) (ho : Only g (g + 1) w w') (hne : e2 ≠ e) : Keep e B w w' := by
  have hlo := (h.lt g rfl).1
  refine ⟨ho.os, ho.tape, ho.output, ho.size, fun k hk => ?_, fun k c hc => ?_⟩
  · have hl := (h.lt g rfl).2
    exact ho.block k (by omega) (.inl (by omega))
  · refine (ho.block k (Array.getElem?_eq_some_iff.1 hc).1 ?_).trans hc
    rcases Nat.lt_trichotomy k g with h1 | h1 | h1
    · exact .inl h1
    · subst h1
      rcases h.2 with ⟨hv, _⟩ | ⟨g', cap', cur, hv, _, hgg, _⟩
      · cases hv
      · injection hv with hv
        injection hv with hv
        injection hv with hv
        subst hv
        rw [hgg] at hc
        injection hc with hc
        injection hc with _ h2
        exact absurd h2 hne
    · exact .inr (by omega)
/-- A list of ints as a value: its row is never written. -/
def RowP (B : Nat) (w : World) (v : Value) (xs : List Int) : Prop := ∃ (A : Option Addr) (c : Nat), v = .slice A xs.length c ∧ RowT 3 B w A xs.length (ints xs) ∧ xs.length ≤ c ∧ c ≤ maxLen
section
variable {B : Nat} {w w' : World} {v u : Value} {xs : List Int} {O : List WtD} {s : WtD} {rs : List (List Int)}
theorem RowP.keep (h : RowP B w v xs) (k : Keep 3 B w w') : RowP B w' v xs := by
  obtain ⟨A, c, hv, h1, h2, h3⟩ := h
  exact ⟨A, c, hv, h1.keep k, h2, h3⟩
def WitOk (B : Nat) (w : World) (c : Value × Value) (s : WtD) : Prop := RowP B w c.1 s.2 ∧ RowP B w c.2 s.1
theorem WitOk.keep {c : Value × Value} (h : WitOk B w c s) (k : Keep 3 B w w') : WitOk B w' c s := ⟨h.1.keep k, h.2.keep k⟩
def Wits (B : Nat) (w : World) (v : Value) (O : List WtD) : Prop :=
  ∃ cs : List (Value × Value), cs.length = O.length ∧ w.ownsRow B 96 2 v O.length (flat2 cs) ∧ ∀ (j : Nat) c s, cs[j]? = some c → O[j]? = some s → WitOk B w c s
theorem Wits.keep (h : Wits B w v O) (k : Keep 3 B w w') (k2 : Keep 96 B w w') : Wits B w' v O := by
  obtain ⟨cs, h1, h2, h3⟩ := h
  exact ⟨cs, h1, own_keep h2 k2, fun j c s hc hs => (h3 j c s hc hs).keep k⟩
theorem Wits.far (h : Wits B w v O) (hb : Below w.heap.size w w') (hB : B ≤ w.heap.size) : Wits B w' v O := h.keep (Keep.of_below hb hB) (Keep.of_below hb hB)
theorem Wits.slice (h : Wits B w v O) : ∃ A c, v = .slice A O.length c ∧ O.length ≤ c ∧ c ≤ maxLen := by
  obtain ⟨cs, h1, h2, h3⟩ := h
  obtain ⟨A, c, rfl, -, h4, h5⟩ := (Own.of_row h2).slice
  exact ⟨A, c, rfl, h4, h5⟩
theorem Wits.made (hB : B ≤ w.heap.size) : Wits B (w.alloc (.cells #[] 96)) (.slice (some ⟨w.heap.size, 0, none⟩) 0 0) [] :=
  ⟨[], rfl, World.ownsRow_made w #[] 0 hB (by simp) rfl, fun j c s h => by simp at h⟩
theorem Wits.open_ (h : Wits B w v O) (hn : 0 < O.length) : ∃ g cap, v = .slice (some ⟨g, 0, none⟩) O.length cap ∧ B ≤ g ∧ g < w.heap.size ∧ O.length ≤ cap ∧ cap ≤ maxLen ∧
    ∀ (j : Nat) s, O[j]? = some s → ∃ c : Value × Value, WitOk B w c s ∧ w.cell? ⟨g, j * 2, none⟩ = some c.1 ∧ w.cell? ⟨g, j * 2 + 1, none⟩ = some c.2 := by
  obtain ⟨cs, h1, h2, h3⟩ := h
  obtain ⟨g, cap, rfl, k1, -, k2, k3, k4, k5, k6⟩ := (Own.of_row h2).open_ hn
  refine ⟨g, cap, rfl, k1, k2, k3, k4, fun j s hs => ?_⟩
  have hj := (List.getElem?_eq_some_iff.1 hs).1
  obtain ⟨c, hc⟩ := some_at cs (show j < cs.length by omega)
  obtain ⟨e0, e1⟩ := flat2_at hc
  exact ⟨c, h3 j c s hc hs, (k5 _ (by omega)).trans e0, (k5 _ (by omega)).trans e1⟩
/-- A state is put behind the others. -/
theorem Wits.put {cs : List (Value × Value)} {v2 rv av : Value} {r a : List Int} (h1 : cs.length = O.length) (h2 : w.ownsRow B 96 2 v O.length (flat2 cs)) (h3 : ∀ (j : Nat) c s, cs[j]? = some c → O[j]? = some s → WitOk B w c s) (hB : B ≤ w.heap.size)
    (ha : RowP B w av a) (hr : RowP B w rv r) (own2 : w'.ownsRow B 96 2 v2 (O.length + 1) (flat2 cs ++ [av, rv])) (gr : w.grownBy w' v.ownBlock) :
    Wits B w' v2 (O ++ [(r, a)]) ∧ Keep 3 B w w' ∧ Keep 26 B w w' := by
  have kp : Keep 3 B w w' := Keep.of_grown h2 gr (by decide) (Nat.le_refl _) hB
  refine ⟨⟨cs ++ [(av, rv)], by simp [h1], by rw [flat2_snoc, List.length_append]; exact own2, fun j c s hc hs => ?_⟩, kp, Keep.of_grown h2 gr (by decide) (Nat.le_refl _) hB⟩
  rcases Nat.lt_trichotomy j O.length with h | h | h
  · rw [List.getElem?_append_left (by omega)] at hc hs
    exact (h3 j c s hc hs).keep kp
  · subst h
    rw [List.getElem?_append_right (by omega), h1] at hc
    rw [List.getElem?_append_right (by omega)] at hs
    simp only [Nat.sub_self, List.getElem?_cons_zero, Option.some.injEq] at hc hs
    subst hc hs
    exact ⟨ha.keep kp, hr.keep kp⟩
  · have := (List.getElem?_eq_some_iff.1 hs).1
    simp at this
    omega
/-- One is left out. -/
theorem flat2_without (cs : List (Value × Value)) (k : Nat) : (flat2 cs).take (k * 2) ++ (flat2 cs).drop ((k + 1) * 2) = flat2 (cs.take k ++ cs.drop (k + 1)) := by
  have e1 : ∀ (cs : List (Value × Value)) k, (flat2 cs).take (k * 2) = flat2 (cs.take k) := by
    intro cs
    induction cs with
    | nil => intro k; simp [flat2]
    | cons p cs ih =>
      intro k
      cases k with
      | zero => simp [flat2]
      | succ k =>
        have := ih k
        simp only [flat2] at this ⊢
        rw [List.take_succ_cons, List.flatMap_cons, List.flatMap_cons, ← this, show (k + 1) * 2 = k * 2 + 2 by omega]
        simp [List.take]
  have e2 : ∀ (cs : List (Value × Value)) k, (flat2 cs).drop (k * 2) = flat2 (cs.drop k) := by
    intro cs
    induction cs with
    | nil => intro k; simp [flat2]
    | cons p cs ih =>
      intro k
      cases k with
      | zero => simp [flat2]
      | succ k =>
        have := ih k
        simp only [flat2] at this ⊢
        rw [List.drop_succ_cons, List.flatMap_cons, ← this, show (k + 1) * 2 = k * 2 + 2 by omega]
        simp [List.drop]
  rw [e1, e2]
  simp [flat2]
theorem Wits.cut {v2 : Value} {k : Nat} (h : Wits B w v O) (hk : k < O.length) (own2 : ∀ cs : List (Value × Value), cs.length = O.length → w.ownsRow B 96 2 v O.length (flat2 cs) → w'.ownsRow B 96 2 v2 (O.length - 1) ((flat2 cs).take (k * 2) ++ (flat2 cs).drop ((k + 1) * 2))) (kp : Keep 3 B w w') :
    Wits B w' v2 (without O k) := by
  obtain ⟨cs, h1, h2, h3⟩ := h
  have h4 := own2 cs h1 h2
  rw [flat2_without] at h4
  refine ⟨cs.take k ++ cs.drop (k + 1), by simp [without, h1], by rw [without_len hk]; exact h4, fun j c s hc hs => ?_⟩
  unfold without at hs
  rw [List.getElem?_append] at hc hs
  simp only [List.length_take] at hc hs
  rw [show min k cs.length = k by omega] at hc
  rw [show min k O.length = k by omega] at hs
  by_cases hj : j < k
  · rw [if_pos hj, List.getElem?_take, if_pos hj] at hc hs
    exact (h3 j c s hc hs).keep kp
  · rw [if_neg hj, List.getElem?_drop] at hc hs
    exact (h3 _ c s hc hs).keep kp
/-- The rests that are done. -/
def Rests (B : Nat) (w : World) (v : Value) (rs : List (List Int)) : Prop :=
  ∃ vs : List Value, vs.length = rs.length ∧ w.ownsRow B 26 1 v rs.length vs ∧ ∀ (j : Nat) u r, vs[j]? = some u → rs[j]? = some r → RowP B w u r
theorem Rests.keep (h : Rests B w v rs) (k : Keep 3 B w w') (k2 : Keep 26 B w w') : Rests B w' v rs := by
  obtain ⟨cs, h1, h2, h3⟩ := h
  exact ⟨cs, h1, own_keep h2 k2, fun j c s hc hs => (h3 j c s hc hs).keep k⟩
theorem Rests.far (h : Rests B w v rs) (hb : Below w.heap.size w w') (hB : B ≤ w.heap.size) : Rests B w' v rs := h.keep (Keep.of_below hb hB) (Keep.of_below hb hB)
theorem Rests.made (hB : B ≤ w.heap.size) : Rests B (w.alloc (.cells #[] 26)) (.slice (some ⟨w.heap.size, 0, none⟩) 0 0) [] :=
  ⟨[], rfl, World.ownsRow_made w #[] 0 hB (by simp) rfl, fun j c s h => by simp at h⟩
theorem Rests.list (h : Rests B w v rs) : ∃ A c, v = .slice A rs.length c ∧ ListR w A rs := by
  obtain ⟨vs, h1, h2, h3⟩ := h
  obtain ⟨A, c, rfl, -, -, -⟩ := (Own.of_row h2).slice
  refine ⟨A, c, rfl, fun hn => ?_⟩
  obtain ⟨g, cap, hv, k1, -, k2, k3, k4, k5, k6⟩ := (Own.of_row h2).open_ hn
  injection hv with hv1 _ _
  refine ⟨g, 0, hv1, fun k r hr => ?_⟩
  have hk := (List.getElem?_eq_some_iff.1 hr).1
  obtain ⟨u, hu⟩ := some_at vs (show k < vs.length by omega)
  obtain ⟨a, c2, rfl, rd, -, -⟩ := h3 k u r hu hr
  exact ⟨a, c2, by rw [Nat.zero_add]; exact (k5 k (by omega)).trans hu, rd.reads⟩
theorem Rests.put {vs : List Value} {v2 rv : Value} {r : List Int} (h1 : vs.length = rs.length) (h2 : w.ownsRow B 26 1 v rs.length vs) (h3 : ∀ (j : Nat) u r, vs[j]? = some u → rs[j]? = some r → RowP B w u r) (hB : B ≤ w.heap.size)
    (hr : RowP B w rv r) (own2 : w'.ownsRow B 26 1 v2 (rs.length + 1) (vs ++ [rv])) (gr : w.grownBy w' v.ownBlock) :
    Rests B w' v2 (rs ++ [r]) ∧ Keep 3 B w w' ∧ Keep 96 B w w' := by
  have kp : Keep 3 B w w' := Keep.of_grown h2 gr (by decide) (Nat.le_refl _) hB
  refine ⟨⟨vs ++ [rv], by simp [h1], by rw [List.length_append]; exact own2, fun j c s hc hs => ?_⟩, kp, Keep.of_grown h2 gr (by decide) (Nat.le_refl _) hB⟩
  rcases Nat.lt_trichotomy j rs.length with h | h | h
  · rw [List.getElem?_append_left (by omega)] at hc hs
    exact (h3 j c s hc hs).keep kp
  · subst h
    rw [List.getElem?_append_right (by omega), h1] at hc
    rw [List.getElem?_append_right (by omega)] at hs
    simp only [Nat.sub_self, List.getElem?_cons_zero, Option.some.injEq] at hc hs
    subst hc hs
    exact hr.keep kp
  · have := (List.getElem?_eq_some_iff.1 hs).1
    simp at this
    omega
end
end Go.Proofs.YtekidodfcanjaaaGreatDoor
namespace Go.Proofs.YtekidodfcanjaaaGreatDoor
open Go.RowKit
set_option linter.unusedVariables false
set_option linter.unusedSimpArgs false
set_option maxRecDepth 100000

def writes : List Value → Nat → List Value → List Value
  | xs, _, [] => xs
  | xs, o, v :: r => writes (xs.set o v) (o + 1) r
theorem writes_eq : ∀ (vs xs : List Value) (o : Nat), o + vs.length ≤ xs.length → writes xs o vs = xs.take o ++ vs ++ xs.drop (o + vs.length)
  | [], xs, o, h => by simp [writes]
  | v :: r, xs, o, h => by
    have ho : o < xs.length := by simp at h; omega
    obtain ⟨A, hA⟩ : ∃ A, A = xs.take o := ⟨_, rfl⟩
    obtain ⟨C, hC⟩ : ∃ C, C = xs.drop (o + 1) := ⟨_, rfl⟩
    have hl : A.length = o := by rw [hA]; simp; omega
    have hs : xs.set o v = A ++ v :: C := by rw [hA, hC, List.set_eq_take_append_cons_drop, if_pos ho]
    have t1 : (A ++ v :: C).take (o + 1) = A ++ [v] := by rw [show o + 1 = A.length + 1 by omega, List.take_length_add_append]; simp
    have t2 : (A ++ v :: C).drop (o + 1 + r.length) = C.drop r.length := by
      rw [show o + 1 + r.length = A.length + (r.length + 1) by omega, List.drop_length_add_append]; simp
    rw [writes, writes_eq r _ _ (by simp at h ⊢; omega), hs, t1, t2, ← hA, hC, List.drop_drop]
    simp only [List.append_assoc, List.singleton_append, List.cons_append, List.nil_append, List.length_cons]
    rw [show o + 1 + r.length = o + (r.length + 1) by omega]
section
variable {B size n cap g m : Nat} {e : TypeId}
theorem own_sets : ∀ (vs : List Value) (o : Nat) (w : World) (xs : List Value), w.ownsRow B e size (.slice (some ⟨g, 0, none⟩) n cap) n xs → (w.setCells g o vs).ownsRow B e size (.slice (some ⟨g, 0, none⟩) n cap) n (writes xs o vs)
  | [], o, w, xs, h => h
  | v :: r, o, w, xs, h => own_sets r (o + 1) _ _ (h.stored o v).1
theorem only_sets (g : Nat) : ∀ (vs : List Value) (o : Nat) (w : World), Only g (g + 1) w (w.setCells g o vs)
  | [], o, w => Only.refl w
  | v :: r, o, w => ((Only.refl w).setCell (p := ⟨g, o, none⟩) (Nat.le_refl _) (Nat.lt_succ_self _) v).trans (only_sets g r (o + 1) _)
theorem own_less {w : World} {xs : List Value} (h : w.ownsRow B e size (.slice (some ⟨g, 0, none⟩) n cap) n xs) (hm : m ≤ n) : w.ownsRow B e size (.slice (some ⟨g, 0, none⟩) m cap) m (xs.take (m * size)) := by
  obtain ⟨h1, h2⟩ := h
  have hms : m * size ≤ n * size := Nat.mul_le_mul_right _ hm
  refine ⟨by rw [List.length_take, h1]; exact Nat.min_eq_left hms, .inr ?_⟩
  rcases h2 with ⟨hv, _⟩ | ⟨g', cap', cur, hv, hb, hg, hn, hc, hs, ht⟩
  · cases hv
  · injection hv with hv1 _ hv3
    injection hv1 with hv1
    injection hv1 with e1
    subst e1 hv3
    exact ⟨g, cap, cur, rfl, hb, hg, by omega, hc, hs, by rw [← ht, List.take_take, Nat.min_eq_left hms]⟩
end
theorem info_wit : (Tryz.prog.info? 96).map (fun i => (i.zero, i.size, i.bytes)) = some (some (.agg #[.slice none 0 0, .slice none 0 0]), 2, 48) := by kernel_rfl
theorem zero_wit : ∀ w, (zeroValue 96).run Tryz.prog w = .ok (.agg #[.slice none 0 0, .slice none 0 0]) w := by
  first | exact Tryz.zeroValue96 | (intro w; kernel_rfl) | (intro w; rfl)
/-- 'clear' of one state. -/
theorem run_clear_one (w : World) (ty : TypeId) (b o c : Nat) (hc : ∀ j, j < 2 → (w.cell? ⟨b, o + j, none⟩).isSome = true) (hf : ∀ j, j < 2 → w.frozen? ⟨b, o + j, none⟩ = false) :
    (Builtin.clear_ #[94] ty #[.slice (some ⟨b, o, none⟩) 1 c]).run Tryz.prog w = .ok (.tuple #[]) (w.setCells b o [.slice none 0 0, .slice none 0 0]) := by
  have hzc : (Builtin.zeroCells (Value.agg #[.slice none 0 0, .slice none 0 0]).cells 1).toList = [.slice none 0 0, .slice none 0 0] := by
    have e : (Value.agg #[.slice none 0 0, .slice none 0 0]).cells = #[.slice none 0 0, .slice none 0 0] := by simp [Value.cells]
    rw [e]
    simp [Builtin.zeroCells, Array.range, Array.ofFn]
    try rfl
  have hst := run_storeCells_cells (P := Tryz.prog) b o [.slice none 0 0, .slice none 0 0] 0 w (by simpa using hc) (by simpa using hf) (by intro v hv; simp at hv; rw [hv]; rfl)
  simp only [Nat.add_zero] at hst
  simp [Builtin.clear_, run_underlying Tryz.underlying94, zero_wit, hzc, hst]
theorem info_two {P : Program} {e : TypeId} {z : Value} {bytes : Nat} (h : (P.info? e).map (fun i => (i.zero, i.size, i.bytes)) = some (some z, 2, bytes)) : ∃ i0, P.info? e = some i0 ∧ i0.size = 2 := by
  cases hi : P.info? e with
  | none => rw [hi] at h; cases h
  | some i => rw [hi] at h; simp at h; exact ⟨i, rfl, h.2.1⟩
set_option maxHeartbeats 4000000 in
theorem slices_Delete_wit (B g cap N k : Nat) (xs : List Value) (w : World) (h : w.ownsRow B 96 2 (.slice (some ⟨g, 0, none⟩) (N + 1) cap) (N + 1) xs) (hk : k < N + 1) (hn : N ≤ 1000000) (h1 : ∀ u ∈ xs, u.oneCell' = true) :
    Calls Tryz.prog 79 #[.slice (some ⟨g, 0, none⟩) (N + 1) cap, .int .i64 k, .int .i64 ((k : Int) + 1)] w fun e w' => e = .returned (.slice (some ⟨g, 0, none⟩) N cap) ∧ w'.ownsRow B 96 2 (.slice (some ⟨g, 0, none⟩) N cap) N (xs.take (k * 2) ++ xs.drop ((k + 1) * 2)) ∧ Only g (g + 1) w w' := by
  obtain ⟨g', cap', hv, -, -, hgl, hcap, hcm, hcell, hfr⟩ := (Own.of_row h).open_ (by omega)
  injection hv with hv1 hv0 hv2
  injection hv1 with hv1
  injection hv1 with hv1 hv3 hv4
  clear hv0 hv3 hv4
  subst hv1 hv2
  have hxl := h.1
  unfold maxLen at hcm
  obtain ⟨i0, hi0, hz1⟩ := info_two info_wit
  -- the cells that are moved to the left
  obtain ⟨news, hnews⟩ : ∃ news, news = xs.drop ((k + 1) * 2) := ⟨_, rfl⟩
  have hnl : news.length = (N + 1 - (k + 1)) * 2 := by rw [hnews, List.length_drop, hxl]; omega
  -- the worlds behind the append and behind 'clear'
  obtain ⟨W1, hW1⟩ : ∃ W1, W1 = w.drew.setCells g (0 + k * 2) news := ⟨_, rfl⟩
  have o1 : W1.ownsRow B 96 2 (.slice (some ⟨g, 0, none⟩) (N + 1) cap) (N + 1) (writes xs (0 + k * 2) news) := by rw [hW1]; exact own_sets news (0 + k * 2) w.drew xs h
  have y1 : Only g (g + 1) w W1 := by rw [hW1]; exact (Only.refl w).drew.trans (only_sets g news _ w.drew)
  have hw1 : writes xs (0 + k * 2) news = xs.take (k * 2) ++ news ++ xs.drop (N * 2) := by
    rw [Nat.zero_add, writes_eq _ _ _ (by rw [hnl, hxl]; omega), hnl, show k * 2 + (N + 1 - (k + 1)) * 2 = N * 2 by omega]
  obtain ⟨W2, hW2⟩ : ∃ W2, W2 = W1.setCells g (N * 2) [.slice none 0 0, .slice none 0 0] := ⟨_, rfl⟩
  have hwl : (writes xs (0 + k * 2) news).length = (N + 1) * 2 := o1.1
  have o2 : W2.ownsRow B 96 2 (.slice (some ⟨g, 0, none⟩) N cap) N (xs.take (k * 2) ++ news) := by
    have h2 := own_less (own_sets [.slice none 0 0, .slice none 0 0] (N * 2) W1 _ o1) (show N ≤ N + 1 by omega)
    rw [← hW2, writes_eq _ _ _ (by rw [hwl]; simp; omega), hw1] at h2
    have hl2 : (xs.take (k * 2) ++ news).length = N * 2 := by rw [List.length_append, List.length_take, hnl, hxl]; omega
    have e2 : ((xs.take (k * 2) ++ news ++ xs.drop (N * 2)).take (N * 2) ++ [Value.slice none 0 0, .slice none 0 0] ++ (xs.take (k * 2) ++ news ++ xs.drop (N * 2)).drop (N * 2 + [Value.slice none 0 0, .slice none 0 0].length)).take (N * 2) = xs.take (k * 2) ++ news := by
      rw [List.append_assoc, List.take_append_of_le_length (by rw [List.length_take, List.length_append, hl2]; omega), List.take_take, Nat.min_self, List.take_append_of_le_length (by omega), List.take_of_length_le (by omega)]
    rw [e2] at h2
    exact h2
  have y2 : Only g (g + 1) w W2 := by rw [hW2]; exact y1.trans (only_sets g _ _ W1)
  obtain ⟨_, _, hv5, -, -, -, -, -, hcell1, hfr1⟩ := (Own.of_row o1).open_ (by omega)
  injection hv5 with hv5 hq1 hq2
  injection hv5 with hv5
  injection hv5 with hv5 hq3 hq4
  clear hq1 hq2 hq3 hq4
  subst hv5
  have hcl : ∀ ty, (Builtin.clear_ #[94] ty #[.slice (some ⟨g, N * 2, none⟩) 1 (cap - N)]).run Tryz.prog W1 = .ok (.tuple #[]) W2 := fun ty => by
    rw [hW2]
    exact run_clear_one W1 ty g (N * 2) (cap - N) (fun j hj => by
      rw [hcell1 (N * 2 + j) (by omega)]
      obtain ⟨u, hu⟩ := some_at (writes xs (0 + k * 2) news) (show N * 2 + j < _ by rw [hwl]; omega)
      rw [hu]; rfl) (fun j hj => hfr1 _)
  have HN := Lib.hid hnl
  have HSRC := Lib.hid (show ∀ (j : Nat) u, news[j]? = some u → w.drew.cell? ((⟨g, (k + 1) * 2, none⟩ : Addr).add j) = some u from fun j u hu => by
    have hj := (List.getElem?_eq_some_iff.1 hu).1
    rw [show (⟨g, (k + 1) * 2, none⟩ : Addr).add j = ⟨g, (k + 1) * 2 + j, none⟩ by unfold Addr.add; split <;> simp_all]
    show w.cell? _ = _
    rw [hcell _ (by rw [hnl] at hj; omega)]
    rw [hnews, List.getElem?_drop] at hu
    exact hu)
  have HONE := Lib.hid (show ∀ u ∈ news, u.oneCell' = true from fun u hu => h1 u (by rw [hnews] at hu; exact List.mem_of_mem_drop hu))
  have HSP := Lib.hid (show ∀ j, j < news.length → (w.drew.cell? ⟨g, 0 + k * 2 + j, none⟩).isSome = true ∧ w.drew.frozen? ⟨g, 0 + k * 2 + j, none⟩ = false from fun j hj => by
    refine ⟨?_, hfr _⟩
    show (w.cell? _).isSome = true
    rw [hcell (0 + k * 2 + j) (by rw [hnl] at hj; omega)]
    obtain ⟨u, hu⟩ := some_at xs (show 0 + k * 2 + j < xs.length by rw [hnl] at hj; rw [hxl]; omega)
    rw [hu]; rfl)
  have HW1 := Lib.hid hW1
  have HO2 := Lib.hid o2
  have HY2 := Lib.hid y2
  have HNW := Lib.hid hnews
  have HCL := Lib.hid hcl
  clear h hcell hfr h1 hxl hcell1 hfr1 o1 o2 y1 y2 hw1 hwl hW1 hW2 hnews hnl hcl
  have k0 : (0 : Int) ≤ (k : Int) := by omega
  have k1 : (k : Int) < ((N : Int) + 1) := by omega
  have k2 : (0 : Int) ≤ (k : Int) + 1 := by omega
  have k3 : (k : Int) + 1 ≤ (N : Int) + 1 := by omega
  have k4 : ((k : Int) + 1).toNat = k + 1 := by omega
  have k5 : ((k : Int) == (k : Int) + 1) = false := by rw [beq_eq_false_iff_ne]; omega
  have k6 : (N : Int) + 1 ≤ (cap : Int) := by omega
  have k7 : (k : Int) ≤ (cap : Int) := by omega
  have k8 : (k : Int) + 1 ≤ (cap : Int) := by omega
  have k9 : k ≤ cap := by omega
  have k10 : k + 1 ≤ cap := by omega
  by_cases hce : cap = k + 1
  · obtain rfl : k = N := by omega
    subst hce
    have j1 : (k : Int) ≤ (k : Int) + 1 := by omega
    have j2 : ((k + 1 : Nat) : Int) = (k : Int) + 1 := by omega
    rw [j2] at k6 k7 k8
    clear j2
    have hn0 : news = [] := List.eq_nil_of_length_eq_zero (by rw [HN.out]; omega)
    subst hn0
    go_enter Tryz.func79, Tryz.ntmps79
    go_wp2_with fail
    first | refine wp_region_noPanic ?_ | skip
    refine wp_region_held_drew (S := fun _ => True) (by kernel_rfl) (by exact trivial) (fun hHeld => ?_)
    (refine wpAnyH_take (i := 0) (v := ?_) rfl (by kernel_rfl) (by kernel_rfl) (by kernel_rfl) (fun _ _ _ h => h) (Or.inl ⟨by rfl, ?_⟩) (by assumption) ?_; rotate_left; focus (intro w hSw; (try dsimp only at hSw); go_simp; try with_reducible rfl))
    (try simp only [List.getElem_toArray, List.getElem_cons_succ, List.getElem_cons_zero, Act.put, List.setIfInBounds_toArray, List.set_cons_zero, List.set_cons_succ])
    (refine wpAnyH_take (i := 1) (v := ?_) rfl (by kernel_rfl) (by kernel_rfl) (by kernel_rfl) (fun _ _ _ h => h) (Or.inl ⟨by rfl, ?_⟩) (by assumption) ?_; rotate_left; focus (intro w hSw; (try dsimp only at hSw); go_simp; try with_reducible rfl))
    (try simp only [List.getElem_toArray, List.getElem_cons_succ, List.getElem_cons_zero, Act.put, List.setIfInBounds_toArray, List.set_cons_zero, List.set_cons_succ])
    (refine wpAnyH_take (i := 2) (v := ?_) rfl (by kernel_rfl) (by kernel_rfl) (by kernel_rfl) (fun _ _ _ h => h) (Or.inl ⟨by rfl, ?_⟩) (by assumption) ?_; rotate_left; focus (intro w hSw; (try dsimp only at hSw); go_simp; try with_reducible rfl))
    (try simp only [List.getElem_toArray, List.getElem_cons_succ, List.getElem_cons_zero, Act.put, List.setIfInBounds_toArray, List.set_cons_zero, List.set_cons_succ])
    (refine wpAnyH_take (i := 3) (v := ?_) rfl (by kernel_rfl) (by kernel_rfl) (by kernel_rfl) (fun _ _ _ h => h) (Or.inl ⟨by rfl, ?_⟩) (by assumption) ?_; rotate_left; focus (intro w hSw; (try dsimp only at hSw); go_simp; try with_reducible rfl))
    (try simp only [List.getElem_toArray, List.getElem_cons_succ, List.getElem_cons_zero, Act.put, List.setIfInBounds_toArray, List.set_cons_zero, List.set_cons_succ])
    (refine wpAnyH_take (i := 4) (v := ?_) rfl (by kernel_rfl) (by kernel_rfl) (by kernel_rfl) (fun _ _ _ h => h) (Or.inl ⟨by rfl, ?_⟩) (by assumption) ?_; rotate_left; focus (intro w hSw; (try dsimp only at hSw); go_simp; try with_reducible rfl))
    (try simp only [List.getElem_toArray, List.getElem_cons_succ, List.getElem_cons_zero, Act.put, List.setIfInBounds_toArray, List.set_cons_zero, List.set_cons_succ])
    (refine wpAnyH_take (i := 5) (v := ?_) rfl (by kernel_rfl) (by kernel_rfl) (by kernel_rfl) (fun _ _ _ h => h) (Or.inl ⟨by rfl, ?_⟩) (by assumption) ?_; rotate_left; focus (intro w hSw; (try dsimp only at hSw); go_simp; try with_reducible rfl))
    (try simp only [List.getElem_toArray, List.getElem_cons_succ, List.getElem_cons_zero, Act.put, List.setIfInBounds_toArray, List.set_cons_zero, List.set_cons_succ])
    refine wpAnyH_ready (rs := [6]) (by kernel_rfl) (by simp) ?_
    refine AllReadyH.cons rfl (fun K hK => ?_) AllReadyH.nil
    refine step_append_room rfl (.tmp 22) (.tmp 25) 94 rfl 96 i0 2 Tryz.underlying94 hi0 hz1 g 0 k (k + 1) (by first | rfl | simp [Act.eval, Act.put]) ⟨g, 0, none⟩ 0 0 [] (by first | rfl | simp [Act.eval, Act.put]) (by simp) (fun j u h => by simp at h) (fun u h => by simp at h) (by omega) (fun j h => by simp at h) ?_
    refine hK.out _ _ (trivial) (fun hHeld => ?_)
    clear hK K
    (try simp only [List.getElem_toArray, List.getElem_cons_succ, List.getElem_cons_zero, Act.put, List.setIfInBounds_toArray, List.set_cons_zero, List.set_cons_succ])
    (refine wpAnyH_take (i := 7) (v := ?_) rfl (by kernel_rfl) (by kernel_rfl) (by kernel_rfl) (fun _ _ _ h => h) (Or.inl ⟨by rfl, ?_⟩) (by assumption) ?_; rotate_left; focus (intro w hSw; (try dsimp only at hSw); go_simp; try with_reducible rfl))
    (try simp only [List.getElem_toArray, List.getElem_cons_succ, List.getElem_cons_zero, Act.put, List.setIfInBounds_toArray, List.set_cons_zero, List.set_cons_succ])
    refine wpAnyH_done (by kernel_rfl) ?_ _
    first | refine NoPanic.normal ?_ | skip
    rw [← HW1.out]
    have hNc : ¬ k + 1 = k := by omega
    have hcl := HCL.out
    rw [show k + 1 - k = 1 by omega] at hcl
    have j4 : ((k : Int) + 1).toNat = k + 1 := by omega
    clear hHeld
    go_wp2
    go_ret
    exact ⟨rfl, by rw [← HNW.out]; exact HO2.out, HY2.out⟩
  · go_enter Tryz.func79, Tryz.ntmps79
    go_wp2_with fail
    first | refine wp_region_noPanic ?_ | skip
    refine wp_region_held_drew (S := fun _ => True) (by kernel_rfl) (by exact trivial) (fun hHeld => ?_)
    (refine wpAnyH_take (i := 0) (v := ?_) rfl (by kernel_rfl) (by kernel_rfl) (by kernel_rfl) (fun _ _ _ h => h) (Or.inl ⟨by rfl, ?_⟩) (by assumption) ?_; rotate_left; focus (intro w hSw; (try dsimp only at hSw); go_simp; try with_reducible rfl))
    (try simp only [List.getElem_toArray, List.getElem_cons_succ, List.getElem_cons_zero, Act.put, List.setIfInBounds_toArray, List.set_cons_zero, List.set_cons_succ])
    (refine wpAnyH_take (i := 1) (v := ?_) rfl (by kernel_rfl) (by kernel_rfl) (by kernel_rfl) (fun _ _ _ h => h) (Or.inl ⟨by rfl, ?_⟩) (by assumption) ?_; rotate_left; focus (intro w hSw; (try dsimp only at hSw); go_simp; try with_reducible rfl))
    (try simp only [List.getElem_toArray, List.getElem_cons_succ, List.getElem_cons_zero, Act.put, List.setIfInBounds_toArray, List.set_cons_zero, List.set_cons_succ])
    (refine wpAnyH_take (i := 2) (v := ?_) rfl (by kernel_rfl) (by kernel_rfl) (by kernel_rfl) (fun _ _ _ h => h) (Or.inl ⟨by rfl, ?_⟩) (by assumption) ?_; rotate_left; focus (intro w hSw; (try dsimp only at hSw); go_simp; try with_reducible rfl))
    (try simp only [List.getElem_toArray, List.getElem_cons_succ, List.getElem_cons_zero, Act.put, List.setIfInBounds_toArray, List.set_cons_zero, List.set_cons_succ])
    (refine wpAnyH_take (i := 3) (v := ?_) rfl (by kernel_rfl) (by kernel_rfl) (by kernel_rfl) (fun _ _ _ h => h) (Or.inl ⟨by rfl, ?_⟩) (by assumption) ?_; rotate_left; focus (intro w hSw; (try dsimp only at hSw); go_simp; try with_reducible rfl))
    (try simp only [List.getElem_toArray, List.getElem_cons_succ, List.getElem_cons_zero, Act.put, List.setIfInBounds_toArray, List.set_cons_zero, List.set_cons_succ])
    (refine wpAnyH_take (i := 4) (v := ?_) rfl (by kernel_rfl) (by kernel_rfl) (by kernel_rfl) (fun _ _ _ h => h) (Or.inl ⟨by rfl, ?_⟩) (by assumption) ?_; rotate_left; focus (intro w hSw; (try dsimp only at hSw); go_simp; try with_reducible rfl))
    (try simp only [List.getElem_toArray, List.getElem_cons_succ, List.getElem_cons_zero, Act.put, List.setIfInBounds_toArray, List.set_cons_zero, List.set_cons_succ])
    (refine wpAnyH_take (i := 5) (v := ?_) rfl (by kernel_rfl) (by kernel_rfl) (by kernel_rfl) (fun _ _ _ h => h) (Or.inl ⟨by rfl, ?_⟩) (by assumption) ?_; rotate_left; focus (intro w hSw; (try dsimp only at hSw); go_simp; try with_reducible rfl))
    (try simp only [List.getElem_toArray, List.getElem_cons_succ, List.getElem_cons_zero, Act.put, List.setIfInBounds_toArray, List.set_cons_zero, List.set_cons_succ])
    refine wpAnyH_ready (rs := [6]) (by kernel_rfl) (by simp) ?_
    refine AllReadyH.cons rfl (fun K hK => ?_) AllReadyH.nil
    refine step_append_room rfl (.tmp 22) (.tmp 25) 94 rfl 96 i0 2 Tryz.underlying94 hi0 hz1 g 0 k cap (by first | rfl | simp [Act.eval, Act.put]) ⟨g, (k + 1) * 2, none⟩ (N + 1 - (k + 1)) (cap - (k + 1)) news (by first | rfl | simp [Act.eval, Act.put]) HN.out HSRC.out HONE.out (by omega) HSP.out ?_
    refine hK.out _ _ (trivial) (fun hHeld => ?_)
    clear hK K
    (try simp only [List.getElem_toArray, List.getElem_cons_succ, List.getElem_cons_zero, Act.put, List.setIfInBounds_toArray, List.set_cons_zero, List.set_cons_succ])
    (refine wpAnyH_take (i := 7) (v := ?_) rfl (by kernel_rfl) (by kernel_rfl) (by kernel_rfl) (fun _ _ _ h => h) (Or.inl ⟨by rfl, ?_⟩) (by assumption) ?_; rotate_left; focus (intro w hSw; (try dsimp only at hSw); go_simp; try with_reducible rfl))
    (try simp only [List.getElem_toArray, List.getElem_cons_succ, List.getElem_cons_zero, Act.put, List.setIfInBounds_toArray, List.set_cons_zero, List.set_cons_succ])
    refine wpAnyH_done (by kernel_rfl) ?_ _
    first | refine NoPanic.normal ?_ | skip
    rw [← HW1.out]
    rw [show k + (N - k) = N by omega]
    have hNc : ¬ cap = N := by omega
    have hcl := HCL.out
    have j1 : (0 : Int) ≤ (N : Int) := by omega
    have j2 : (N : Int) ≤ (N : Int) + 1 := by omega
    have j3 : ((N : Int) + 1).toNat = N + 1 := by omega
    clear hHeld
    go_wp2
    go_ret
    exact ⟨rfl, by rw [← HNW.out]; exact HO2.out, HY2.out⟩
end Go.Proofs.YtekidodfcanjaaaGreatDoor
