/-
  The reference's draw of a transcript, a speaker and a text.
-/
import Derived.Test.YtnndkdkmhjpcpaaDoorDrawConc
namespace Go.Proofs.YtnndkdkmhjpcpaaDoor
open Go.RowKit
set_option linter.unusedVariables false
set_option linter.unusedSimpArgs false
set_option maxRecDepth 100000

def spL : List ByteArray := [⟨#[81]⟩, ⟨#[65]⟩, ⟨#[74, 85, 68, 71, 69]⟩, ⟨#[81]⟩, ⟨#[65]⟩, ⟨#[120]⟩]
theorem spL_size : ∀ t ∈ spL, t.size ≤ 20 := by
  intro t ht
  simp only [spL, List.mem_cons, List.not_mem_nil, or_false] at ht
  rcases ht with rfl | rfl | rfl | rfl | rfl | rfl <;> decide
def DrewAppend (w : World) (e : Ending) (w' : World) : Prop := ∃ (v : Value) (l : List TurnD) (sp tx : ByteArray), e = .returned (.tuple #[.agg #[v], .string sp, .string tx]) ∧ Own w' w.heap.size w'.heap.size 77 2 v l.length (turnsV l) ∧ l.length ≤ 40 ∧ TameT l ∧ sp.size ≤ 20 ∧ tx.size ≤ 100 ∧ Below w.heap.size w w'

set_option maxHeartbeats 2000000 in
theorem drawAppendTurn_calls (A : Option Addr) (n cap : Nat) (zs : List Int) (w : World) (h : Ints .u8 w A n cap zs) : Calls Tryd.prog 8 #[.slice A n cap] w (DrewAppend w) := by
  obtain ⟨W1, hW1⟩ : ∃ W1, W1 = w.alloc (.cells #[.slice none 0 0] 26) := ⟨_, rfl⟩
  have hs1 : W1.heap.size = w.heap.size + 1 := by rw [hW1]; simp
  have hb1 : Below w.heap.size w W1 := by rw [hW1]; exact (Below.refl _ _).alloc (Nat.le_refl _) _
  have hr1 : Box W1 w.heap.size 26 (.slice none 0 0) := by rw [hW1]; exact Box.new w _ _
  have hi1 : Ints .u8 W1 A n cap zs := ⟨(h.1.below hb1).more hb1.size, h.2⟩
  obtain ⟨W2, hW2⟩ : ∃ W2, W2 = W1.alloc (.cells #[.slice A n cap, .int .i64 0, .int .u64 0] 70) := ⟨_, rfl⟩
  have hs2 : W2.heap.size = w.heap.size + 2 := by rw [hW2]; simp [hs1]
  have hc2 : Cur W2 (w.heap.size + 1) 0 := by rw [hW2, ← hs1]; exact cur_newT hi1 _
  have hb2 : Below w.heap.size w W2 := by rw [hW2]; exact hb1.alloc hb1.size _
  have hr2 : Box W2 w.heap.size 26 (.slice none 0 0) := by rw [hW2]; exact hr1.alloc _
  have HC := Lib.hid hc2
  have HB := Lib.hid hb2
  have HR := Lib.hid hr2
  have HZ := Lib.hid hs2
  have HW : W2 = (w.alloc (.cells #[.slice none 0 0] 26)).alloc (.cells #[.slice A n cap, .int .i64 0, .int .u64 0] 70) := by rw [hW2, hW1]
  clear h hs1 hb1 hr1 hi1 hW2 hs2 hc2 hb2 hr2 hW1 W1
  go_enter Tryd.func8, Tryd.ntmps8
  go_wp2_with fail
  rw [← HW]
  clear HW
  refine (drawTurns_calls (w.heap.size + 1) 0 _ HC.out (by omega)).mono ?_
  rintro e w1 ⟨v, l, rfl, own1, hl, ht, hc1, ho1⟩
  obtain ⟨Al, cl, rfl, -, -, -⟩ := own1.slice
  have HD := Lib.hid (drawnT_of HZ.out HR.out HB.out own1 (hc1.more (by omega)) ho1)
  have HT := Lib.hid ht
  clear own1 ht hc1 ho1
  have HL := Lib.hid (HD.out.alloc (.cells (spL.map Value.string).toArray 9))
  have hz1 : (w1.alloc (.cells #[.slice Al l.length cl] 26)).heap.size = w1.heap.size + 1 := by simp
  have hpk := pick_calls (w.heap.size + 1) 200 8 _ HL.out.cur (by omega) (by omega) (by omega)
  have HP := Lib.hid hpk
  have HLC := Lib.hid (show ∀ j t, spL[j]? = some t → ((w1.alloc (.cells #[.slice Al l.length cl] 26)).alloc (.cells (spL.map Value.string).toArray 9)).cell? ⟨w1.heap.size + 1, j, none⟩ = some (.string t) from fun j t ht => by rw [← hz1]; exact new_atT (xs := spL.map Value.string) (by simp [ht]))
  have HSZ := Lib.hid (show w1.heap.size + 1 < ((w1.alloc (.cells #[.slice Al l.length cl] 26)).alloc (.cells (spL.map Value.string).toArray 9)).heap.size by simp)
  have HGT := Lib.hid (show w.heap.size + 1 ≠ w1.heap.size + 1 by have := HD.out.tb2; omega)
  clear hpk hz1
  go_wp2_with fail
  refine HP.out.mono ?_
  rintro e w3 ⟨x, rfl, hx, hc3, ho3⟩
  have HD3 := Lib.hid (HL.out.move hc3 ho3)
  have HL3 := Lib.hid (show ∀ j t, spL[j]? = some t → w3.cell? ⟨w1.heap.size + 1, j, none⟩ = some (.string t) from fun j t ht => (ho3.cell (p := ⟨w1.heap.size + 1, j, none⟩) HSZ.out (by have := HGT.out; show w1.heap.size + 1 < _ ∨ _ ≤ w1.heap.size + 1; omega)).trans (HLC.out j t ht))
  have HS3 := Lib.hid (Nat.lt_of_lt_of_le HSZ.out ho3.size)
  clear hc3 ho3 HP HLC HSZ
  obtain ⟨q, hq1, hq2⟩ : ∃ q : Nat, Int.tdiv (x : Int) 7 = (q : Int) ∧ q ≤ 1 := ⟨x / 7, by rw [Int.tdiv_eq_ediv_of_nonneg (by omega)]; omega, by omega⟩
  have hw1 : IntKind.i64.wrap (q : Int) = (q : Int) := IntWalk.i64_in _ (by omega)
  have hw2 : IntKind.i64.wrap (5 + (q : Int)) = 5 + (q : Int) := IntWalk.i64_in _ (by omega)
  have h50 : (0 : Int) ≤ 5 + (q : Int) := by omega
  have h57 : 5 + (q : Int) ≤ 6 := by omega
  have h5n : (5 + (q : Int)).toNat = 5 + q := by omega
  have hlq : (spL.take (5 + q)).length = 5 + q := by simp [spL]; omega
  have HLQ := Lib.hid hlq
  have HOF := Lib.hid (of_calls (w.heap.size + 1) _ (w1.heap.size + 1) 6 (spL.take (5 + q)) _ HD3.out.cur (by omega) (by rw [hlq]; omega) (by rw [hlq]; omega) (by have := HGT.out; omega) HS3.out (fun j t ht => HL3.out j t (by rw [List.getElem?_take] at ht; split at ht; exact ht; cases ht)))
  clear hlq
  go_wp2_with fail
  first | rw [h5n] | skip
  have hof := HOF.out
  rw [HLQ.out] at hof
  refine hof.mono ?_
  rintro e w5 ⟨sp, rfl, hsp, hc5, ho5⟩
  have HD5 := Lib.hid (HD3.out.move hc5 ho5)
  have hps := spL_size sp (List.mem_of_mem_take hsp)
  clear hof hc5 ho5 hsp hq1 hw1 hw2 h5n
  have cT := HD5.out.box.cell
  have cR := HD5.out.res.cell
  have fR := HD5.out.res.free
  have cTD : w5.drew.cell? ⟨w1.heap.size, 0, none⟩ = some (.slice Al l.length cl) := cT
  have HTX := Lib.hid (drawText_calls (w.heap.size + 1) _ w5.drew HD5.out.drew.cur (by omega))
  clear cR fR
  go_wp2
  first | refine wp_region_noPanic ?_ | skip
  refine wp_region_held_drew (S := fun w' => w'.cell? ⟨w1.heap.size, 0, none⟩ = some (.slice Al l.length cl)) (by kernel_rfl) (by first | exact cTD | exact cT9 | exact cTF | assumption) (fun hHeld => ?_)
  (refine wpAnyH_take (i := 0) (v := ?_) rfl (by kernel_rfl) (by kernel_rfl) (by kernel_rfl) (fun _ _ _ h => h) (Or.inl ⟨by rfl, ?_⟩) (by assumption) ?_; rotate_left; focus (intro w hSw; (try dsimp only at hSw); go_simp; try with_reducible rfl))
  (try simp only [List.getElem_toArray, List.getElem_cons_succ, List.getElem_cons_zero, Act.put, List.setIfInBounds_toArray, List.set_cons_zero, List.set_cons_succ])
  (refine wpAnyH_take (i := 1) (v := ?_) rfl (by kernel_rfl) (by kernel_rfl) (by kernel_rfl) (fun _ _ _ h => h) (Or.inl ⟨by rfl, ?_⟩) (by assumption) ?_; rotate_left; focus (intro w hSw; (try dsimp only at hSw); go_simp; try with_reducible rfl))
  (try simp only [List.getElem_toArray, List.getElem_cons_succ, List.getElem_cons_zero, Act.put, List.setIfInBounds_toArray, List.set_cons_zero, List.set_cons_succ])
  (refine wpAnyH_take (i := 2) (v := ?_) rfl (by kernel_rfl) (by kernel_rfl) (by kernel_rfl) (fun _ _ _ h => h) (Or.inl ⟨by rfl, ?_⟩) (by assumption) ?_; rotate_left; focus (intro w hSw; (try dsimp only at hSw); go_simp; try with_reducible rfl))
  (try simp only [List.getElem_toArray, List.getElem_cons_succ, List.getElem_cons_zero, Act.put, List.setIfInBounds_toArray, List.set_cons_zero, List.set_cons_succ])
  refine wpAnyH_ready (rs := [3]) (by kernel_rfl) (by simp) ?_
  refine AllReadyH.cons rfl (fun K hK => ?_) AllReadyH.nil
  go_simp
  (refine HTX.out.mono ?_); rintro e w9 ⟨tx, rfl, htx, hc9, ho9⟩; have D9 := HD5.out.drew.move hc9 ho9; have cT9 := D9.box.cell; have cR9 := D9.res.cell; have fR9 := D9.res.free; have cTF := (D9.box.setOther (a := ⟨w.heap.size, 0, none⟩) (by show w.heap.size ≠ w1.heap.size; have := D9.tb2; omega) (.slice Al l.length cl)).cell; have HD9 := Lib.hid D9; clear hc9 ho9 D9
  refine hK.out _ _ (by first | exact cTD | exact cT9 | exact cTF | assumption) (fun hHeld => ?_)
  clear hK K
  (try simp only [List.getElem_toArray, List.getElem_cons_succ, List.getElem_cons_zero, Act.put, List.setIfInBounds_toArray, List.set_cons_zero, List.set_cons_succ])
  refine wpAnyH_ready (rs := [4]) (by kernel_rfl) (by simp) ?_
  refine AllReadyH.cons rfl (fun K hK => ?_) AllReadyH.nil
  go_simp
  skip
  refine hK.out _ _ (by first | exact cTD | exact cT9 | exact cTF | assumption) (fun hHeld => ?_)
  clear hK K
  (try simp only [List.getElem_toArray, List.getElem_cons_succ, List.getElem_cons_zero, Act.put, List.setIfInBounds_toArray, List.set_cons_zero, List.set_cons_succ])
  (refine wpAnyH_take (i := 5) (v := ?_) rfl (by kernel_rfl) (by kernel_rfl) (by kernel_rfl) (fun _ _ _ h => h) (Or.inl ⟨by rfl, ?_⟩) (by assumption) ?_; rotate_left; focus (intro w hSw; (try dsimp only at hSw); go_simp; try with_reducible rfl))
  (try simp only [List.getElem_toArray, List.getElem_cons_succ, List.getElem_cons_zero, Act.put, List.setIfInBounds_toArray, List.set_cons_zero, List.set_cons_succ])
  (refine wpAnyH_take (i := 6) (v := ?_) rfl (by kernel_rfl) (by kernel_rfl) (by kernel_rfl) (fun _ _ _ h => h) (Or.inl ⟨by rfl, ?_⟩) (by assumption) ?_; rotate_left; focus (intro w hSw; (try dsimp only at hSw); go_simp; try with_reducible rfl))
  (try simp only [List.getElem_toArray, List.getElem_cons_succ, List.getElem_cons_zero, Act.put, List.setIfInBounds_toArray, List.set_cons_zero, List.set_cons_succ])
  refine wpAnyH_done (by kernel_rfl) ?_ _
  first | refine NoPanic.normal ?_ | skip
  clear hHeld cR9 fR9 cT9 cTF cT cTD
  go_wp2
  refine bodyPost_ret (v := .tuple #[.agg #[.slice Al l.length cl], .string sp, .string tx]) (by simp [results, go_sem, (HD9.out.res.set_ (.slice Al l.length cl)).cell]) rfl ?_
  exact ⟨_, l, sp, tx, rfl, HD9.out.ret.1, hl, HT.out, hps, htx, HD9.out.ret.2⟩
end Go.Proofs.YtnndkdkmhjpcpaaDoor
