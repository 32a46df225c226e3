/-
  The reference's draws of a transcript with a phrase, or with a word and a width.
-/
import Derived.Test.YtiiffdjpfjeeoaaDoorDrawTurn
import Derived.Test.YtiiffdjpfjeeoaaDoorConcFindPl
import Derived.Test.YtiiffdjpfjeeoaaDoorBase
namespace Go.Proofs.YtiiffdjpfjeeoaaDoor
open Go.RowKit
set_option linter.unusedVariables false
set_option linter.unusedSimpArgs false
set_option maxRecDepth 100000

theorem cur_newT {w : World} {A : Option Addr} {n cap : Nat} {zs : List Int} (h : Ints .u8 w A n cap zs) (ty : TypeId) : Cur (w.alloc (.cells #[.slice A n cap, .int .i64 0, .int .u64 0] ty)) w.heap.size 0 := by
  obtain ⟨h1, h2, h3, h4, h5⟩ := h
  refine ⟨by simp, fun j => World.frozen?_alloc_at _ _ _ _ rfl, A, n, cap, zs, 0, 0, by simp [World.cell?_alloc_at], by simp [World.cell?_alloc_at], by simp [World.cell?_alloc_at], Nat.le_refl _, Nat.le_trans h2 h3, h4, h1.alloc (Nat.le_refl _) _, fun z hz => ?_⟩
  have := h5 z hz
  simpa [Lit.wf, IntKind.min, IntKind.max, IntKind.signed, IntKind.bits] using this
def phL : List ByteArray := [⟨#[116, 104, 101, 32, 99, 111, 117, 114, 116]⟩, ⟨#[110, 111]⟩, ⟨#[84, 104, 101]⟩, ⟨#[99, 111, 117, 114, 116, 32, 119, 105, 108, 108]⟩, ⟨#[45, 45, 32, 116, 104, 101]⟩, ⟨#[]⟩, ⟨#[97, 32, 32, 98]⟩]
theorem phL_size : ∀ t ∈ phL, t.size ≤ 20 := by
  intro t ht
  simp only [phL, List.mem_cons, List.not_mem_nil, or_false] at ht
  rcases ht with rfl | rfl | rfl | rfl | rfl | rfl | rfl <;> decide
def wds : List Int := [0, 1, 2, 3, 10, 11, -1]
def DrewPhrase (w : World) (e : Ending) (w' : World) : Prop := ∃ (v : Value) (l : List TurnD) (ph : ByteArray), e = .returned (.tuple #[.agg #[v], .string ph]) ∧ Own w' w.heap.size w'.heap.size 80 2 v l.length (turnsV l) ∧ l.length ≤ 40 ∧ TameT l ∧ ph.size ≤ 20 ∧ Below w.heap.size w w'
def DrewWord (w : World) (e : Ending) (w' : World) : Prop := ∃ (v : Value) (l : List TurnD) (word : ByteArray) (wd : Int), e = .returned (.tuple #[.agg #[v], .string word, .int .i64 wd]) ∧ Own w' w.heap.size w'.heap.size 80 2 v l.length (turnsV l) ∧ l.length ≤ 40 ∧ TameT l ∧ word ∈ wdL ∧ Below w.heap.size w w'
/-- The state behind the drawn turns: result cell, track cell, row, cursor. -/
structure DrawnT (w wr : World) (tb p : Nat) (v : Value) (l : List TurnD) : Prop where
  res : Box wr w.heap.size 31 (.slice none 0 0)
  box : Box wr tb 31 v
  tb2 : w.heap.size + 2 ≤ tb
  own : wr.ownsRow (w.heap.size + 2) 80 2 v l.length (turnsV l)
  cur : Cur wr (w.heap.size + 1) p
  bel : Below w.heap.size w wr
theorem DrawnT.drew {w wr : World} {tb p : Nat} {v : Value} {l : List TurnD} (h : DrawnT w wr tb p v l) : DrawnT w wr.drew tb p v l := ⟨h.res, h.box, h.tb2, h.own, h.cur, h.bel.drew⟩
theorem DrawnT.alloc {w wr : World} {tb p : Nat} {v : Value} {l : List TurnD} (h : DrawnT w wr tb p v l) (o : Obj) : DrawnT w (wr.alloc o) tb p v l :=
  ⟨h.res.alloc o, h.box.alloc o, h.tb2, h.own.alloc o, h.cur.alloc o, h.bel.alloc h.bel.size o⟩
theorem DrawnT.move {w wr w' : World} {tb p q : Nat} {v : Value} {l : List TurnD} (h : DrawnT w wr tb p v l) (hc : Cur w' (w.heap.size + 1) q) (ho : Only (w.heap.size + 1) (w.heap.size + 1 + 1) wr w') : DrawnT w w' tb q v l := by
  have h1 := h.tb2
  have h2 := h.cur.1
  exact ⟨h.res.only ho (.inl (by omega)), h.box.only ho (.inr (by omega)), h1, ownsRow_only h.own ho (fun g' hg' => by have := (h.own.lt g' hg').1; omega), hc, h.bel.trans (ho.below (by omega) (by omega))⟩
theorem DrawnT.more {w wr : World} {tb p q : Nat} {v : Value} {l : List TurnD} (h : DrawnT w wr tb p v l) (hq : p ≤ q) : DrawnT w wr tb q v l := ⟨h.res, h.box, h.tb2, h.own, h.cur.more hq, h.bel⟩
theorem DrawnT.ret {w wr : World} {tb p : Nat} {v : Value} {l : List TurnD} (h : DrawnT w wr tb p v l) : Own (wr.setCell ⟨w.heap.size, 0, none⟩ v) w.heap.size (wr.setCell ⟨w.heap.size, 0, none⟩ v).heap.size 80 2 v l.length (turnsV l) ∧ Below w.heap.size w (wr.setCell ⟨w.heap.size, 0, none⟩ v) := by
  have hz : w.heap.size < wr.heap.size := h.res.lt
  have hb : Below w.heap.size wr (wr.setCell ⟨w.heap.size, 0, none⟩ v) := (Below.refl _ _).setCell (p := ⟨w.heap.size, 0, none⟩) (Nat.le_refl _) v
  exact ⟨Own.of_row ((ownsRow_only (lo' := w.heap.size) (hi' := w.heap.size + 1) h.own ((Only.refl wr).setCell (p := ⟨w.heap.size, 0, none⟩) (Nat.le_refl _) (by show w.heap.size < _; omega) v) (fun b hb' => .inr (by have := (h.own.lt b hb').1; omega))).base (by omega)), h.bel.trans hb⟩
/-- The state as the drawn turns leave it, the track in a fresh cell. -/
theorem drawnT_of {w W2 w1 : World} {v : Value} {l : List TurnD} (hz : W2.heap.size = w.heap.size + 2) (hr : Box W2 w.heap.size 31 (.slice none 0 0)) (hb : Below w.heap.size w W2)
    (own : Own w1 W2.heap.size w1.heap.size 80 2 v l.length (turnsV l)) (hc : Cur w1 (w.heap.size + 1) 200) (ho : Only (w.heap.size + 1) (w.heap.size + 1 + 1) W2 w1) : DrawnT w (w1.alloc (.cells #[v] 31)) w1.heap.size 200 v l := by
  have hs := ho.size
  have o1 := own.1
  rw [hz] at o1
  exact ⟨(hr.only ho (.inl (by omega))).alloc _, Box.new w1 _ _, by omega, o1.alloc _, hc.alloc _, (hb.trans (ho.below (by omega) (by omega))).alloc (by omega) _⟩

set_option maxHeartbeats 2000000 in
theorem drawFindPhrase_calls (A : Option Addr) (n cap : Nat) (zs : List Int) (w : World) (h : Ints .u8 w A n cap zs) : Calls Tryd.prog 23 #[.slice A n cap] w (DrewPhrase w) := by
  obtain ⟨W1, hW1⟩ : ∃ W1, W1 = w.alloc (.cells #[.slice none 0 0] 31) := ⟨_, rfl⟩
  have hs1 : W1.heap.size = w.heap.size + 1 := by rw [hW1]; simp
  have hb1 : Below w.heap.size w W1 := by rw [hW1]; exact (Below.refl _ _).alloc (Nat.le_refl _) _
  have hr1 : Box W1 w.heap.size 31 (.slice none 0 0) := by rw [hW1]; exact Box.new w _ _
  have hi1 : Ints .u8 W1 A n cap zs := ⟨(h.1.below hb1).more hb1.size, h.2⟩
  obtain ⟨W2, hW2⟩ : ∃ W2, W2 = W1.alloc (.cells #[.slice A n cap, .int .i64 0, .int .u64 0] 90) := ⟨_, rfl⟩
  have hs2 : W2.heap.size = w.heap.size + 2 := by rw [hW2]; simp [hs1]
  have hc2 : Cur W2 (w.heap.size + 1) 0 := by rw [hW2, ← hs1]; exact cur_newT hi1 _
  have hb2 : Below w.heap.size w W2 := by rw [hW2]; exact hb1.alloc hb1.size _
  have hr2 : Box W2 w.heap.size 31 (.slice none 0 0) := by rw [hW2]; exact hr1.alloc _
  have HC := Lib.hid hc2
  have HB := Lib.hid hb2
  have HR := Lib.hid hr2
  have HZ := Lib.hid hs2
  have HW : W2 = (w.alloc (.cells #[.slice none 0 0] 31)).alloc (.cells #[.slice A n cap, .int .i64 0, .int .u64 0] 90) := by rw [hW2, hW1]
  clear h hs1 hb1 hr1 hi1 hW2 hs2 hc2 hb2 hr2 hW1 W1
  go_enter Tryd.func23, Tryd.ntmps23
  go_wp2_with fail
  rw [← HW]
  clear HW
  refine (drawTurns_calls (w.heap.size + 1) 0 _ HC.out (by omega)).mono ?_
  rintro e w1 ⟨v, l, rfl, own1, hl, ht, hc1, ho1⟩
  obtain ⟨Al, cl, rfl, -, -, -⟩ := own1.slice
  have HD := Lib.hid (drawnT_of HZ.out HR.out HB.out own1 (hc1.more (by omega)) ho1)
  have HT := Lib.hid ht
  clear own1 ht hc1 ho1
  have hof := of_newT (w.heap.size + 1) 200 phL _ HD.out.cur (by omega) (by decide) (by decide)
  have hz1 : (w1.alloc (.cells #[.slice Al l.length cl] 31)).heap.size = w1.heap.size + 1 := by simp
  rw [hz1] at hof
  clear hz1
  have HOF := Lib.hid hof
  clear hof
  go_wp2_with fail
  refine HOF.out.mono ?_
  rintro e w3 ⟨ph, rfl, hph, hc3, ho3⟩
  have HD3 := Lib.hid (HD.out.move hc3 ho3)
  have hps := phL_size ph hph
  clear hc3 ho3 hph
  have cT := HD3.out.box.cell
  have cR := HD3.out.res.cell
  have fR := HD3.out.res.free
  go_wp2
  refine bodyPost_ret (v := .tuple #[.agg #[.slice Al l.length cl], .string ph]) (by simp [results, go_sem, (HD3.out.res.set_ (.slice Al l.length cl)).cell]) rfl ?_
  exact ⟨_, l, ph, rfl, HD3.out.ret.1, hl, HT.out, hps, HD3.out.ret.2⟩
set_option maxHeartbeats 1000000 in
theorem drawConcordance_calls (A : Option Addr) (n cap : Nat) (zs : List Int) (w : World) (h : Ints .u8 w A n cap zs) : Calls Tryd.prog 19 #[.slice A n cap] w (DrewWord w) := by
  obtain ⟨W1, hW1⟩ : ∃ W1, W1 = w.alloc (.cells #[.slice none 0 0] 31) := ⟨_, rfl⟩
  have hs1 : W1.heap.size = w.heap.size + 1 := by rw [hW1]; simp
  have hb1 : Below w.heap.size w W1 := by rw [hW1]; exact (Below.refl _ _).alloc (Nat.le_refl _) _
  have hr1 : Box W1 w.heap.size 31 (.slice none 0 0) := by rw [hW1]; exact Box.new w _ _
  have hi1 : Ints .u8 W1 A n cap zs := ⟨(h.1.below hb1).more hb1.size, h.2⟩
  obtain ⟨W2, hW2⟩ : ∃ W2, W2 = W1.alloc (.cells #[.slice A n cap, .int .i64 0, .int .u64 0] 90) := ⟨_, rfl⟩
  have hs2 : W2.heap.size = w.heap.size + 2 := by rw [hW2]; simp [hs1]
  have hc2 : Cur W2 (w.heap.size + 1) 0 := by rw [hW2, ← hs1]; exact cur_newT hi1 _
  have hb2 : Below w.heap.size w W2 := by rw [hW2]; exact hb1.alloc hb1.size _
  have hr2 : Box W2 w.heap.size 31 (.slice none 0 0) := by rw [hW2]; exact hr1.alloc _
  have HC := Lib.hid hc2
  have HB := Lib.hid hb2
  have HR := Lib.hid hr2
  have HZ := Lib.hid hs2
  have HW : W2 = (w.alloc (.cells #[.slice none 0 0] 31)).alloc (.cells #[.slice A n cap, .int .i64 0, .int .u64 0] 90) := by rw [hW2, hW1]
  clear h hs1 hb1 hr1 hi1 hW2 hs2 hc2 hb2 hr2 hW1 W1
  go_enter Tryd.func19, Tryd.ntmps19
  go_wp2_with fail
  rw [← HW]
  clear HW
  refine (drawTurns_calls (w.heap.size + 1) 0 _ HC.out (by omega)).mono ?_
  rintro e w1 ⟨v, l, rfl, own1, hl, ht, hc1, ho1⟩
  obtain ⟨Al, cl, rfl, -, -, -⟩ := own1.slice
  have HD := Lib.hid (drawnT_of HZ.out HR.out HB.out own1 (hc1.more (by omega)) ho1)
  have HT := Lib.hid ht
  clear own1 ht hc1 ho1
  have hof := of_newT (w.heap.size + 1) 200 wdL _ HD.out.cur (by omega) (by decide) (by decide)
  have hz1 : (w1.alloc (.cells #[.slice Al l.length cl] 31)).heap.size = w1.heap.size + 1 := by simp
  rw [hz1] at hof
  clear hz1
  have HOF := Lib.hid hof
  clear hof
  go_wp2_with fail
  refine HOF.out.mono ?_
  rintro e w3 ⟨word, rfl, hph, hc3, ho3⟩
  have HD3 := Lib.hid (HD.out.move hc3 ho3)
  have HPH := Lib.hid hph
  clear hc3 ho3 hph
  have cT := HD3.out.box.cell
  have HGN := Lib.hid (show w.heap.size + 1 + 1 ≤ w3.heap.size from HD3.out.cur.1)
  have HPK := Lib.hid (pick_calls (w.heap.size + 1) 202 9 (w3.drew.alloc (.cells #[.int .i64 0, .int .i64 1, .int .i64 2, .int .i64 3, .int .i64 10, .int .i64 11, .int .i64 (-1)] 3)) (HD3.out.drew.alloc _).cur (by omega) (by omega) (by omega))
  have HPD := Lib.hid (pick_calls (w.heap.size + 1) 202 9 w3.drew HD3.out.drew.cur (by omega) (by omega) (by omega))
  go_wp2
  first | refine wp_region_noPanic ?_ | skip
  refine wp_region_held_drew (S := fun w' => w'.cell? ⟨w1.heap.size, 0, none⟩ = some (.slice Al l.length cl)) (by kernel_rfl) (by exact cT) (fun hHeld => ?_)
  (refine wpAnyH_take (i := 0) (v := ?_) rfl (by kernel_rfl) (by kernel_rfl) (by kernel_rfl) (fun _ _ _ h => h) (Or.inl ⟨by rfl, ?_⟩) (by assumption) ?_; rotate_left; focus (intro w hSw; (try dsimp only at hSw); go_simp; try with_reducible rfl))
  (try simp only [List.getElem_toArray, List.getElem_cons_succ, List.getElem_cons_zero, Act.put, List.setIfInBounds_toArray, List.set_cons_zero, List.set_cons_succ])
  (refine wpAnyH_take (i := 1) (v := ?_) rfl (by kernel_rfl) (by kernel_rfl) (by kernel_rfl) (fun _ _ _ h => h) (Or.inl ⟨by rfl, ?_⟩) (by assumption) ?_; rotate_left; focus (intro w hSw; (try dsimp only at hSw); go_simp; try with_reducible rfl))
  (try simp only [List.getElem_toArray, List.getElem_cons_succ, List.getElem_cons_zero, Act.put, List.setIfInBounds_toArray, List.set_cons_zero, List.set_cons_succ])
  (refine wpAnyH_take (i := 2) (v := ?_) rfl (by kernel_rfl) (by kernel_rfl) (by kernel_rfl) (fun _ _ _ h => h) (Or.inl ⟨by rfl, ?_⟩) (by assumption) ?_; rotate_left; focus (intro w hSw; (try dsimp only at hSw); go_simp; try with_reducible rfl))
  (try simp only [List.getElem_toArray, List.getElem_cons_succ, List.getElem_cons_zero, Act.put, List.setIfInBounds_toArray, List.set_cons_zero, List.set_cons_succ])
  (refine wpAnyH_take (i := 4) (v := ?_) rfl (by kernel_rfl) (by kernel_rfl) (by kernel_rfl) (fun _ _ _ h => h) (Or.inl ⟨by rfl, ?_⟩) (by assumption) ?_; rotate_left; focus (intro w hSw; (try dsimp only at hSw); go_simp; try with_reducible rfl))
  (try simp only [List.getElem_toArray, List.getElem_cons_succ, List.getElem_cons_zero, Act.put, List.setIfInBounds_toArray, List.set_cons_zero, List.set_cons_succ])
  clear cT
  refine wpAnyH_ready (rs := [3, 5]) (by kernel_rfl) (by simp) ?_
  refine AllReadyH.cons rfl (fun K hK => ?_) (AllReadyH.cons rfl (fun K hK => ?_) AllReadyH.nil)
  · go_simp
    refine hK.out _ _ ((HD3.out.drew.alloc _).box.cell) (fun hHeld => ?_)
    clear hK K
    (try simp only [List.getElem_toArray, List.getElem_cons_succ, List.getElem_cons_zero, Act.put, List.setIfInBounds_toArray, List.set_cons_zero, List.set_cons_succ])
    refine wpAnyH_ready (rs := [5]) (by kernel_rfl) (by simp) ?_
    refine AllReadyH.cons rfl (fun K hK => ?_) AllReadyH.nil
    go_simp
    (refine HPK.out.mono ?_); rintro e w5 ⟨x, rfl, hx, hcu5, ho5⟩; have HD5 := Lib.hid ((HD3.out.drew.alloc (.cells #[.int .i64 0, .int .i64 1, .int .i64 2, .int .i64 3, .int .i64 10, .int .i64 11, .int .i64 (-1)] 3)).move hcu5 ho5); have HCL := Lib.hid (show ∀ j t, wds[j]? = some t → w5.cell? ⟨w3.heap.size, j, none⟩ = some (.int .i64 t) from fun j t ht => (ho5.cell (p := ⟨w3.heap.size, j, none⟩) (by simp) (.inr HGN.out)).trans (new_atT (w := w3.drew) (xs := wds.map (Value.int .i64)) (by simp [ht]))); have HSZ := Lib.hid (show w3.heap.size < w5.heap.size from Nat.lt_of_lt_of_le (by simp) ho5.size); clear hcu5 ho5; obtain ⟨q, hq⟩ : ∃ q, q = x / 4 := ⟨_, rfl⟩; have hq2 : q ≤ 2 := (by omega); have hq1 : Int.tdiv (x : Int) 4 = (q : Int) := (by rw [Int.tdiv_eq_ediv_of_nonneg (by omega)]; omega); have hw1 : IntKind.i64.wrap (q : Int) = (q : Int) := IntWalk.i64_in _ (by omega); have hw2 : IntKind.i64.wrap (5 + (q : Int)) = 5 + (q : Int) := IntWalk.i64_in _ (by omega); have h50 : (0 : Int) ≤ 5 + (q : Int) := (by omega); have h57 : 5 + (q : Int) ≤ 7 := (by omega); have h5n : (5 + (q : Int)).toNat = 5 + q := (by omega); clear hq
    refine hK.out _ _ (HD5.out.box.cell) (fun hHeld => ?_)
    clear hK K
    (try simp only [List.getElem_toArray, List.getElem_cons_succ, List.getElem_cons_zero, Act.put, List.setIfInBounds_toArray, List.set_cons_zero, List.set_cons_succ])
    (refine wpAnyH_take (i := 6) (v := ?_) rfl (by kernel_rfl) (by kernel_rfl) (by kernel_rfl) (fun _ _ _ h => h) (Or.inl ⟨by rfl, ?_⟩) (by assumption) ?_; rotate_left; focus (intro w hSw; (try dsimp only at hSw); go_simp; try with_reducible rfl))
    (try simp only [List.getElem_toArray, List.getElem_cons_succ, List.getElem_cons_zero, Act.put, List.setIfInBounds_toArray, List.set_cons_zero, List.set_cons_succ])
    (refine wpAnyH_take (i := 7) (v := ?_) rfl (by kernel_rfl) (by kernel_rfl) (by kernel_rfl) (fun _ _ _ h => h) (Or.inl ⟨by rfl, ?_⟩) (by assumption) ?_; rotate_left; focus (intro w hSw; (try dsimp only at hSw); go_simp; try with_reducible rfl))
    (try simp only [List.getElem_toArray, List.getElem_cons_succ, List.getElem_cons_zero, Act.put, List.setIfInBounds_toArray, List.set_cons_zero, List.set_cons_succ])
    (refine wpAnyH_take (i := 8) (v := ?_) rfl (by kernel_rfl) (by kernel_rfl) (by kernel_rfl) (fun _ _ _ h => h) (Or.inl ⟨by rfl, ?_⟩) (by assumption) ?_; rotate_left; focus (intro w hSw; (try dsimp only at hSw); go_simp; try with_reducible rfl))
    (try simp only [List.getElem_toArray, List.getElem_cons_succ, List.getElem_cons_zero, Act.put, List.setIfInBounds_toArray, List.set_cons_zero, List.set_cons_succ])
    refine wpAnyH_ready (rs := [9]) (by kernel_rfl) (by simp) ?_
    refine AllReadyH.cons rfl (fun K hK => ?_) AllReadyH.nil
    go_simp
    (refine (among_calls (w.heap.size + 1) _ w3.heap.size (5 + q) _ wds _ HD5.out.cur (by omega) (by omega) (by show 5 + q ≤ 7; omega) (by decide) (by have := HGN.out; show w3.heap.size ≠ _; omega) HSZ.out HCL.out).mono ?_); rintro e w9 ⟨wd, rfl, hwd, hcu9, ho9⟩; have D9 := HD5.out.move hcu9 ho9; have cR9 := D9.res.cell; have fR9 := D9.res.free; have HD9 := Lib.hid D9; clear hcu9 ho9 D9 hwd
    refine hK.out _ _ (HD9.out.box.cell) (fun hHeld => ?_)
    clear hK K
    (try simp only [List.getElem_toArray, List.getElem_cons_succ, List.getElem_cons_zero, Act.put, List.setIfInBounds_toArray, List.set_cons_zero, List.set_cons_succ])
    refine wpAnyH_ready (rs := [10]) (by kernel_rfl) (by simp) ?_
    refine AllReadyH.cons rfl (fun K hK => ?_) AllReadyH.nil
    go_simp
    refine hK.out _ _ ((HD9.out.box.setOther (a := ⟨w.heap.size, 0, none⟩) (by show w.heap.size ≠ w1.heap.size; have := HD9.out.tb2; omega) _).cell) (fun hHeld => ?_)
    clear hK K
    (try simp only [List.getElem_toArray, List.getElem_cons_succ, List.getElem_cons_zero, Act.put, List.setIfInBounds_toArray, List.set_cons_zero, List.set_cons_succ])
    (refine wpAnyH_take (i := 11) (v := ?_) rfl (by kernel_rfl) (by kernel_rfl) (by kernel_rfl) (fun _ _ _ h => h) (Or.inl ⟨by rfl, ?_⟩) (by assumption) ?_; rotate_left; focus (intro w hSw; (try dsimp only at hSw); go_simp; try with_reducible rfl))
    (try simp only [List.getElem_toArray, List.getElem_cons_succ, List.getElem_cons_zero, Act.put, List.setIfInBounds_toArray, List.set_cons_zero, List.set_cons_succ])
    (refine wpAnyH_take (i := 12) (v := ?_) rfl (by kernel_rfl) (by kernel_rfl) (by kernel_rfl) (fun _ _ _ h => h) (Or.inl ⟨by rfl, ?_⟩) (by assumption) ?_; rotate_left; focus (intro w hSw; (try dsimp only at hSw); go_simp; try with_reducible rfl))
    (try simp only [List.getElem_toArray, List.getElem_cons_succ, List.getElem_cons_zero, Act.put, List.setIfInBounds_toArray, List.set_cons_zero, List.set_cons_succ])
    refine wpAnyH_done (by kernel_rfl) ?_ _
    first | refine NoPanic.normal ?_ | skip
    clear hHeld cR9 fR9 hq1 hw1 hw2 h5n
    go_wp2
    refine bodyPost_ret (v := .tuple #[.agg #[.slice Al l.length cl], .string word, .int .i64 wd]) (by simp [results, go_sem, (HD9.out.res.set_ (.slice Al l.length cl)).cell]) rfl ?_
    exact ⟨_, l, word, wd, rfl, HD9.out.ret.1, hl, HT.out, HPH.out, HD9.out.ret.2⟩
  · go_simp
    (refine HPD.out.mono ?_); rintro e w5 ⟨x, rfl, hx, hcu5, ho5⟩; have HD5 := Lib.hid (HD3.out.drew.move hcu5 ho5); clear hcu5 ho5; have HGN5 := Lib.hid (show w.heap.size + 1 + 1 ≤ w5.heap.size from HD5.out.cur.1); obtain ⟨q, hq⟩ : ∃ q, q = x / 4 := ⟨_, rfl⟩; have hq2 : q ≤ 2 := (by omega); have hq1 : Int.tdiv (x : Int) 4 = (q : Int) := (by rw [Int.tdiv_eq_ediv_of_nonneg (by omega)]; omega); have hw1 : IntKind.i64.wrap (q : Int) = (q : Int) := IntWalk.i64_in _ (by omega); have hw2 : IntKind.i64.wrap (5 + (q : Int)) = 5 + (q : Int) := IntWalk.i64_in _ (by omega); have h50 : (0 : Int) ≤ 5 + (q : Int) := (by omega); have h57 : 5 + (q : Int) ≤ 7 := (by omega); have h5n : (5 + (q : Int)).toNat = 5 + q := (by omega); clear hq
    refine hK.out _ _ (HD5.out.box.cell) (fun hHeld => ?_)
    clear hK K
    (try simp only [List.getElem_toArray, List.getElem_cons_succ, List.getElem_cons_zero, Act.put, List.setIfInBounds_toArray, List.set_cons_zero, List.set_cons_succ])
    (refine wpAnyH_take (i := 6) (v := ?_) rfl (by kernel_rfl) (by kernel_rfl) (by kernel_rfl) (fun _ _ _ h => h) (Or.inl ⟨by rfl, ?_⟩) (by assumption) ?_; rotate_left; focus (intro w hSw; (try dsimp only at hSw); go_simp; try with_reducible rfl))
    (try simp only [List.getElem_toArray, List.getElem_cons_succ, List.getElem_cons_zero, Act.put, List.setIfInBounds_toArray, List.set_cons_zero, List.set_cons_succ])
    (refine wpAnyH_take (i := 7) (v := ?_) rfl (by kernel_rfl) (by kernel_rfl) (by kernel_rfl) (fun _ _ _ h => h) (Or.inl ⟨by rfl, ?_⟩) (by assumption) ?_; rotate_left; focus (intro w hSw; (try dsimp only at hSw); go_simp; try with_reducible rfl))
    (try simp only [List.getElem_toArray, List.getElem_cons_succ, List.getElem_cons_zero, Act.put, List.setIfInBounds_toArray, List.set_cons_zero, List.set_cons_succ])
    refine wpAnyH_ready (rs := [3]) (by kernel_rfl) (by simp) ?_
    refine AllReadyH.cons rfl (fun K hK => ?_) AllReadyH.nil
    go_simp
    have HD6 := Lib.hid (HD5.out.alloc (.cells #[.int .i64 0, .int .i64 1, .int .i64 2, .int .i64 3, .int .i64 10, .int .i64 11, .int .i64 (-1)] 3)); have HCL := Lib.hid (show ∀ j t, wds[j]? = some t → (w5.alloc (.cells #[.int .i64 0, .int .i64 1, .int .i64 2, .int .i64 3, .int .i64 10, .int .i64 11, .int .i64 (-1)] 3)).cell? ⟨w5.heap.size, j, none⟩ = some (.int .i64 t) from fun j t ht => new_atT (w := w5) (xs := wds.map (Value.int .i64)) (by simp [ht]))
    refine hK.out _ _ (HD6.out.box.cell) (fun hHeld => ?_)
    clear hK K
    (try simp only [List.getElem_toArray, List.getElem_cons_succ, List.getElem_cons_zero, Act.put, List.setIfInBounds_toArray, List.set_cons_zero, List.set_cons_succ])
    (refine wpAnyH_take (i := 8) (v := ?_) rfl (by kernel_rfl) (by kernel_rfl) (by kernel_rfl) (fun _ _ _ h => h) (Or.inl ⟨by rfl, ?_⟩) (by assumption) ?_; rotate_left; focus (intro w hSw; (try dsimp only at hSw); go_simp; try with_reducible rfl))
    (try simp only [List.getElem_toArray, List.getElem_cons_succ, List.getElem_cons_zero, Act.put, List.setIfInBounds_toArray, List.set_cons_zero, List.set_cons_succ])
    refine wpAnyH_ready (rs := [9]) (by kernel_rfl) (by simp) ?_
    refine AllReadyH.cons rfl (fun K hK => ?_) AllReadyH.nil
    go_simp
    (refine (among_calls (w.heap.size + 1) _ w5.heap.size (5 + q) _ wds _ HD6.out.cur (by omega) (by omega) (by show 5 + q ≤ 7; omega) (by decide) (by have := HGN5.out; show w5.heap.size ≠ _; omega) (by simp) HCL.out).mono ?_); rintro e w9 ⟨wd, rfl, hwd, hcu9, ho9⟩; have D9 := HD6.out.move hcu9 ho9; have cR9 := D9.res.cell; have fR9 := D9.res.free; have HD9 := Lib.hid D9; clear hcu9 ho9 D9 hwd
    refine hK.out _ _ (HD9.out.box.cell) (fun hHeld => ?_)
    clear hK K
    (try simp only [List.getElem_toArray, List.getElem_cons_succ, List.getElem_cons_zero, Act.put, List.setIfInBounds_toArray, List.set_cons_zero, List.set_cons_succ])
    refine wpAnyH_ready (rs := [10]) (by kernel_rfl) (by simp) ?_
    refine AllReadyH.cons rfl (fun K hK => ?_) AllReadyH.nil
    go_simp
    refine hK.out _ _ ((HD9.out.box.setOther (a := ⟨w.heap.size, 0, none⟩) (by show w.heap.size ≠ w1.heap.size; have := HD9.out.tb2; omega) _).cell) (fun hHeld => ?_)
    clear hK K
    (try simp only [List.getElem_toArray, List.getElem_cons_succ, List.getElem_cons_zero, Act.put, List.setIfInBounds_toArray, List.set_cons_zero, List.set_cons_succ])
    (refine wpAnyH_take (i := 11) (v := ?_) rfl (by kernel_rfl) (by kernel_rfl) (by kernel_rfl) (fun _ _ _ h => h) (Or.inl ⟨by rfl, ?_⟩) (by assumption) ?_; rotate_left; focus (intro w hSw; (try dsimp only at hSw); go_simp; try with_reducible rfl))
    (try simp only [List.getElem_toArray, List.getElem_cons_succ, List.getElem_cons_zero, Act.put, List.setIfInBounds_toArray, List.set_cons_zero, List.set_cons_succ])
    (refine wpAnyH_take (i := 12) (v := ?_) rfl (by kernel_rfl) (by kernel_rfl) (by kernel_rfl) (fun _ _ _ h => h) (Or.inl ⟨by rfl, ?_⟩) (by assumption) ?_; rotate_left; focus (intro w hSw; (try dsimp only at hSw); go_simp; try with_reducible rfl))
    (try simp only [List.getElem_toArray, List.getElem_cons_succ, List.getElem_cons_zero, Act.put, List.setIfInBounds_toArray, List.set_cons_zero, List.set_cons_succ])
    refine wpAnyH_done (by kernel_rfl) ?_ _
    first | refine NoPanic.normal ?_ | skip
    clear hHeld cR9 fR9 hq1 hw1 hw2 h5n
    go_wp2
    refine bodyPost_ret (v := .tuple #[.agg #[.slice Al l.length cl], .string word, .int .i64 wd]) (by simp [results, go_sem, (HD9.out.res.set_ (.slice Al l.length cl)).cell]) rfl ?_
    exact ⟨_, l, word, wd, rfl, HD9.out.ret.1, hl, HT.out, HPH.out, HD9.out.ret.2⟩
end Go.Proofs.YtiiffdjpfjeeoaaDoor
