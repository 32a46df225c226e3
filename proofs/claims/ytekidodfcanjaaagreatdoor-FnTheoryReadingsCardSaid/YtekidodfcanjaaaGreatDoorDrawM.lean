/-
  The reference's draws of a dictionary, strokes and a number.
-/
import Derived.Test.YtekidodfcanjaaaGreatDoorDrawL
namespace Go.Proofs.YtekidodfcanjaaaGreatDoor
open Go.RowKit
set_option linter.unusedVariables false
set_option linter.unusedSimpArgs false
set_option maxRecDepth 100000

/-- The drawn strokes, in a block of the draw's own. -/
def RowB (w : World) (lo : Nat) (A : Option Addr) (xs : List Int) : Prop := 0 < xs.length → ∃ b off, A = some ⟨b, off, none⟩ ∧ lo ≤ b ∧ b < w.heap.size ∧ ∀ j u, (ints xs)[j]? = some u → w.cell? ⟨b, off + j, none⟩ = some u
theorem RowB.reads {w : World} {lo : Nat} {A : Option Addr} {xs : List Int} (h : RowB w lo A xs) : Reads w w.heap.size 1 A xs.length (ints xs) := ⟨by simp [ints], fun hn => by
  obtain ⟨b, off, hA, -, hb, hc⟩ := h hn
  exact ⟨b, off, hA, hb, hc⟩⟩
theorem RowB.keep {w w' : World} {lo : Nat} {A : Option Addr} {xs : List Int} (h : RowB w lo A xs) (hs : w.heap.size ≤ w'.heap.size) (hk : ∀ p : Addr, lo ≤ p.block → p.block < w.heap.size → w'.cell? p = w.cell? p) : RowB w' lo A xs := fun hn => by
  obtain ⟨b, off, hA, hl, hb, hc⟩ := h hn
  exact ⟨b, off, hA, hl, by omega, fun j u hj => (hk ⟨b, off + j, none⟩ hl hb).trans (hc j u hj)⟩
structure ArS (w wr : World) (B p : Nat) (v : Value) (l : List EntD) (A : Option Addr) (xs : List Int) : Prop where
  res : Box wr w.heap.size 31 (.slice none 0 0)
  box : Box wr B 31 v
  bw : w.heap.size + 3 ≤ B
  dict : DictT wr (w.heap.size + 3) (w.heap.size + 3) v l
  row : RowB wr (w.heap.size + 3) A xs
  cur : Cur wr (w.heap.size + 2) p
  bel : Below w.heap.size w wr
section
variable {w wr w' : World} {B p q : Nat} {v : Value} {l : List EntD} {A : Option Addr} {xs : List Int}
theorem ArS.far (h : ArS w wr B p v l A xs) (hb : Below wr.heap.size wr w') : ArS w w' B p v l A xs := ⟨h.res.far hb, h.box.far hb, h.bw, h.dict.below hb, h.row.keep hb.size (fun p _ hp => hb.cell hp), h.cur.below (hb.mono (by have := h.cur.1; omega)), h.bel.trans (hb.mono h.bel.size)⟩
theorem ArS.drew (h : ArS w wr B p v l A xs) : ArS w wr.drew B p v l A xs := h.far (Below.refl wr.heap.size wr).drew
theorem ArS.alloc (h : ArS w wr B p v l A xs) (o : Obj) : ArS w (wr.alloc o) B p v l A xs := h.far ((Below.refl _ _).alloc (Nat.le_refl _) o)
theorem ArS.move (h : ArS w wr B p v l A xs) (hc : Cur w' (w.heap.size + 2) q) (ho : Only (w.heap.size + 2) (w.heap.size + 2 + 1) wr w') : ArS w w' B q v l A xs := by
  have hB := h.bw
  have hz := h.cur.1
  exact ⟨h.res.only ho (.inl (by omega)), h.box.only ho (.inr (by omega)), h.bw, h.dict.only ho (by omega) (by omega), h.row.keep ho.size (fun p h1 h2 => ho.cell h2 (.inr (by omega))), hc, h.bel.trans (ho.below (by omega) (by omega))⟩
theorem ArS.ret (h : ArS w wr B p v l A xs) (u : Value) : Box (wr.setCell ⟨w.heap.size, 0, none⟩ u) w.heap.size 31 u ∧ DictT (wr.setCell ⟨w.heap.size, 0, none⟩ u) (w.heap.size + 3) (w.heap.size + 3) v l ∧ RowB (wr.setCell ⟨w.heap.size, 0, none⟩ u) (w.heap.size + 3) A xs ∧ Below w.heap.size w (wr.setCell ⟨w.heap.size, 0, none⟩ u) ∧ (wr.setCell ⟨w.heap.size, 0, none⟩ u).cell? ⟨B, 0, none⟩ = some v :=
  ⟨h.res.set_ u, h.dict.setBox h.res u, h.row.keep (by simp [World.setCell]) (fun p h1 h2 => World.cell?_setCell_other _ _ _ _ (fun e => by have := congrArg Addr.block e; simp at this; omega)), h.bel.setCell (p := ⟨w.heap.size, 0, none⟩) (Nat.le_refl _) u, (h.box.setOther (a := ⟨w.heap.size, 0, none⟩) (show w.heap.size ≠ B by have := h.bw; omega) u).cell⟩
end
def DrewAR (w : World) (e : Ending) (w' : World) : Prop := ∃ (v : Value) (l : List EntD) (A : Option Addr) (c : Nat) (xs : List Int) (mo : Int), e = .returned (.tuple #[.agg #[v], .slice A xs.length c, .int .i64 mo]) ∧
  DictT w' w.heap.size w.heap.size v l ∧ EntsB 41 8 l ∧ Reads w' w'.heap.size 1 A xs.length (ints xs) ∧ xs.length ≤ 61 ∧ xs.length ≤ c ∧ c ≤ maxLen ∧ (-1 ≤ mo ∧ mo ≤ 51) ∧ Below w.heap.size w w'
def mosts : List Int := [1, 2, 5, 50, 0, 51, -1]
theorem mosts_size : ∀ t ∈ mosts, -1 ≤ t ∧ t ≤ 51 := by decide

set_option maxHeartbeats 8000000 in
theorem drawAllReadings_calls (A : Option Addr) (n cap : Nat) (zs : List Int) (w : World) (h : Ints .u8 w A n cap zs) : Calls Tryz.prog 31 #[.slice A n cap] w (DrewAR w) := by
  obtain ⟨W1, hW1⟩ : ∃ W1, W1 = w.alloc (.cells #[.slice none 0 0] 31) := ⟨_, rfl⟩
  have hs1 : W1.heap.size = w.heap.size + 1 := by rw [hW1]; simp
  have hb1 : Below w.heap.size w W1 := by rw [hW1]; exact (Below.refl _ _).alloc (Nat.le_refl _) _
  have HR := Lib.hid (show Box W1 w.heap.size 31 (.slice none 0 0) by rw [hW1]; exact Box.new w _ _)
  have HI := Lib.hid (show Ints .u8 W1 A n cap zs from ⟨(h.1.below hb1).more hb1.size, h.2⟩)
  have HB := Lib.hid hb1
  have HZ := Lib.hid hs1
  clear h hs1 hb1
  go_enter Tryz.func31, Tryz.ntmps31
  go_wp2_with fail
  rw [← hW1]
  clear hW1
  refine (l22DrawStrokes_calls A n cap zs _ HI.out).mono ?_
  rintro e w2 ⟨v, l, As, cs, xs, rfl, hd, he, hrs, hxl, hxc, hcm, hcu, hA, b2⟩
  obtain ⟨Al, cl, rfl, -, -, -⟩ := hd.slice
  have hz := HZ.out
  have HS := Lib.hid (show ArS w (w2.alloc (.cells #[.slice Al l.length cl] 31)) w2.heap.size 3000 (.slice Al l.length cl) l As xs from by
    have hz2 := b2.size
    have hg := hcu.1
    refine ⟨(HR.out.far b2).alloc _, Box.new w2 _ _, by omega, (hd.low (by omega) (by omega)).below ((Below.refl _ _).alloc (Nat.le_refl _) _), fun hn => ?_, by rw [show w.heap.size + 2 = W1.heap.size + 1 by omega]; exact hcu.alloc _, (HB.out.trans (b2.mono HB.out.size)).alloc (by omega) _⟩
    obtain ⟨b, off, hAb, hbl, hc⟩ := hrs.2 hn
    exact ⟨b, off, hAb, by have := hA b off hAb; omega, by simp; omega, fun j u hj => (World.cell?_alloc_lt _ _ _ (by show b < _; omega)).trans (hc j u hj)⟩)
  have HE := Lib.hid he
  rw [show W1.heap.size + 1 = w.heap.size + 2 by omega]
  clear hd he hrs hcu hA b2 hz HR HI HB HZ
  obtain ⟨W3, hW3⟩ : ∃ W3, W3 = w2.alloc (.cells #[.slice Al l.length cl] 31) := ⟨_, rfl⟩
  obtain ⟨B, hB⟩ : ∃ B, B = w2.heap.size := ⟨_, rfl⟩
  rw [← hW3, ← hB] at HS
  have cB := HS.out.box.cell
  have hBw := HS.out.bw
  go_upto_region 2 with fail
  rw [← hW3, ← hB]
  have HW3 := Lib.hid hW3
  have HBB := Lib.hid hB
  clear hW3 hB
  have cBD : W3.drew.cell? ⟨B, 0, none⟩ = some (.slice Al l.length cl) := cB
  have HP1 := Lib.hid (pick_calls (w.heap.size + 2) 3000 7 (W3.drew.alloc (.cells #[.int .i64 1, .int .i64 2, .int .i64 5, .int .i64 50, .int .i64 0, .int .i64 51, .int .i64 (-1)] 3)) (HS.out.drew.alloc _).cur (by omega) (by omega) (by omega))
  have HP2 := Lib.hid (pick_calls (w.heap.size + 2) 3000 7 W3.drew HS.out.drew.cur (by omega) (by omega) (by omega))
  first | refine wp_region_noPanic ?_ | skip
  refine wp_region_held_drew (S := fun w' => w'.cell? ⟨B, 0, none⟩ = some (.slice Al l.length cl)) (by kernel_rfl) (by exact cBD) (fun hHeld => ?_)
  (refine wpAnyH_take (i := 0) (v := ?_) rfl (by kernel_rfl) (by kernel_rfl) (by kernel_rfl) (fun _ _ _ h => h) (Or.inl ⟨by rfl, ?_⟩) (by assumption) ?_; rotate_left; focus (intro w hSw; (try dsimp only at hSw); go_simp; try with_reducible rfl))
  (try simp only [List.getElem_toArray, List.getElem_cons_succ, List.getElem_cons_zero, Act.put, List.setIfInBounds_toArray, List.set_cons_zero, List.set_cons_succ])
  (refine wpAnyH_take (i := 1) (v := ?_) rfl (by kernel_rfl) (by kernel_rfl) (by kernel_rfl) (fun _ _ _ h => h) (Or.inl ⟨by rfl, ?_⟩) (by assumption) ?_; rotate_left; focus (intro w hSw; (try dsimp only at hSw); go_simp; try with_reducible rfl))
  (try simp only [List.getElem_toArray, List.getElem_cons_succ, List.getElem_cons_zero, Act.put, List.setIfInBounds_toArray, List.set_cons_zero, List.set_cons_succ])
  (refine wpAnyH_take (i := 2) (v := ?_) rfl (by kernel_rfl) (by kernel_rfl) (by kernel_rfl) (fun _ _ _ h => h) (Or.inl ⟨by rfl, ?_⟩) (by assumption) ?_; rotate_left; focus (intro w hSw; (try dsimp only at hSw); go_simp; try with_reducible rfl))
  (try simp only [List.getElem_toArray, List.getElem_cons_succ, List.getElem_cons_zero, Act.put, List.setIfInBounds_toArray, List.set_cons_zero, List.set_cons_succ])
  (refine wpAnyH_take (i := 4) (v := ?_) rfl (by kernel_rfl) (by kernel_rfl) (by kernel_rfl) (fun _ _ _ h => h) (Or.inl ⟨by rfl, ?_⟩) (by assumption) ?_; rotate_left; focus (intro w hSw; (try dsimp only at hSw); go_simp; try with_reducible rfl))
  (try simp only [List.getElem_toArray, List.getElem_cons_succ, List.getElem_cons_zero, Act.put, List.setIfInBounds_toArray, List.set_cons_zero, List.set_cons_succ])
  refine wpAnyH_ready (rs := [3, 5]) (by kernel_rfl) (by simp) ?_
  refine AllReadyH.cons rfl (fun K hK => ?_) (AllReadyH.cons rfl (fun K hK => ?_) AllReadyH.nil)
  · go_simp
    refine hK.out _ _ ((HS.out.drew.alloc (.cells #[.int .i64 1, .int .i64 2, .int .i64 5, .int .i64 50, .int .i64 0, .int .i64 51, .int .i64 (-1)] 3)).box.cell) (fun hHeld => ?_)
    clear hK K
    (try simp only [List.getElem_toArray, List.getElem_cons_succ, List.getElem_cons_zero, Act.put, List.setIfInBounds_toArray, List.set_cons_zero, List.set_cons_succ])
    refine wpAnyH_ready (rs := [5]) (by kernel_rfl) (by simp) ?_
    refine AllReadyH.cons rfl (fun K hK => ?_) AllReadyH.nil
    go_simp
    refine HP1.out.mono ?_
    rintro e w5 ⟨x, rfl, hx, hc5, ho5⟩
    have HS5 := Lib.hid ((HS.out.drew.alloc (.cells #[.int .i64 1, .int .i64 2, .int .i64 5, .int .i64 50, .int .i64 0, .int .i64 51, .int .i64 (-1)] 3)).move hc5 ho5)
    have cB5 := HS5.out.box.cell
    have HCL := Lib.hid (show ∀ j t, mosts[j]? = some t → w5.cell? ⟨W3.heap.size, j, none⟩ = some (.int .i64 t) from fun j t ht => (ho5.cell (p := ⟨W3.heap.size, j, none⟩) (by simp) (.inr (by have := HS.out.cur.1; show w.heap.size + 2 + 1 ≤ W3.heap.size; omega))).trans (new_at (w := W3.drew) (xs := mosts.map (Value.int .i64)) (by simp [ht])))
    have hG5 : W3.heap.size < w5.heap.size := Nat.lt_of_lt_of_le (by simp) ho5.size
    have hGn := HS.out.cur.1
    clear hc5 ho5
    obtain ⟨q, hq⟩ : ∃ q, q = x / 2 := ⟨_, rfl⟩; have hq2 : q ≤ 3 := (by omega); have hq1 : Int.tdiv (x : Int) 2 = (q : Int) := (by rw [Int.tdiv_eq_ediv_of_nonneg (by omega)]; omega); have hw1 : IntKind.i64.wrap (q : Int) = (q : Int) := IntWalk.i64_in _ (by omega); have hw2 : IntKind.i64.wrap (4 + (q : Int)) = 4 + (q : Int) := IntWalk.i64_in _ (by omega); have h50 : (0 : Int) ≤ 4 + (q : Int) := (by omega); have h57 : 4 + (q : Int) ≤ 7 := (by omega); have h5n : (4 + (q : Int)).toNat = 4 + q := (by omega); clear hq
    refine hK.out _ _ (cB5) (fun hHeld => ?_)
    clear hK K
    (try simp only [List.getElem_toArray, List.getElem_cons_succ, List.getElem_cons_zero, Act.put, List.setIfInBounds_toArray, List.set_cons_zero, List.set_cons_succ])
    (refine wpAnyH_take (i := 6) (v := ?_) rfl (by kernel_rfl) (by kernel_rfl) (by kernel_rfl) (fun _ _ _ h => h) (Or.inl ⟨by rfl, ?_⟩) (by assumption) ?_; rotate_left; focus (intro w hSw; (try dsimp only at hSw); go_simp; try with_reducible rfl))
    (try simp only [List.getElem_toArray, List.getElem_cons_succ, List.getElem_cons_zero, Act.put, List.setIfInBounds_toArray, List.set_cons_zero, List.set_cons_succ])
    (refine wpAnyH_take (i := 7) (v := ?_) rfl (by kernel_rfl) (by kernel_rfl) (by kernel_rfl) (fun _ _ _ h => h) (Or.inl ⟨by rfl, ?_⟩) (by assumption) ?_; rotate_left; focus (intro w hSw; (try dsimp only at hSw); go_simp; try with_reducible rfl))
    (try simp only [List.getElem_toArray, List.getElem_cons_succ, List.getElem_cons_zero, Act.put, List.setIfInBounds_toArray, List.set_cons_zero, List.set_cons_succ])
    (refine wpAnyH_take (i := 8) (v := ?_) rfl (by kernel_rfl) (by kernel_rfl) (by kernel_rfl) (fun _ _ _ h => h) (Or.inl ⟨by rfl, ?_⟩) (by assumption) ?_; rotate_left; focus (intro w hSw; (try dsimp only at hSw); go_simp; try with_reducible rfl))
    (try simp only [List.getElem_toArray, List.getElem_cons_succ, List.getElem_cons_zero, Act.put, List.setIfInBounds_toArray, List.set_cons_zero, List.set_cons_succ])
    clear cB5
    refine wpAnyH_ready (rs := [9]) (by kernel_rfl) (by simp) ?_
    refine AllReadyH.cons rfl (fun K hK => ?_) AllReadyH.nil
    go_simp
    refine (among_calls (w.heap.size + 2) _ W3.heap.size (4 + q) _ mosts _ HS5.out.cur (by omega) (by omega) (by show 4 + q ≤ 7; omega) (by decide) (by omega) hG5 HCL.out).mono ?_
    rintro e w9 ⟨mo, rfl, hmo, hc9, ho9⟩
    have HS9 := Lib.hid (HS5.out.move hc9 ho9)
    have cB9 := HS9.out.box.cell
    have cR9 := HS9.out.res.cell
    have fR9 := HS9.out.res.free
    have HMO := Lib.hid (mosts_size mo hmo)
    clear hc9 ho9 hmo
    refine hK.out _ _ (cB9) (fun hHeld => ?_)
    clear hK K
    (try simp only [List.getElem_toArray, List.getElem_cons_succ, List.getElem_cons_zero, Act.put, List.setIfInBounds_toArray, List.set_cons_zero, List.set_cons_succ])
    refine wpAnyH_ready (rs := [10]) (by kernel_rfl) (by simp) ?_
    refine AllReadyH.cons rfl (fun K hK => ?_) AllReadyH.nil
    go_simp
    refine hK.out _ _ ((HS9.out.ret (.slice Al l.length cl)).2.2.2.2) (fun hHeld => ?_)
    clear hK K
    (try simp only [List.getElem_toArray, List.getElem_cons_succ, List.getElem_cons_zero, Act.put, List.setIfInBounds_toArray, List.set_cons_zero, List.set_cons_succ])
    (refine wpAnyH_take (i := 11) (v := ?_) rfl (by kernel_rfl) (by kernel_rfl) (by kernel_rfl) (fun _ _ _ h => h) (Or.inl ⟨by rfl, ?_⟩) (by assumption) ?_; rotate_left; focus (intro w hSw; (try dsimp only at hSw); go_simp; try with_reducible rfl))
    (try simp only [List.getElem_toArray, List.getElem_cons_succ, List.getElem_cons_zero, Act.put, List.setIfInBounds_toArray, List.set_cons_zero, List.set_cons_succ])
    (refine wpAnyH_take (i := 12) (v := ?_) rfl (by kernel_rfl) (by kernel_rfl) (by kernel_rfl) (fun _ _ _ h => h) (Or.inl ⟨by rfl, ?_⟩) (by assumption) ?_; rotate_left; focus (intro w hSw; (try dsimp only at hSw); go_simp; try with_reducible rfl))
    (try simp only [List.getElem_toArray, List.getElem_cons_succ, List.getElem_cons_zero, Act.put, List.setIfInBounds_toArray, List.set_cons_zero, List.set_cons_succ])
    refine wpAnyH_done (by kernel_rfl) ?_ _
    first | refine NoPanic.normal ?_ | skip
    clear hHeld cB9 cR9 fR9 hq1 hw1 hw2 h5n
    go_wp2
    refine bodyPost_ret (v := .tuple #[.agg #[.slice Al l.length cl], .slice As xs.length cs, .int .i64 mo]) (by simp [results, go_sem, (HS9.out.ret (.slice Al l.length cl)).1.cell]) rfl ?_
    have HF := HS9.out.ret (.slice Al l.length cl)
    exact ⟨_, l, As, cs, xs, mo, rfl, HF.2.1.low (by omega) (by omega), HE.out, HF.2.2.1.reads, hxl, hxc, hcm, HMO.out, HF.2.2.2.1⟩
  · go_simp
    refine HP2.out.mono ?_
    rintro e w5 ⟨x, rfl, hx, hc5, ho5⟩
    have HS5 := Lib.hid (HS.out.drew.move hc5 ho5)
    have cB5 := HS5.out.box.cell
    have hGn := HS5.out.cur.1
    clear hc5 ho5
    obtain ⟨q, hq⟩ : ∃ q, q = x / 2 := ⟨_, rfl⟩; have hq2 : q ≤ 3 := (by omega); have hq1 : Int.tdiv (x : Int) 2 = (q : Int) := (by rw [Int.tdiv_eq_ediv_of_nonneg (by omega)]; omega); have hw1 : IntKind.i64.wrap (q : Int) = (q : Int) := IntWalk.i64_in _ (by omega); have hw2 : IntKind.i64.wrap (4 + (q : Int)) = 4 + (q : Int) := IntWalk.i64_in _ (by omega); have h50 : (0 : Int) ≤ 4 + (q : Int) := (by omega); have h57 : 4 + (q : Int) ≤ 7 := (by omega); have h5n : (4 + (q : Int)).toNat = 4 + q := (by omega); clear hq
    refine hK.out _ _ (cB5) (fun hHeld => ?_)
    clear hK K
    (try simp only [List.getElem_toArray, List.getElem_cons_succ, List.getElem_cons_zero, Act.put, List.setIfInBounds_toArray, List.set_cons_zero, List.set_cons_succ])
    (refine wpAnyH_take (i := 6) (v := ?_) rfl (by kernel_rfl) (by kernel_rfl) (by kernel_rfl) (fun _ _ _ h => h) (Or.inl ⟨by rfl, ?_⟩) (by assumption) ?_; rotate_left; focus (intro w hSw; (try dsimp only at hSw); go_simp; try with_reducible rfl))
    (try simp only [List.getElem_toArray, List.getElem_cons_succ, List.getElem_cons_zero, Act.put, List.setIfInBounds_toArray, List.set_cons_zero, List.set_cons_succ])
    (refine wpAnyH_take (i := 7) (v := ?_) rfl (by kernel_rfl) (by kernel_rfl) (by kernel_rfl) (fun _ _ _ h => h) (Or.inl ⟨by rfl, ?_⟩) (by assumption) ?_; rotate_left; focus (intro w hSw; (try dsimp only at hSw); go_simp; try with_reducible rfl))
    (try simp only [List.getElem_toArray, List.getElem_cons_succ, List.getElem_cons_zero, Act.put, List.setIfInBounds_toArray, List.set_cons_zero, List.set_cons_succ])
    refine wpAnyH_ready (rs := [3]) (by kernel_rfl) (by simp) ?_
    refine AllReadyH.cons rfl (fun K hK => ?_) AllReadyH.nil
    go_simp
    have HS6 := Lib.hid (HS5.out.alloc (.cells #[.int .i64 1, .int .i64 2, .int .i64 5, .int .i64 50, .int .i64 0, .int .i64 51, .int .i64 (-1)] 3))
    have HCL := Lib.hid (show ∀ j t, mosts[j]? = some t → (w5.alloc (.cells #[.int .i64 1, .int .i64 2, .int .i64 5, .int .i64 50, .int .i64 0, .int .i64 51, .int .i64 (-1)] 3)).cell? ⟨w5.heap.size, j, none⟩ = some (.int .i64 t) from fun j t ht => new_at (w := w5) (xs := mosts.map (Value.int .i64)) (by simp [ht]))
    refine hK.out _ _ (HS6.out.box.cell) (fun hHeld => ?_)
    clear hK K
    (try simp only [List.getElem_toArray, List.getElem_cons_succ, List.getElem_cons_zero, Act.put, List.setIfInBounds_toArray, List.set_cons_zero, List.set_cons_succ])
    (refine wpAnyH_take (i := 8) (v := ?_) rfl (by kernel_rfl) (by kernel_rfl) (by kernel_rfl) (fun _ _ _ h => h) (Or.inl ⟨by rfl, ?_⟩) (by assumption) ?_; rotate_left; focus (intro w hSw; (try dsimp only at hSw); go_simp; try with_reducible rfl))
    (try simp only [List.getElem_toArray, List.getElem_cons_succ, List.getElem_cons_zero, Act.put, List.setIfInBounds_toArray, List.set_cons_zero, List.set_cons_succ])
    clear cB5
    refine wpAnyH_ready (rs := [9]) (by kernel_rfl) (by simp) ?_
    refine AllReadyH.cons rfl (fun K hK => ?_) AllReadyH.nil
    go_simp
    refine (among_calls (w.heap.size + 2) _ w5.heap.size (4 + q) _ mosts _ HS6.out.cur (by omega) (by omega) (by show 4 + q ≤ 7; omega) (by decide) (by omega) (by simp) HCL.out).mono ?_
    rintro e w9 ⟨mo, rfl, hmo, hc9, ho9⟩
    have HS9 := Lib.hid (HS6.out.move hc9 ho9)
    have cB9 := HS9.out.box.cell
    have cR9 := HS9.out.res.cell
    have fR9 := HS9.out.res.free
    have HMO := Lib.hid (mosts_size mo hmo)
    clear hc9 ho9 hmo
    refine hK.out _ _ (cB9) (fun hHeld => ?_)
    clear hK K
    (try simp only [List.getElem_toArray, List.getElem_cons_succ, List.getElem_cons_zero, Act.put, List.setIfInBounds_toArray, List.set_cons_zero, List.set_cons_succ])
    refine wpAnyH_ready (rs := [10]) (by kernel_rfl) (by simp) ?_
    refine AllReadyH.cons rfl (fun K hK => ?_) AllReadyH.nil
    go_simp
    refine hK.out _ _ ((HS9.out.ret (.slice Al l.length cl)).2.2.2.2) (fun hHeld => ?_)
    clear hK K
    (try simp only [List.getElem_toArray, List.getElem_cons_succ, List.getElem_cons_zero, Act.put, List.setIfInBounds_toArray, List.set_cons_zero, List.set_cons_succ])
    (refine wpAnyH_take (i := 11) (v := ?_) rfl (by kernel_rfl) (by kernel_rfl) (by kernel_rfl) (fun _ _ _ h => h) (Or.inl ⟨by rfl, ?_⟩) (by assumption) ?_; rotate_left; focus (intro w hSw; (try dsimp only at hSw); go_simp; try with_reducible rfl))
    (try simp only [List.getElem_toArray, List.getElem_cons_succ, List.getElem_cons_zero, Act.put, List.setIfInBounds_toArray, List.set_cons_zero, List.set_cons_succ])
    (refine wpAnyH_take (i := 12) (v := ?_) rfl (by kernel_rfl) (by kernel_rfl) (by kernel_rfl) (fun _ _ _ h => h) (Or.inl ⟨by rfl, ?_⟩) (by assumption) ?_; rotate_left; focus (intro w hSw; (try dsimp only at hSw); go_simp; try with_reducible rfl))
    (try simp only [List.getElem_toArray, List.getElem_cons_succ, List.getElem_cons_zero, Act.put, List.setIfInBounds_toArray, List.set_cons_zero, List.set_cons_succ])
    refine wpAnyH_done (by kernel_rfl) ?_ _
    first | refine NoPanic.normal ?_ | skip
    clear hHeld cB9 cR9 fR9 hq1 hw1 hw2 h5n
    go_wp2
    refine bodyPost_ret (v := .tuple #[.agg #[.slice Al l.length cl], .slice As xs.length cs, .int .i64 mo]) (by simp [results, go_sem, (HS9.out.ret (.slice Al l.length cl)).1.cell]) rfl ?_
    have HF := HS9.out.ret (.slice Al l.length cl)
    exact ⟨_, l, As, cs, xs, mo, rfl, HF.2.1.low (by omega) (by omega), HE.out, HF.2.2.1.reads, hxl, hxc, hcm, HMO.out, HF.2.2.2.1⟩
end Go.Proofs.YtekidodfcanjaaaGreatDoor
