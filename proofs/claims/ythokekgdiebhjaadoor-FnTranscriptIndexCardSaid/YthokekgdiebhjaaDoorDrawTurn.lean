/-
  The reference's draw of a transcript.
-/
import Derived.Test.YthokekgdiebhjaaDoorDrawText
import Derived.Test.YthokekgdiebhjaaDoorTurns
import Derived.Test.YthokekgdiebhjaaDoorBase
namespace Go.Proofs.YthokekgdiebhjaaDoor
open Go.RowKit
set_option linter.unusedVariables false
set_option linter.unusedSimpArgs false
set_option maxRecDepth 100000

def TameT (l : List TurnD) : Prop := ∀ c ∈ l, c.1.size ≤ 100 ∧ c.2.size ≤ 100
theorem TameT.snoc {l : List TurnD} {c : TurnD} (h : TameT l) (h1 : c.1.size ≤ 100) (h2 : c.2.size ≤ 100) : TameT (l ++ [c]) := by
  intro d hd
  rcases List.mem_append.1 hd with hd | hd
  · exact h d hd
  · rw [List.mem_singleton] at hd
    subst hd
    exact ⟨h1, h2⟩
theorem TameT.set {l : List TurnD} {k : Nat} {c : TurnD} (h : TameT l) (h1 : c.1.size ≤ 100) (h2 : c.2.size ≤ 100) : TameT (l.set k c) := by
  intro d hd
  rcases List.mem_or_eq_of_mem_set hd with hd | rfl
  · exact h d hd
  · exact ⟨h1, h2⟩
def spk : List ByteArray := [⟨#[81]⟩, ⟨#[65]⟩, ⟨#[74, 85, 68, 71, 69]⟩]
theorem spk_size : ∀ t ∈ spk, t.size ≤ 10 := by
  intro t ht
  simp only [spk, List.mem_cons, List.not_mem_nil, or_false] at ht
  rcases ht with rfl | rfl | rfl <;> decide
def spk2 : List ByteArray := [⟨#[]⟩, ⟨#[113]⟩, ⟨#[65, 32, 66]⟩, ⟨#[65, 66, 67, 68, 69, 70, 71, 72, 73, 74, 75, 76]⟩, ⟨#[65, 66, 67, 68, 69, 70, 71, 72, 73, 74, 75, 76, 77]⟩]
theorem spk2_size : ∀ t ∈ spk2, t.size ≤ 20 := by
  intro t ht
  simp only [spk2, List.mem_cons, List.not_mem_nil, or_false] at ht
  rcases ht with rfl | rfl | rfl | rfl | rfl <;> decide
def DrewTurns (g m : Nat) (w : World) (e : Ending) (w' : World) : Prop :=
  ∃ (v : Value) (l : List TurnD), e = .returned (.agg #[v]) ∧ Own w' w.heap.size w'.heap.size 52 2 v l.length (turnsV l) ∧ l.length ≤ 40 ∧ TameT l ∧ Cur w' g m ∧ Only g (g + 1) w w'
/-- The state while turns are drawn: the track's cell, the row, the cursor, the frame. -/
structure Drawn (w wr : World) (g p : Nat) (v : Value) (l : List TurnD) : Prop where
  box : Box wr (w.heap.size + 1) 26 v
  res : Box wr w.heap.size 26 (.slice none 0 0)
  own : wr.ownsRow (w.heap.size + 2) 52 2 v l.length (turnsV l)
  cur : Cur wr g p
  only : Only g (g + 1) w wr
  tame : TameT l
theorem Drawn.move {w wr w' : World} {g p q : Nat} {v : Value} {l : List TurnD} (h : Drawn w wr g p v l) (hg : g < w.heap.size) (hc : Cur w' g q) (ho : Only g (g + 1) wr w') : Drawn w w' g q v l :=
  ⟨h.box.only ho (.inr (by omega)), h.res.only ho (.inr (by omega)), ownsRow_only h.own ho (fun g' hg' => by have := (h.own.lt g' hg').1; omega), hc, h.only.trans ho, h.tame⟩
theorem Drawn.drew {w wr : World} {g p : Nat} {v : Value} {l : List TurnD} (h : Drawn w wr g p v l) : Drawn w wr.drew g p v l := ⟨h.box, h.res, h.own, h.cur, h.only.drew, h.tame⟩
theorem Drawn.alloc {w wr : World} {g p : Nat} {v : Value} {l : List TurnD} (h : Drawn w wr g p v l) (o : Obj) : Drawn w (wr.alloc o) g p v l :=
  ⟨h.box.alloc o, h.res.alloc o, h.own.alloc o, h.cur.alloc o, only_allocT h.only o, h.tame⟩
theorem Drawn.more {w wr : World} {g p q : Nat} {v : Value} {l : List TurnD} (h : Drawn w wr g p v l) (hq : p ≤ q) : Drawn w wr g q v l := ⟨h.box, h.res, h.own, h.cur.more hq, h.only, h.tame⟩
theorem Drawn.lt {w wr : World} {g p : Nat} {v : Value} {l : List TurnD} (h : Drawn w wr g p v l) : w.heap.size + 2 ≤ wr.heap.size := h.box.lt
/-- The row has grown by a turn, and the cell holds it. -/
theorem Drawn.put {w wr w' : World} {g p : Nat} {v v' : Value} {l : List TurnD} {c : TurnD} (h : Drawn w wr g p v l) (hg : g < w.heap.size) (hown : w'.ownsRow (w.heap.size + 2) 52 2 v' (l.length + 1) (turnsV l ++ turnV c)) (hgr : wr.grownBy w' v.ownBlock)
    (h1 : c.1.size ≤ 100) (h2 : c.2.size ≤ 100) : Drawn w (w'.setCell ⟨w.heap.size + 1, 0, none⟩ v') g p v' (l ++ [c]) := by
  have hl : ∀ b, v.ownBlock = some b → w.heap.size + 2 ≤ b := fun b hb => (h.own.lt b hb).1
  have hb := h.box.grown hgr (fun e => by have := hl _ e; omega)
  have hr := h.res.grown hgr (fun e => by have := hl _ e; omega)
  have hbs : Below (w.heap.size + 1) w' (w'.setCell ⟨w.heap.size + 1, 0, none⟩ v') := (Below.refl _ _).setCell (p := ⟨w.heap.size + 1, 0, none⟩) (Nat.le_refl _) v'
  have hs : w.heap.size ≤ wr.heap.size := by have := h.lt; omega
  refine ⟨hb.set_ v', hr.below hbs (by omega), ?_, ?_, ?_, h.tame.snoc h1 h2⟩
  · rw [turnsV_snoc, List.length_append]
    refine ownsRow_only (lo' := w.heap.size + 1) (hi' := w.heap.size + 2) hown ((Only.refl w').setCell (p := ⟨w.heap.size + 1, 0, none⟩) (Nat.le_refl _) (by show w.heap.size + 1 < _; omega) v') (fun b hb' => .inr (hown.lt b hb').1)
  · have hc : Cur w' g p := h.cur.below ⟨hgr.os, hgr.tape, hgr.output, hgr.size, fun k hk => hgr.block k (by omega) (fun e => by have := hl _ e.symm; omega)⟩
    exact hc.below (hbs.mono (by omega))
  · have ho : Only g (g + 1) w w' := ⟨hgr.os.trans h.only.os, hgr.tape.trans h.only.tape, hgr.output.trans h.only.output, Nat.le_trans h.only.size hgr.size, fun k hk hd => (hgr.block k (by omega) (fun e => by have := hl _ e.symm; omega)).trans (h.only.block k hk hd)⟩
    exact ⟨hbs.os.trans ho.os, hbs.tape.trans ho.tape, hbs.output.trans ho.output, Nat.le_trans ho.size hbs.size, fun k hk hd => (hbs.block k (by omega)).trans (ho.block k hk hd)⟩

/-- The result is stored, and handed back. -/
theorem Drawn.done {w wr : World} {g p : Nat} {v : Value} {l : List TurnD} (h : Drawn w wr g p v l) (hg : g < w.heap.size) (hl : l.length ≤ 40) : DrewTurns g p w (.returned (.agg #[v])) (wr.setCell ⟨w.heap.size, 0, none⟩ v) := by
  have hb : Below w.heap.size wr (wr.setCell ⟨w.heap.size, 0, none⟩ v) := (Below.refl _ _).setCell (p := ⟨w.heap.size, 0, none⟩) (Nat.le_refl _) v
  have ho := h.only
  refine ⟨v, l, rfl, Own.of_row ((ownsRow_only (lo' := w.heap.size) (hi' := w.heap.size + 1) h.own ((Only.refl wr).setCell (p := ⟨w.heap.size, 0, none⟩) (Nat.le_refl _) (by show w.heap.size < _; omega) v) (fun b hb' => .inr (by have := (h.own.lt b hb').1; omega))).base (by omega)), hl, h.tame, h.cur.below (hb.mono (by omega)), ?_⟩
  exact ⟨hb.os.trans ho.os, hb.tape.trans ho.tape, hb.output.trans ho.output, Nat.le_trans ho.size hb.size, fun k hk hd => (hb.block k (by omega)).trans (ho.block k hk hd)⟩
/-- A cell of a turn is written. -/
theorem Drawn.cellSet {w wr : World} {g p b n cap j : Nat} {u : Value} {l l' : List TurnD} (h : Drawn w wr g p (.slice (some ⟨b, 0, none⟩) n cap) l) (hg : g < w.heap.size) (hn : n = l.length) (hl : l'.length = l.length) (hset : (turnsV l).set j u = turnsV l') (ht : TameT l') :
    Drawn w (wr.setCell ⟨b, j, none⟩ u) g p (.slice (some ⟨b, 0, none⟩) n cap) l' := by
  have hb2 : w.heap.size + 2 ≤ b := (h.own.lt b rfl).1
  have hb : Below (w.heap.size + 2) wr (wr.setCell ⟨b, j, none⟩ u) := (Below.refl _ _).setCell (p := ⟨b, j, none⟩) hb2 u
  have ho := h.only
  subst hn
  refine ⟨h.box.below hb (by omega), h.res.below hb (by omega), ?_, h.cur.below (hb.mono (by omega)), ⟨hb.os.trans ho.os, hb.tape.trans ho.tape, hb.output.trans ho.output, Nat.le_trans ho.size hb.size, fun k hk hd => (hb.block k (by omega)).trans (ho.block k hk hd)⟩, ht⟩
  have := ((Own.of_row h.own).set_ j u).1
  rw [hset] at this
  rw [hl]
  exact this
theorem set_sameT {α : Type} {xs : List α} {j : Nat} {u : α} (h : xs[j]? = some u) : xs.set j u = xs := by
  apply List.ext_getElem?
  intro i
  rw [List.getElem?_set]
  split
  · rename_i hij
    subst hij
    split
    · exact h.symm
    · rename_i hn
      rw [List.getElem?_eq_none (by omega)]
  · rfl
theorem turnsV_set0 {l : List TurnD} {k : Nat} {s t s' : ByteArray} (h : l[k]? = some (s, t)) : (turnsV l).set (k * 2) (.string s') = turnsV (l.set k (s', t)) := by
  have hk : k < l.length := (List.getElem?_eq_some_iff.1 h).1
  have h2 := (turnsV_at h).2
  rw [← turnsV_set hk]
  refine (set_sameT ?_).symm
  rw [List.getElem?_set_ne (by omega)]
  exact h2
theorem turnsV_set1 {l : List TurnD} {k : Nat} {s t t' : ByteArray} (h : l[k]? = some (s, t)) : (turnsV l).set (k * 2 + 1) (.string t') = turnsV (l.set k (s, t')) := by
  have hk : k < l.length := (List.getElem?_eq_some_iff.1 h).1
  have h1 := (turnsV_at h).1
  rw [← turnsV_set hk]
  rw [set_sameT h1]
/-- What a walk reads of a drawn turn. -/
theorem Drawn.cells {w wr : World} {g p b cap : Nat} {l : List TurnD} {k : Nat} {c : TurnD} (h : Drawn w wr g p (.slice (some ⟨b, 0, none⟩) l.length cap) l) (hk : l[k]? = some c) :
    wr.cell? ⟨b, k * 2, none⟩ = some (.string c.1) ∧ wr.cell? ⟨b, k * 2 + 1, none⟩ = some (.string c.2) ∧ (∀ j, wr.frozen? ⟨b, j, none⟩ = false) ∧ w.heap.size + 2 ≤ b := by
  have o := Own.of_row h.own
  obtain ⟨h1, h2⟩ := o.turn hk
  obtain ⟨g', c', hv, -, -, -, -, -, -, hf⟩ := o.open_ (by have := (List.getElem?_eq_some_iff.1 hk).1; omega)
  injection hv with ha _ _
  injection ha with ha
  injection ha with ha _ _
  subst ha
  exact ⟨h1, h2, hf, (h.own.lt b rfl).1⟩
def aText (k : Nat) : ByteArray := ⟨#[97]⟩ ++ ⟨((List.replicate k [(32 : UInt8), 97]).flatten).toArray⟩
def turnsLen : Option Value → Nat
  | some (.slice _ n _) => n
  | _ => 0

set_option maxHeartbeats 8000000 in
theorem drawTurns_calls (g m : Nat) (w : World) (h : Cur w g m) (hm : m ≤ 1000000) : Calls Tryd.prog 45 #[.pointer (some ⟨g, 0, none⟩)] w (DrewTurns g (m + 200) w) := by
  have hg : g < w.heap.size := h.1
  obtain ⟨W2, hW2⟩ : ∃ W2, W2 = (w.alloc (.cells #[.slice none 0 0] 26)).alloc (.cells #[.slice none 0 0] 26) := ⟨_, rfl⟩
  have hs2 : W2.heap.size = w.heap.size + 2 := by rw [hW2]; simp
  have D0 : Drawn w W2 g m (.slice none 0 0) [] := by
    rw [hW2]
    refine ⟨?_, (Box.new w _ _).alloc _, World.ownsRow_nil _ _ _ _, (h.alloc _).alloc _, only_allocT (only_allocT (Only.refl w) _) _, fun c hc => by simp at hc⟩
    have := Box.new (w.alloc (.cells #[.slice none 0 0] 26)) 26 (.slice none 0 0)
    simpa using this
  have HD0 := Lib.hid D0
  clear D0 hs2
  go_enter Tryd.func45, Tryd.ntmps45
  go_wp2_with fail
  rw [← hW2]
  clear hW2
  refine (pick_calls g m 5 _ HD0.out.cur (by omega) (by omega) (by omega)).mono ?_
  rintro e w1 ⟨x, rfl, hx, hc1, ho1⟩
  have HD1 := Lib.hid (HD0.out.move hg hc1 ho1)
  have hx5 : x < 5 := by omega
  clear hc1 ho1
  go_wp2
  go_loopw [4] (fun kv wr => ∃ (k : Nat) (v : Value) (l : List TurnD), kv = .int .i64 k ∧ k + l.length ≤ 4 ∧ Drawn w wr g (m + 2 + 20 * l.length) v l) (fun k _ => (intOf k).toNat)
  case atStart => exact ⟨x, _, [], rfl, by simp; omega, HD1.out⟩
  case round =>
    obtain ⟨k, v, l, rfl, hkl, hd⟩ := hrel
    have HD := Lib.hid hd
    have cT := hd.box.cell
    clear hd
    obtain ⟨Al, cl, rfl, -, -, -⟩ := (Own.of_row HD.out.own).slice
    rcases k with _ | k
    · have hl4 : l.length ≤ 4 := by omega
      go_wp2_with fail
      refine (one_calls g _ 20 _ HD.out.cur (by omega) (by omega) (by omega)).mono ?_
      rintro e w3 ⟨b1, rfl, hc3, ho3⟩
      have HD3 := Lib.hid (HD.out.move hg hc3 ho3)
      clear hc3 ho3 cT
      have cT := HD3.out.box.cell
      have cR := HD3.out.res.cell
      have fR := HD3.out.res.free
      by_cases hgo : b1 = true ∧ 0 < l.length
      case neg =>
        have hcase : b1 = false ∨ (b1 = true ∧ l.length = 0) := by
          cases b1
          · exact .inl rfl
          · exact .inr ⟨rfl, Nat.eq_zero_of_not_pos (fun h => hgo ⟨rfl, h⟩)⟩
        clear hgo
        rcases hcase with rfl | ⟨rfl, hl0⟩
        · go_wp2
          refine bodyPost_ret (v := .agg #[.slice Al l.length cl]) (by simp [results, go_sem, (HD3.out.res.set_ (.slice Al l.length cl)).cell]) rfl ?_
          exact (HD3.out.more (by omega)).done hg (by omega)
        · have j0 : ¬ (0 : Int) < (l.length : Int) := by omega
          have HL0 := Lib.hid hl0
          clear hl0
          go_wp2
          refine bodyPost_ret (v := .agg #[.slice Al l.length cl]) (by simp [results, go_sem, (HD3.out.res.set_ (.slice Al l.length cl)).cell]) rfl ?_
          exact (HD3.out.more (by omega)).done hg (by omega)
      obtain ⟨rfl, hl0⟩ := hgo
      have j0 : (0 : Int) < (l.length : Int) := by omega
      obtain ⟨gb, cb, hvb, hgb, -, -, hncb, -, -, -⟩ := (Own.of_row HD3.out.own).open_ hl0
      injection hvb with hA _ hC
      subst hA hC
      clear hkl
      go_wp2_with fail
      refine (pick_calls g _ 3 _ HD3.out.cur (by omega) (by omega) (by omega)).mono ?_
      rintro e w4 ⟨x3, rfl, hx3, hc4, ho4⟩
      have HD4 := Lib.hid (HD3.out.move hg hc4 ho4)
      clear hc4 ho4 cT cR fR
      have cT := HD4.out.box.cell
      have hx3' : x3 < 3 := by omega
      obtain ⟨⟨s0, t0⟩, hc0⟩ := some_at l hl0
      rcases (show x3 = 0 ∨ x3 = 1 ∨ x3 = 2 by omega) with rfl | rfl | rfl
      · clear j0
        have j0 : (0 : Int) < (l.length : Int) := by omega
        have HOF := Lib.hid (of_newT g (m + 2 + 20 * l.length + 2 + 2) spk2 w4.drew HD4.out.cur.drew (by omega) (by decide) (by decide))
        have hqf : ∀ (w6 : World) (t6 : ByteArray), Drawn w w6 g (m + 2 + 20 * l.length + 2 + 2 + 2) (.slice (some ⟨gb, 0, none⟩) l.length cl) l → t6.size ≤ 20 → Drawn w (w6.setCell ⟨gb, 0, none⟩ (.string t6)) g (m + 2 + 20 * l.length + 2 + 2 + 2) (.slice (some ⟨gb, 0, none⟩) l.length cl) (l.set 0 (t6, t0)) := fun w6 t6 hd hs =>
          hd.cellSet hg rfl (by simp) (turnsV_set0 (k := 0) hc0) (hd.tame.set (by show t6.size ≤ 100; omega) (hd.tame _ (List.mem_of_getElem? hc0)).2)
        have HQF := Lib.hid hqf
        have HC0 := Lib.hid hc0
        have cSA : (w4.drew.alloc (.cells (spk2.map Value.string).toArray 9)).cell? ⟨w.heap.size + 1, 0, none⟩ = some (.slice (some ⟨gb, 0, none⟩) l.length cl) := (HD4.out.drew.alloc _).box.cell
        clear hqf hc0
        go_wp2
        first | refine wp_region_noPanic ?_ | skip
        refine wp_region_held_drew (S := fun w' => w'.cell? ⟨w.heap.size + 1, 0, none⟩ = some (.slice (some ⟨gb, 0, none⟩) l.length cl)) (by kernel_rfl) (by first | exact cT | exact cSA | exact cS6 | exact cSF | assumption) (fun hHeld => ?_)
        (refine wpAnyH_take (i := 0) (v := ?_) rfl (by kernel_rfl) (by kernel_rfl) (by kernel_rfl) (fun _ _ _ h => h) (Or.inl ⟨by rfl, ?_⟩) (by assumption) ?_; rotate_left; focus (intro w hSw; (try dsimp only at hSw); go_simp; try with_reducible rfl))
        (try simp only [List.getElem_toArray, List.getElem_cons_succ, List.getElem_cons_zero, Act.put, List.setIfInBounds_toArray, List.set_cons_zero, List.set_cons_succ])
        (refine wpAnyH_take (i := 1) (v := ?_) rfl (by kernel_rfl) (by kernel_rfl) (by kernel_rfl) (fun _ _ _ h => h) (Or.inl ⟨by rfl, ?_⟩) (by assumption) ?_; rotate_left; focus (intro w hSw; (try dsimp only at hSw); go_simp; try with_reducible rfl))
        (try simp only [List.getElem_toArray, List.getElem_cons_succ, List.getElem_cons_zero, Act.put, List.setIfInBounds_toArray, List.set_cons_zero, List.set_cons_succ])
        (refine wpAnyH_take (i := 2) (v := ?_) rfl (by kernel_rfl) (by kernel_rfl) (by kernel_rfl) (fun _ _ _ h => h) (Or.inl ⟨by rfl, ?_⟩) (by assumption) ?_; rotate_left; focus (intro w hSw; (try dsimp only at hSw); go_simp; try with_reducible rfl))
        (try simp only [List.getElem_toArray, List.getElem_cons_succ, List.getElem_cons_zero, Act.put, List.setIfInBounds_toArray, List.set_cons_zero, List.set_cons_succ])
        refine wpAnyH_ready (rs := [3]) (by kernel_rfl) (by simp) ?_
        refine AllReadyH.cons rfl (fun K hK => ?_) AllReadyH.nil
        go_simp
        skip
        refine hK.out _ _ (by first | exact cT | exact cSA | exact cS6 | exact cSF | assumption) (fun hHeld => ?_)
        clear hK K
        (try simp only [List.getElem_toArray, List.getElem_cons_succ, List.getElem_cons_zero, Act.put, List.setIfInBounds_toArray, List.set_cons_zero, List.set_cons_succ])
        refine wpAnyH_ready (rs := [4]) (by kernel_rfl) (by simp) ?_
        refine AllReadyH.cons rfl (fun K hK => ?_) AllReadyH.nil
        go_simp
        (refine HOF.out.mono ?_); rintro e w6 ⟨t6, rfl, ht6, hcu6, ho6⟩; have D6 := HD4.out.drew.move hg hcu6 ho6; obtain ⟨c60, -, f6, -⟩ := D6.cells HC0.out; have f60 := f6 0; rw [Nat.zero_mul] at c60; clear f6; have cS6 := D6.box.cell; have DF := HQF.out w6 t6 D6 (spk2_size t6 ht6); have cSF := DF.box.cell; have HDF := Lib.hid DF; clear hcu6 ho6 ht6 D6 DF
        refine hK.out _ _ (by first | exact cT | exact cSA | exact cS6 | exact cSF | assumption) (fun hHeld => ?_)
        clear hK K
        (try simp only [List.getElem_toArray, List.getElem_cons_succ, List.getElem_cons_zero, Act.put, List.setIfInBounds_toArray, List.set_cons_zero, List.set_cons_succ])
        (refine wpAnyH_take (i := 5) (v := ?_) rfl (by kernel_rfl) (by kernel_rfl) (by kernel_rfl) (fun _ _ _ h => h) (Or.inl ⟨by rfl, ?_⟩) (by assumption) ?_; rotate_left; focus (intro w hSw; (try dsimp only at hSw); go_simp; try with_reducible rfl))
        (try simp only [List.getElem_toArray, List.getElem_cons_succ, List.getElem_cons_zero, Act.put, List.setIfInBounds_toArray, List.set_cons_zero, List.set_cons_succ])
        (refine wpAnyH_take (i := 6) (v := ?_) rfl (by kernel_rfl) (by kernel_rfl) (by kernel_rfl) (fun _ _ _ h => h) (Or.inl ⟨by rfl, ?_⟩) (by assumption) ?_; rotate_left; focus (intro w hSw; (try dsimp only at hSw); go_simp; try with_reducible rfl))
        (try simp only [List.getElem_toArray, List.getElem_cons_succ, List.getElem_cons_zero, Act.put, List.setIfInBounds_toArray, List.set_cons_zero, List.set_cons_succ])
        refine wpAnyH_ready (rs := [7]) (by kernel_rfl) (by simp) ?_
        refine AllReadyH.cons rfl (fun K hK => ?_) AllReadyH.nil
        go_simp
        skip
        refine hK.out _ _ (by first | exact cT | exact cSA | exact cS6 | exact cSF | assumption) (fun hHeld => ?_)
        clear hK K
        (try simp only [List.getElem_toArray, List.getElem_cons_succ, List.getElem_cons_zero, Act.put, List.setIfInBounds_toArray, List.set_cons_zero, List.set_cons_succ])
        refine wpAnyH_done (by kernel_rfl) ?_ _
        first | refine NoPanic.normal ?_ | skip
        clear hHeld cSA cS6 c60 f60 cT
        have cT := cSF
        have cR := HDF.out.res.cell
        have fR := HDF.out.res.free
        clear cSF
        go_wp2
        refine bodyPost_ret (v := .agg #[.slice (some ⟨gb, 0, none⟩) l.length cl]) (by simp [results, go_sem, (HDF.out.res.set_ (.slice (some ⟨gb, 0, none⟩) l.length cl)).cell]) rfl ?_
        exact (HDF.out.more (by omega)).done hg (by simp; omega)
      · clear j0 cT hncb
        go_wp2
        go_loopw [53] (fun _ wr => ∃ (v : Value) (l' : List TurnD), 0 < l'.length ∧ l'.length ≤ 31 ∧ Drawn w wr g (m + 90 + 2 * l'.length) v l') (fun _ wr => 40 - turnsLen (wr.cell? ⟨w.heap.size + 1, 0, none⟩))
        case atStart => exact ⟨_, l, hl0, by omega, HD4.out.more (by omega)⟩
        case round =>
          obtain ⟨v, l', hl1, hl31, hd⟩ := hrel
          have HD := Lib.hid hd
          clear hd hl0 hl4 hc0
          obtain ⟨gc, cc, rfl, -⟩ := (Own.of_row HD.out.own).open_ hl1
          have cT := HD.out.box.cell
          have cTd : wr.drew.cell? ⟨w.heap.size + 1, 0, none⟩ = some (.slice (some ⟨gc, 0, none⟩) l'.length cc) := cT
          obtain ⟨⟨s1, t1⟩, hc1⟩ := some_at l' hl1
          have HC1 := Lib.hid hc1
          clear hc1
          have HPK := Lib.hid (pick_calls g (m + 90 + 2 * l'.length) 2 wr.drew HD.out.cur.drew (by omega) (by omega) (by omega))
          go_wp2
          first | refine wp_region_noPanic ?_ | skip
          refine wp_region_held_drew (S := fun w' => w'.cell? ⟨w.heap.size + 1, 0, none⟩ = some (.slice (some ⟨gc, 0, none⟩) l'.length cc)) (by kernel_rfl) (by first | exact cT | exact cS9 | assumption) (fun hHeld => ?_)
          (refine wpAnyH_take (i := 0) (v := ?_) rfl (by kernel_rfl) (by kernel_rfl) (by kernel_rfl) (fun _ _ _ h => h) (Or.inl ⟨by rfl, ?_⟩) (by assumption) ?_; rotate_left; focus (intro w hSw; (try dsimp only at hSw); go_simp; try with_reducible rfl))
          (try simp only [List.getElem_toArray, List.getElem_cons_succ, List.getElem_cons_zero, Act.put, List.setIfInBounds_toArray, List.set_cons_zero, List.set_cons_succ])
          (refine wpAnyH_take (i := 1) (v := ?_) rfl (by kernel_rfl) (by kernel_rfl) (by kernel_rfl) (fun _ _ _ h => h) (Or.inl ⟨by rfl, ?_⟩) (by assumption) ?_; rotate_left; focus (intro w hSw; (try dsimp only at hSw); go_simp; try with_reducible rfl))
          (try simp only [List.getElem_toArray, List.getElem_cons_succ, List.getElem_cons_zero, Act.put, List.setIfInBounds_toArray, List.set_cons_zero, List.set_cons_succ])
          (refine wpAnyH_take (i := 2) (v := ?_) rfl (by kernel_rfl) (by kernel_rfl) (by kernel_rfl) (fun _ _ _ h => h) (Or.inl ⟨by rfl, ?_⟩) (by assumption) ?_; rotate_left; focus (intro w hSw; (try dsimp only at hSw); go_simp; try with_reducible rfl))
          (try simp only [List.getElem_toArray, List.getElem_cons_succ, List.getElem_cons_zero, Act.put, List.setIfInBounds_toArray, List.set_cons_zero, List.set_cons_succ])
          (refine wpAnyH_take (i := 3) (v := ?_) rfl (by kernel_rfl) (by kernel_rfl) (by kernel_rfl) (fun _ _ _ h => h) (Or.inl ⟨by rfl, ?_⟩) (by assumption) ?_; rotate_left; focus (intro w hSw; (try dsimp only at hSw); go_simp; try with_reducible rfl))
          (try simp only [List.getElem_toArray, List.getElem_cons_succ, List.getElem_cons_zero, Act.put, List.setIfInBounds_toArray, List.set_cons_zero, List.set_cons_succ])
          refine wpAnyH_ready (rs := [4]) (by kernel_rfl) (by simp) ?_
          refine AllReadyH.cons rfl (fun K hK => ?_) AllReadyH.nil
          go_simp
          (refine HPK.out.mono ?_); rintro e w9 ⟨x2, rfl, hx2, hcu9, ho9⟩; have D9 := HD.out.drew.move hg hcu9 ho9; have hx22 : x2 < 2 := (by omega); have hwr : IntKind.i64.wrap (30 + (x2 : Int)) = 30 + (x2 : Int) := IntWalk.i64_in _ (by omega); have cS9 := D9.box.cell; have HD9 := Lib.hid D9; clear hcu9 ho9 D9 hx2
          refine hK.out _ _ (by first | exact cT | exact cS9 | assumption) (fun hHeld => ?_)
          clear hK K
          (try simp only [List.getElem_toArray, List.getElem_cons_succ, List.getElem_cons_zero, Act.put, List.setIfInBounds_toArray, List.set_cons_zero, List.set_cons_succ])
          (refine wpAnyH_take (i := 5) (v := ?_) rfl (by kernel_rfl) (by kernel_rfl) (by kernel_rfl) (fun _ _ _ h => h) (Or.inl ⟨by rfl, ?_⟩) (by assumption) ?_; rotate_left; focus (intro w hSw; (try dsimp only at hSw); go_simp; try with_reducible rfl))
          (try simp only [List.getElem_toArray, List.getElem_cons_succ, List.getElem_cons_zero, Act.put, List.setIfInBounds_toArray, List.set_cons_zero, List.set_cons_succ])
          (refine wpAnyH_take (i := 6) (v := ?_) rfl (by kernel_rfl) (by kernel_rfl) (by kernel_rfl) (fun _ _ _ h => h) (Or.inl ⟨by rfl, ?_⟩) (by assumption) ?_; rotate_left; focus (intro w hSw; (try dsimp only at hSw); go_simp; try with_reducible rfl))
          (try simp only [List.getElem_toArray, List.getElem_cons_succ, List.getElem_cons_zero, Act.put, List.setIfInBounds_toArray, List.set_cons_zero, List.set_cons_succ])
          refine wpAnyH_done (by kernel_rfl) ?_ _
          first | refine NoPanic.normal ?_ | skip
          clear hHeld cT cTd hwr
          have cT := cS9
          clear cS9
          by_cases hlt : (l'.length : Int) < 30 + (x2 : Int)
          · obtain ⟨c0, c1, f0, hgc⟩ := HD9.out.cells HC1.out
            rw [Nat.zero_mul] at c0
            rw [Nat.zero_mul, Nat.zero_add] at c1
            have fT := HD9.out.box.free
            have j1 : (0 : Int) < (l'.length : Int) := by omega
            have q1 : (l'.length + 1) * 32 ≤ 140737488355328 := by omega
            have q2 : l'.length + 1 ≤ maxLen := by unfold maxLen; omega
            have hs9 : w.heap.size + 2 ≤ (w9.alloc (.cells #[.string s1, .string t1] 52)).heap.size := by have := HD9.out.lt; simp; omega
            have cTA : (w9.alloc (.cells #[.string s1, .string t1] 52)).cell? ⟨w.heap.size + 1, 0, none⟩ = some (.slice (some ⟨gc, 0, none⟩) l'.length cc) := (HD9.out.alloc (.cells #[.string s1, .string t1] 52)).box.cell
            have cTA0 : (w9.alloc (.cells #[.string s1, .string t1] 52)).cell? ⟨gc, 0, none⟩ = some (.string s1) := by have := ((HD9.out.alloc (.cells #[.string s1, .string t1] 52)).cells HC1.out).1; rwa [Nat.zero_mul] at this
            have cTA1 : (w9.alloc (.cells #[.string s1, .string t1] 52)).cell? ⟨gc, 1, none⟩ = some (.string t1) := by have := ((HD9.out.alloc (.cells #[.string s1, .string t1] 52)).cells HC1.out).2.1; rwa [Nat.zero_mul, Nat.zero_add] at this
            clear f0
            go_wp2
            go_region_law (refine step_append_own (HD9.out.alloc (.cells #[.string s1, .string t1] 52)).drew.own (HD9.out.alloc (.cells #[.string s1, .string t1] 52)).drew.lt (.tmp 54) (.tmp 59) 24 Tryd.underlying24 info_turn q1 q2 (ys := [.string s1, .string t1]) (g := w9.heap.size) (fun j u hj => new_atT (w := w9) (xs := [.string s1, .string t1]) hj) (by simp [Value.oneCell']) ⟨rfl, rfl, rfl, rfl, rfl, rfl, by decide⟩ ?_; intro v8 w8 hown8 hg8 _; obtain ⟨A8, k8, rfl, -, -, -⟩ := (Own.of_row hown8).slice; have b8 := (HD9.out.alloc (.cells #[.string s1, .string t1] 52)).drew.box.grown hg8 (fun e => by have := (HD9.out.own.lt _ e).1; omega); have c8 := b8.cell; have f8 := b8.free; have DP := Lib.hid ((HD9.out.alloc (.cells #[.string s1, .string t1] 52)).drew.put (c := (s1, t1)) hg hown8 hg8 (HD.out.tame _ (List.mem_of_getElem? HC1.out)).1 (HD.out.tame _ (List.mem_of_getElem? HC1.out)).2); clear hown8 hg8 b8)
            all_goals
              clear c0 c1 hlt
              go_wp2
              go_roundw
              case rel => exact ⟨_, l' ++ [(s1, t1)], by simp, by rw [List.length_append]; simp; omega, DP.out.more (by rw [List.length_append]; simp; omega)⟩
              case measure => rw [DP.out.box.cell, HD.out.box.cell]; simp only [turnsLen]; omega
          · have cR := HD9.out.res.cell
            have fR := HD9.out.res.free
            go_wp2
            refine bodyPost_ret (v := .agg #[.slice (some ⟨gc, 0, none⟩) l'.length cc]) (by simp [results, go_sem, (HD9.out.res.set_ (.slice (some ⟨gc, 0, none⟩) l'.length cc)).cell]) rfl ?_
            exact (HD9.out.more (by omega)).done hg (by omega)
      · have fT := HD4.out.box.free
        go_wp2_with fail
        refine (pick_calls g _ 4 _ HD4.out.cur (by omega) (by omega) (by omega)).mono ?_
        rintro e w5 ⟨x4, rfl, hx4, hc5, ho5⟩
        have HD5 := Lib.hid (HD4.out.move hg hc5 ho5)
        clear hc5 ho5 cT fT
        have cT := HD5.out.box.cell
        have hx44 : x4 < 4 := by omega
        have hwr : IntKind.i64.wrap (38 + (x4 : Int)) = 38 + (x4 : Int) := IntWalk.i64_in _ (by omega)
        clear hx4
        go_wp2
        go_loopw [5, 6] (fun t i wr => ∃ (k : Nat) (x : ByteArray), i = .int .i64 k ∧ t = .string x ∧ x.size + 2 * k ≤ 85 ∧ wr = w5) (fun _ i _ => (intOf i).toNat)
        case atStart => exact ⟨38 + x4, ⟨#[97]⟩, by go_num, rfl, by show 1 + 2 * (38 + x4) ≤ 85; omega, rfl⟩
        case round =>
          obtain ⟨k, x, rfl, rfl, hkx, rfl⟩ := hrel
          rcases k with _ | k
          · have hwl : IntKind.i64.wrap ((l.length : Int) - 1) = (l.length : Int) - 1 := IntWalk.i64_in _ (by omega)
            have hl1 : l.length - 1 < l.length := by omega
            obtain ⟨⟨s1, t1⟩, hc1⟩ := some_at l hl1
            obtain ⟨c0, c1, f0, hgc⟩ := HD5.out.cells hc1
            have f1 := f0 ((l.length - 1) * 2 + 1)
            have i0 : (0 : Int) ≤ (l.length : Int) - 1 := by omega
            have i1 : (1 : Int) ≤ (l.length : Int) := by omega
            have i2 : (l.length : Int) - 1 < (l.length : Int) := by omega
            have i3 : ((l.length : Int) - 1).toNat = l.length - 1 := by omega
            have DF := HD5.out.cellSet (j := (l.length - 1) * 2 + 1) (u := .string x) hg rfl (by simp) (turnsV_set1 (t' := x) hc1) (HD5.out.tame.set (HD5.out.tame _ (List.mem_of_getElem? hc1)).1 (by show x.size ≤ 100; omega))
            have cF := DF.box.cell
            have rF := DF.res.cell
            have fF := DF.res.free
            have HDF := Lib.hid DF
            clear DF hc1 f0 c0 hgc
            go_wp2
            refine bodyPost_ret (v := .agg #[.slice (some ⟨gb, 0, none⟩) l.length cl]) (by simp [results, go_sem, (HDF.out.res.set_ (.slice (some ⟨gb, 0, none⟩) l.length cl)).cell]) rfl ?_
            exact (HDF.out.more (by omega)).done hg (by simp; omega)
          · have i0 : (0 : Int) < (k : Int) + 1 := by omega
            have hsz : (x ++ ⟨#[32, 97]⟩ : ByteArray).size = x.size + 2 := by simp [ByteArray.size_append]; rfl
            have hmx : x.size + 2 ≤ 4194304 := by omega
            go_wp2
            go_roundw
            case rel => exact ⟨k, x ++ ⟨#[32, 97]⟩, by go_num, rfl, by rw [hsz]; omega, by first | trivial | rfl⟩
            case measure => simp [intOf]
    · have i0 : (0 : Int) < (k : Int) + 1 := by omega
      have HOF := Lib.hid (of_newT g (m + 2 + 20 * l.length) spk wr.drew HD.out.cur.drew (by omega) (by decide) (by decide))
      have ms1 : (l.length + 1) * 32 ≤ 140737488355328 := by omega
      have ms2 : l.length + 1 ≤ maxLen := by unfold maxLen; omega
      go_wp2
      first | refine wp_region_noPanic ?_ | skip
      refine wp_region_held_drew (S := fun _ => True) (by kernel_rfl) (by trivial) (fun hHeld => ?_)
      (refine wpAnyH_take (i := 0) (v := ?_) rfl (by kernel_rfl) (by kernel_rfl) (by kernel_rfl) (fun _ _ _ h => h) (Or.inl ⟨by rfl, ?_⟩) (by assumption) ?_; rotate_left; focus (intro w hSw; (try dsimp only at hSw); go_simp; try with_reducible rfl))
      (try simp only [List.getElem_toArray, List.getElem_cons_succ, List.getElem_cons_zero, Act.put, List.setIfInBounds_toArray, List.set_cons_zero, List.set_cons_succ])
      (refine wpAnyH_take (i := 2) (v := ?_) rfl (by kernel_rfl) (by kernel_rfl) (by kernel_rfl) (fun _ _ _ h => h) (Or.inl ⟨by rfl, ?_⟩) (by assumption) ?_; rotate_left; focus (intro w hSw; (try dsimp only at hSw); go_simp; try with_reducible rfl))
      (try simp only [List.getElem_toArray, List.getElem_cons_succ, List.getElem_cons_zero, Act.put, List.setIfInBounds_toArray, List.set_cons_zero, List.set_cons_succ])
      (refine wpAnyH_take (i := 5) (v := ?_) rfl (by kernel_rfl) (by kernel_rfl) (by kernel_rfl) (fun _ _ _ h => h) (Or.inl ⟨by rfl, ?_⟩) (by assumption) ?_; rotate_left; focus (intro w hSw; (try dsimp only at hSw); go_simp; try with_reducible rfl))
      (try simp only [List.getElem_toArray, List.getElem_cons_succ, List.getElem_cons_zero, Act.put, List.setIfInBounds_toArray, List.set_cons_zero, List.set_cons_succ])
      have cL := HD.out.drew.box.cell
      refine wpAnyH_ready (rs := [1, 3]) (by kernel_rfl) (by simp) ?_
      refine AllReadyH.cons rfl (fun K hK => ?_) (AllReadyH.cons rfl (fun K hK => ?_) AllReadyH.nil)
      · go_simp
        skip
        refine hK.out _ _ (by trivial) (fun hHeld => ?_)
        clear hK K
        (try simp only [List.getElem_toArray, List.getElem_cons_succ, List.getElem_cons_zero, Act.put, List.setIfInBounds_toArray, List.set_cons_zero, List.set_cons_succ])
        clear cL
        refine wpAnyH_ready (rs := [3]) (by kernel_rfl) (by simp) ?_
        refine AllReadyH.cons rfl (fun K hK => ?_) AllReadyH.nil
        go_simp
        skip
        refine hK.out _ _ (by trivial) (fun hHeld => ?_)
        clear hK K
        (try simp only [List.getElem_toArray, List.getElem_cons_succ, List.getElem_cons_zero, Act.put, List.setIfInBounds_toArray, List.set_cons_zero, List.set_cons_succ])
        refine wpAnyH_ready (rs := [4]) (by kernel_rfl) (by simp) ?_
        refine AllReadyH.cons rfl (fun K hK => ?_) AllReadyH.nil
        go_simp
        (refine HOF.out.mono ?_); rintro e w4 ⟨t4, rfl, ht4, hcu4, ho4⟩; have D4 := HD.out.drew.move hg hcu4 ho4; have hs4 := spk_size t4 ht4; have HD4 := Lib.hid D4; clear hcu4 ho4 ht4 D4
        refine hK.out _ _ (by trivial) (fun hHeld => ?_)
        clear hK K
        (try simp only [List.getElem_toArray, List.getElem_cons_succ, List.getElem_cons_zero, Act.put, List.setIfInBounds_toArray, List.set_cons_zero, List.set_cons_succ])
        refine wpAnyH_ready (rs := [6]) (by kernel_rfl) (by simp) ?_
        refine AllReadyH.cons rfl (fun K hK => ?_) AllReadyH.nil
        go_simp
        (refine (drawText_calls g _ _ HD4.out.cur (by omega)).mono ?_); rintro e w6 ⟨t6, rfl, ht6, hcu6, ho6⟩; have D6 := HD4.out.move hg hcu6 ho6; have HD6 := Lib.hid D6; clear hcu6 ho6 D6
        refine hK.out _ _ (by trivial) (fun hHeld => ?_)
        clear hK K
        (try simp only [List.getElem_toArray, List.getElem_cons_succ, List.getElem_cons_zero, Act.put, List.setIfInBounds_toArray, List.set_cons_zero, List.set_cons_succ])
        (refine wpAnyH_take (i := 7) (v := ?_) rfl (by kernel_rfl) (by kernel_rfl) (by kernel_rfl) (fun _ _ _ h => h) (Or.inl ⟨by rfl, ?_⟩) (by assumption) ?_; rotate_left; focus (intro w hSw; (try dsimp only at hSw); go_simp; try with_reducible rfl))
        (try simp only [List.getElem_toArray, List.getElem_cons_succ, List.getElem_cons_zero, Act.put, List.setIfInBounds_toArray, List.set_cons_zero, List.set_cons_succ])
        refine wpAnyH_ready (rs := [8]) (by kernel_rfl) (by simp) ?_
        refine AllReadyH.cons rfl (fun K hK => ?_) AllReadyH.nil
        go_simp
        skip
        refine hK.out _ _ (by trivial) (fun hHeld => ?_)
        clear hK K
        (try simp only [List.getElem_toArray, List.getElem_cons_succ, List.getElem_cons_zero, Act.put, List.setIfInBounds_toArray, List.set_cons_zero, List.set_cons_succ])
        refine wpAnyH_ready (rs := [9]) (by kernel_rfl) (by simp) ?_
        refine AllReadyH.cons rfl (fun K hK => ?_) AllReadyH.nil
        refine step_append_own (HD6.out.alloc (.cells #[.string t4, .string t6] 52)).own (HD6.out.alloc (.cells #[.string t4, .string t6] 52)).lt (.tmp 15) (.tmp 22) 24 Tryd.underlying24 info_turn ms1 ms2 (ys := [.string t4, .string t6]) (g := w6.heap.size) (fun j u hj => new_atT (w := w6) (xs := [.string t4, .string t6]) hj) (by simp [Value.oneCell']) ⟨rfl, rfl, rfl, rfl, rfl, rfl, by decide⟩ ?_; intro v9 w9 hown9 hg9 _; obtain ⟨A9, k9, rfl, -, -, -⟩ := (Own.of_row hown9).slice; have b9 := (HD6.out.alloc (.cells #[.string t4, .string t6] 52)).box.grown hg9 (fun e => by have := (HD6.out.own.lt _ e).1; omega); have c9 := b9.cell; have f9 := b9.free; have DP := Lib.hid ((HD6.out.alloc (.cells #[.string t4, .string t6] 52)).put (c := (t4, t6)) hg hown9 hg9 (by show t4.size ≤ 100; omega) ht6); clear hown9 hg9 b9
        refine hK.out _ _ (by trivial) (fun hHeld => ?_)
        clear hK K
        (try simp only [List.getElem_toArray, List.getElem_cons_succ, List.getElem_cons_zero, Act.put, List.setIfInBounds_toArray, List.set_cons_zero, List.set_cons_succ])
        (refine wpAnyH_take (i := 10) (v := ?_) rfl (by kernel_rfl) (by kernel_rfl) (by kernel_rfl) (fun _ _ _ h => h) (Or.inl ⟨by rfl, ?_⟩) (by assumption) ?_; rotate_left; focus (intro w hSw; (try dsimp only at hSw); go_simp; try with_reducible rfl))
        (try simp only [List.getElem_toArray, List.getElem_cons_succ, List.getElem_cons_zero, Act.put, List.setIfInBounds_toArray, List.set_cons_zero, List.set_cons_succ])
        refine wpAnyH_ready (rs := [11]) (by kernel_rfl) (by simp) ?_
        refine AllReadyH.cons rfl (fun K hK => ?_) AllReadyH.nil
        go_simp
        skip
        refine hK.out _ _ (by trivial) (fun hHeld => ?_)
        clear hK K
        (try simp only [List.getElem_toArray, List.getElem_cons_succ, List.getElem_cons_zero, Act.put, List.setIfInBounds_toArray, List.set_cons_zero, List.set_cons_succ])
        refine wpAnyH_done (by kernel_rfl) ?_ _
        first | refine NoPanic.normal ?_ | skip
        clear hHeld c9 f9
        go_wp2
        go_roundw
        case rel => exact ⟨k, _, l ++ [(t4, t6)], by go_num, by rw [List.length_append]; simp; omega, DP.out.more (by rw [List.length_append]; simp; omega)⟩
        case measure => simp [intOf]
      · clear cL
        go_simp
        skip
        refine hK.out _ _ (by trivial) (fun hHeld => ?_)
        clear hK K
        (try simp only [List.getElem_toArray, List.getElem_cons_succ, List.getElem_cons_zero, Act.put, List.setIfInBounds_toArray, List.set_cons_zero, List.set_cons_succ])
        have cL : (wr.alloc (.cells #[.string ⟨#[81]⟩, .string ⟨#[65]⟩, .string ⟨#[74, 85, 68, 71, 69]⟩] 9)).cell? ⟨w.heap.size + 1, 0, none⟩ = some (.slice Al l.length cl) := (HD.out.alloc _).box.cell
        refine wpAnyH_ready (rs := [1, 4]) (by kernel_rfl) (by simp) ?_
        refine AllReadyH.cons rfl (fun K hK => ?_) (AllReadyH.cons rfl (fun K hK => ?_) AllReadyH.nil)
        · go_simp
          skip
          refine hK.out _ _ (by trivial) (fun hHeld => ?_)
          clear hK K
          (try simp only [List.getElem_toArray, List.getElem_cons_succ, List.getElem_cons_zero, Act.put, List.setIfInBounds_toArray, List.set_cons_zero, List.set_cons_succ])
          clear cL
          refine wpAnyH_ready (rs := [4]) (by kernel_rfl) (by simp) ?_
          refine AllReadyH.cons rfl (fun K hK => ?_) AllReadyH.nil
          go_simp
          (refine HOF.out.mono ?_); rintro e w4 ⟨t4, rfl, ht4, hcu4, ho4⟩; have D4 := HD.out.drew.move hg hcu4 ho4; have hs4 := spk_size t4 ht4; have HD4 := Lib.hid D4; clear hcu4 ho4 ht4 D4
          refine hK.out _ _ (by trivial) (fun hHeld => ?_)
          clear hK K
          (try simp only [List.getElem_toArray, List.getElem_cons_succ, List.getElem_cons_zero, Act.put, List.setIfInBounds_toArray, List.set_cons_zero, List.set_cons_succ])
          refine wpAnyH_ready (rs := [6]) (by kernel_rfl) (by simp) ?_
          refine AllReadyH.cons rfl (fun K hK => ?_) AllReadyH.nil
          go_simp
          (refine (drawText_calls g _ _ HD4.out.cur (by omega)).mono ?_); rintro e w6 ⟨t6, rfl, ht6, hcu6, ho6⟩; have D6 := HD4.out.move hg hcu6 ho6; have HD6 := Lib.hid D6; clear hcu6 ho6 D6
          refine hK.out _ _ (by trivial) (fun hHeld => ?_)
          clear hK K
          (try simp only [List.getElem_toArray, List.getElem_cons_succ, List.getElem_cons_zero, Act.put, List.setIfInBounds_toArray, List.set_cons_zero, List.set_cons_succ])
          (refine wpAnyH_take (i := 7) (v := ?_) rfl (by kernel_rfl) (by kernel_rfl) (by kernel_rfl) (fun _ _ _ h => h) (Or.inl ⟨by rfl, ?_⟩) (by assumption) ?_; rotate_left; focus (intro w hSw; (try dsimp only at hSw); go_simp; try with_reducible rfl))
          (try simp only [List.getElem_toArray, List.getElem_cons_succ, List.getElem_cons_zero, Act.put, List.setIfInBounds_toArray, List.set_cons_zero, List.set_cons_succ])
          refine wpAnyH_ready (rs := [8]) (by kernel_rfl) (by simp) ?_
          refine AllReadyH.cons rfl (fun K hK => ?_) AllReadyH.nil
          go_simp
          skip
          refine hK.out _ _ (by trivial) (fun hHeld => ?_)
          clear hK K
          (try simp only [List.getElem_toArray, List.getElem_cons_succ, List.getElem_cons_zero, Act.put, List.setIfInBounds_toArray, List.set_cons_zero, List.set_cons_succ])
          refine wpAnyH_ready (rs := [9]) (by kernel_rfl) (by simp) ?_
          refine AllReadyH.cons rfl (fun K hK => ?_) AllReadyH.nil
          refine step_append_own (HD6.out.alloc (.cells #[.string t4, .string t6] 52)).own (HD6.out.alloc (.cells #[.string t4, .string t6] 52)).lt (.tmp 15) (.tmp 22) 24 Tryd.underlying24 info_turn ms1 ms2 (ys := [.string t4, .string t6]) (g := w6.heap.size) (fun j u hj => new_atT (w := w6) (xs := [.string t4, .string t6]) hj) (by simp [Value.oneCell']) ⟨rfl, rfl, rfl, rfl, rfl, rfl, by decide⟩ ?_; intro v9 w9 hown9 hg9 _; obtain ⟨A9, k9, rfl, -, -, -⟩ := (Own.of_row hown9).slice; have b9 := (HD6.out.alloc (.cells #[.string t4, .string t6] 52)).box.grown hg9 (fun e => by have := (HD6.out.own.lt _ e).1; omega); have c9 := b9.cell; have f9 := b9.free; have DP := Lib.hid ((HD6.out.alloc (.cells #[.string t4, .string t6] 52)).put (c := (t4, t6)) hg hown9 hg9 (by show t4.size ≤ 100; omega) ht6); clear hown9 hg9 b9
          refine hK.out _ _ (by trivial) (fun hHeld => ?_)
          clear hK K
          (try simp only [List.getElem_toArray, List.getElem_cons_succ, List.getElem_cons_zero, Act.put, List.setIfInBounds_toArray, List.set_cons_zero, List.set_cons_succ])
          (refine wpAnyH_take (i := 10) (v := ?_) rfl (by kernel_rfl) (by kernel_rfl) (by kernel_rfl) (fun _ _ _ h => h) (Or.inl ⟨by rfl, ?_⟩) (by assumption) ?_; rotate_left; focus (intro w hSw; (try dsimp only at hSw); go_simp; try with_reducible rfl))
          (try simp only [List.getElem_toArray, List.getElem_cons_succ, List.getElem_cons_zero, Act.put, List.setIfInBounds_toArray, List.set_cons_zero, List.set_cons_succ])
          refine wpAnyH_ready (rs := [11]) (by kernel_rfl) (by simp) ?_
          refine AllReadyH.cons rfl (fun K hK => ?_) AllReadyH.nil
          go_simp
          skip
          refine hK.out _ _ (by trivial) (fun hHeld => ?_)
          clear hK K
          (try simp only [List.getElem_toArray, List.getElem_cons_succ, List.getElem_cons_zero, Act.put, List.setIfInBounds_toArray, List.set_cons_zero, List.set_cons_succ])
          refine wpAnyH_done (by kernel_rfl) ?_ _
          first | refine NoPanic.normal ?_ | skip
          clear hHeld c9 f9
          go_wp2
          go_roundw
          case rel => exact ⟨k, _, l ++ [(t4, t6)], by go_num, by rw [List.length_append]; simp; omega, DP.out.more (by rw [List.length_append]; simp; omega)⟩
          case measure => simp [intOf]
        · clear cL
          go_simp
          (refine HOF.out.mono ?_); rintro e w4 ⟨t4, rfl, ht4, hcu4, ho4⟩; have D4 := HD.out.drew.move hg hcu4 ho4; have hs4 := spk_size t4 ht4; have HD4 := Lib.hid D4; clear hcu4 ho4 ht4 D4
          refine hK.out _ _ (by trivial) (fun hHeld => ?_)
          clear hK K
          (try simp only [List.getElem_toArray, List.getElem_cons_succ, List.getElem_cons_zero, Act.put, List.setIfInBounds_toArray, List.set_cons_zero, List.set_cons_succ])
          have cL := HD4.out.box.cell
          refine wpAnyH_ready (rs := [1, 6]) (by kernel_rfl) (by simp) ?_
          refine AllReadyH.cons rfl (fun K hK => ?_) (AllReadyH.cons rfl (fun K hK => ?_) AllReadyH.nil)
          · go_simp
            skip
            refine hK.out _ _ (by trivial) (fun hHeld => ?_)
            clear hK K
            (try simp only [List.getElem_toArray, List.getElem_cons_succ, List.getElem_cons_zero, Act.put, List.setIfInBounds_toArray, List.set_cons_zero, List.set_cons_succ])
            clear cL
            refine wpAnyH_ready (rs := [6]) (by kernel_rfl) (by simp) ?_
            refine AllReadyH.cons rfl (fun K hK => ?_) AllReadyH.nil
            go_simp
            (refine (drawText_calls g _ _ HD4.out.cur (by omega)).mono ?_); rintro e w6 ⟨t6, rfl, ht6, hcu6, ho6⟩; have D6 := HD4.out.move hg hcu6 ho6; have HD6 := Lib.hid D6; clear hcu6 ho6 D6
            refine hK.out _ _ (by trivial) (fun hHeld => ?_)
            clear hK K
            (try simp only [List.getElem_toArray, List.getElem_cons_succ, List.getElem_cons_zero, Act.put, List.setIfInBounds_toArray, List.set_cons_zero, List.set_cons_succ])
            (refine wpAnyH_take (i := 7) (v := ?_) rfl (by kernel_rfl) (by kernel_rfl) (by kernel_rfl) (fun _ _ _ h => h) (Or.inl ⟨by rfl, ?_⟩) (by assumption) ?_; rotate_left; focus (intro w hSw; (try dsimp only at hSw); go_simp; try with_reducible rfl))
            (try simp only [List.getElem_toArray, List.getElem_cons_succ, List.getElem_cons_zero, Act.put, List.setIfInBounds_toArray, List.set_cons_zero, List.set_cons_succ])
            refine wpAnyH_ready (rs := [8]) (by kernel_rfl) (by simp) ?_
            refine AllReadyH.cons rfl (fun K hK => ?_) AllReadyH.nil
            go_simp
            skip
            refine hK.out _ _ (by trivial) (fun hHeld => ?_)
            clear hK K
            (try simp only [List.getElem_toArray, List.getElem_cons_succ, List.getElem_cons_zero, Act.put, List.setIfInBounds_toArray, List.set_cons_zero, List.set_cons_succ])
            refine wpAnyH_ready (rs := [9]) (by kernel_rfl) (by simp) ?_
            refine AllReadyH.cons rfl (fun K hK => ?_) AllReadyH.nil
            refine step_append_own (HD6.out.alloc (.cells #[.string t4, .string t6] 52)).own (HD6.out.alloc (.cells #[.string t4, .string t6] 52)).lt (.tmp 15) (.tmp 22) 24 Tryd.underlying24 info_turn ms1 ms2 (ys := [.string t4, .string t6]) (g := w6.heap.size) (fun j u hj => new_atT (w := w6) (xs := [.string t4, .string t6]) hj) (by simp [Value.oneCell']) ⟨rfl, rfl, rfl, rfl, rfl, rfl, by decide⟩ ?_; intro v9 w9 hown9 hg9 _; obtain ⟨A9, k9, rfl, -, -, -⟩ := (Own.of_row hown9).slice; have b9 := (HD6.out.alloc (.cells #[.string t4, .string t6] 52)).box.grown hg9 (fun e => by have := (HD6.out.own.lt _ e).1; omega); have c9 := b9.cell; have f9 := b9.free; have DP := Lib.hid ((HD6.out.alloc (.cells #[.string t4, .string t6] 52)).put (c := (t4, t6)) hg hown9 hg9 (by show t4.size ≤ 100; omega) ht6); clear hown9 hg9 b9
            refine hK.out _ _ (by trivial) (fun hHeld => ?_)
            clear hK K
            (try simp only [List.getElem_toArray, List.getElem_cons_succ, List.getElem_cons_zero, Act.put, List.setIfInBounds_toArray, List.set_cons_zero, List.set_cons_succ])
            (refine wpAnyH_take (i := 10) (v := ?_) rfl (by kernel_rfl) (by kernel_rfl) (by kernel_rfl) (fun _ _ _ h => h) (Or.inl ⟨by rfl, ?_⟩) (by assumption) ?_; rotate_left; focus (intro w hSw; (try dsimp only at hSw); go_simp; try with_reducible rfl))
            (try simp only [List.getElem_toArray, List.getElem_cons_succ, List.getElem_cons_zero, Act.put, List.setIfInBounds_toArray, List.set_cons_zero, List.set_cons_succ])
            refine wpAnyH_ready (rs := [11]) (by kernel_rfl) (by simp) ?_
            refine AllReadyH.cons rfl (fun K hK => ?_) AllReadyH.nil
            go_simp
            skip
            refine hK.out _ _ (by trivial) (fun hHeld => ?_)
            clear hK K
            (try simp only [List.getElem_toArray, List.getElem_cons_succ, List.getElem_cons_zero, Act.put, List.setIfInBounds_toArray, List.set_cons_zero, List.set_cons_succ])
            refine wpAnyH_done (by kernel_rfl) ?_ _
            first | refine NoPanic.normal ?_ | skip
            clear hHeld c9 f9
            go_wp2
            go_roundw
            case rel => exact ⟨k, _, l ++ [(t4, t6)], by go_num, by rw [List.length_append]; simp; omega, DP.out.more (by rw [List.length_append]; simp; omega)⟩
            case measure => simp [intOf]
          · clear cL
            go_simp
            (refine (drawText_calls g _ _ HD4.out.cur (by omega)).mono ?_); rintro e w6 ⟨t6, rfl, ht6, hcu6, ho6⟩; have D6 := HD4.out.move hg hcu6 ho6; have HD6 := Lib.hid D6; clear hcu6 ho6 D6
            refine hK.out _ _ (by trivial) (fun hHeld => ?_)
            clear hK K
            (try simp only [List.getElem_toArray, List.getElem_cons_succ, List.getElem_cons_zero, Act.put, List.setIfInBounds_toArray, List.set_cons_zero, List.set_cons_succ])
            (refine wpAnyH_take (i := 7) (v := ?_) rfl (by kernel_rfl) (by kernel_rfl) (by kernel_rfl) (fun _ _ _ h => h) (Or.inl ⟨by rfl, ?_⟩) (by assumption) ?_; rotate_left; focus (intro w hSw; (try dsimp only at hSw); go_simp; try with_reducible rfl))
            (try simp only [List.getElem_toArray, List.getElem_cons_succ, List.getElem_cons_zero, Act.put, List.setIfInBounds_toArray, List.set_cons_zero, List.set_cons_succ])
            have cL := HD6.out.box.cell
            refine wpAnyH_ready (rs := [1, 8]) (by kernel_rfl) (by simp) ?_
            refine AllReadyH.cons rfl (fun K hK => ?_) (AllReadyH.cons rfl (fun K hK => ?_) AllReadyH.nil)
            · go_simp
              skip
              refine hK.out _ _ (by trivial) (fun hHeld => ?_)
              clear hK K
              (try simp only [List.getElem_toArray, List.getElem_cons_succ, List.getElem_cons_zero, Act.put, List.setIfInBounds_toArray, List.set_cons_zero, List.set_cons_succ])
              clear cL
              refine wpAnyH_ready (rs := [8]) (by kernel_rfl) (by simp) ?_
              refine AllReadyH.cons rfl (fun K hK => ?_) AllReadyH.nil
              go_simp
              skip
              refine hK.out _ _ (by trivial) (fun hHeld => ?_)
              clear hK K
              (try simp only [List.getElem_toArray, List.getElem_cons_succ, List.getElem_cons_zero, Act.put, List.setIfInBounds_toArray, List.set_cons_zero, List.set_cons_succ])
              refine wpAnyH_ready (rs := [9]) (by kernel_rfl) (by simp) ?_
              refine AllReadyH.cons rfl (fun K hK => ?_) AllReadyH.nil
              refine step_append_own (HD6.out.alloc (.cells #[.string t4, .string t6] 52)).own (HD6.out.alloc (.cells #[.string t4, .string t6] 52)).lt (.tmp 15) (.tmp 22) 24 Tryd.underlying24 info_turn ms1 ms2 (ys := [.string t4, .string t6]) (g := w6.heap.size) (fun j u hj => new_atT (w := w6) (xs := [.string t4, .string t6]) hj) (by simp [Value.oneCell']) ⟨rfl, rfl, rfl, rfl, rfl, rfl, by decide⟩ ?_; intro v9 w9 hown9 hg9 _; obtain ⟨A9, k9, rfl, -, -, -⟩ := (Own.of_row hown9).slice; have b9 := (HD6.out.alloc (.cells #[.string t4, .string t6] 52)).box.grown hg9 (fun e => by have := (HD6.out.own.lt _ e).1; omega); have c9 := b9.cell; have f9 := b9.free; have DP := Lib.hid ((HD6.out.alloc (.cells #[.string t4, .string t6] 52)).put (c := (t4, t6)) hg hown9 hg9 (by show t4.size ≤ 100; omega) ht6); clear hown9 hg9 b9
              refine hK.out _ _ (by trivial) (fun hHeld => ?_)
              clear hK K
              (try simp only [List.getElem_toArray, List.getElem_cons_succ, List.getElem_cons_zero, Act.put, List.setIfInBounds_toArray, List.set_cons_zero, List.set_cons_succ])
              (refine wpAnyH_take (i := 10) (v := ?_) rfl (by kernel_rfl) (by kernel_rfl) (by kernel_rfl) (fun _ _ _ h => h) (Or.inl ⟨by rfl, ?_⟩) (by assumption) ?_; rotate_left; focus (intro w hSw; (try dsimp only at hSw); go_simp; try with_reducible rfl))
              (try simp only [List.getElem_toArray, List.getElem_cons_succ, List.getElem_cons_zero, Act.put, List.setIfInBounds_toArray, List.set_cons_zero, List.set_cons_succ])
              refine wpAnyH_ready (rs := [11]) (by kernel_rfl) (by simp) ?_
              refine AllReadyH.cons rfl (fun K hK => ?_) AllReadyH.nil
              go_simp
              skip
              refine hK.out _ _ (by trivial) (fun hHeld => ?_)
              clear hK K
              (try simp only [List.getElem_toArray, List.getElem_cons_succ, List.getElem_cons_zero, Act.put, List.setIfInBounds_toArray, List.set_cons_zero, List.set_cons_succ])
              refine wpAnyH_done (by kernel_rfl) ?_ _
              first | refine NoPanic.normal ?_ | skip
              clear hHeld c9 f9
              go_wp2
              go_roundw
              case rel => exact ⟨k, _, l ++ [(t4, t6)], by go_num, by rw [List.length_append]; simp; omega, DP.out.more (by rw [List.length_append]; simp; omega)⟩
              case measure => simp [intOf]
            · clear cL
              go_simp
              skip
              refine hK.out _ _ (by trivial) (fun hHeld => ?_)
              clear hK K
              (try simp only [List.getElem_toArray, List.getElem_cons_succ, List.getElem_cons_zero, Act.put, List.setIfInBounds_toArray, List.set_cons_zero, List.set_cons_succ])
              have cL := (HD6.out.alloc (.cells #[.string t4, .string t6] 52)).box.cell
              refine wpAnyH_ready (rs := [1]) (by kernel_rfl) (by simp) ?_
              refine AllReadyH.cons rfl (fun K hK => ?_) AllReadyH.nil
              go_simp
              skip
              refine hK.out _ _ (by trivial) (fun hHeld => ?_)
              clear hK K
              (try simp only [List.getElem_toArray, List.getElem_cons_succ, List.getElem_cons_zero, Act.put, List.setIfInBounds_toArray, List.set_cons_zero, List.set_cons_succ])
              clear cL
              refine wpAnyH_ready (rs := [9]) (by kernel_rfl) (by simp) ?_
              refine AllReadyH.cons rfl (fun K hK => ?_) AllReadyH.nil
              refine step_append_own (HD6.out.alloc (.cells #[.string t4, .string t6] 52)).own (HD6.out.alloc (.cells #[.string t4, .string t6] 52)).lt (.tmp 15) (.tmp 22) 24 Tryd.underlying24 info_turn ms1 ms2 (ys := [.string t4, .string t6]) (g := w6.heap.size) (fun j u hj => new_atT (w := w6) (xs := [.string t4, .string t6]) hj) (by simp [Value.oneCell']) ⟨rfl, rfl, rfl, rfl, rfl, rfl, by decide⟩ ?_; intro v9 w9 hown9 hg9 _; obtain ⟨A9, k9, rfl, -, -, -⟩ := (Own.of_row hown9).slice; have b9 := (HD6.out.alloc (.cells #[.string t4, .string t6] 52)).box.grown hg9 (fun e => by have := (HD6.out.own.lt _ e).1; omega); have c9 := b9.cell; have f9 := b9.free; have DP := Lib.hid ((HD6.out.alloc (.cells #[.string t4, .string t6] 52)).put (c := (t4, t6)) hg hown9 hg9 (by show t4.size ≤ 100; omega) ht6); clear hown9 hg9 b9
              refine hK.out _ _ (by trivial) (fun hHeld => ?_)
              clear hK K
              (try simp only [List.getElem_toArray, List.getElem_cons_succ, List.getElem_cons_zero, Act.put, List.setIfInBounds_toArray, List.set_cons_zero, List.set_cons_succ])
              (refine wpAnyH_take (i := 10) (v := ?_) rfl (by kernel_rfl) (by kernel_rfl) (by kernel_rfl) (fun _ _ _ h => h) (Or.inl ⟨by rfl, ?_⟩) (by assumption) ?_; rotate_left; focus (intro w hSw; (try dsimp only at hSw); go_simp; try with_reducible rfl))
              (try simp only [List.getElem_toArray, List.getElem_cons_succ, List.getElem_cons_zero, Act.put, List.setIfInBounds_toArray, List.set_cons_zero, List.set_cons_succ])
              refine wpAnyH_ready (rs := [11]) (by kernel_rfl) (by simp) ?_
              refine AllReadyH.cons rfl (fun K hK => ?_) AllReadyH.nil
              go_simp
              skip
              refine hK.out _ _ (by trivial) (fun hHeld => ?_)
              clear hK K
              (try simp only [List.getElem_toArray, List.getElem_cons_succ, List.getElem_cons_zero, Act.put, List.setIfInBounds_toArray, List.set_cons_zero, List.set_cons_succ])
              refine wpAnyH_done (by kernel_rfl) ?_ _
              first | refine NoPanic.normal ?_ | skip
              clear hHeld c9 f9
              go_wp2
              go_roundw
              case rel => exact ⟨k, _, l ++ [(t4, t6)], by go_num, by rw [List.length_append]; simp; omega, DP.out.more (by rw [List.length_append]; simp; omega)⟩
              case measure => simp [intOf]
end Go.Proofs.YthokekgdiebhjaaDoor
