/-
  The reference's l6Put: some dictionary of at most one entry more.
-/
import Derived.Test.YtekidodfcanjaaaGreatDoorDictT
import Derived.Test.YtekidodfcanjaaaGreatDoorDictS
import Derived.Test.YtekidodfcanjaaaGreatDoorIns
import Derived.Test.YtekidodfcanjaaaGreatDoorDrawD
import Derived.Deep.CutBlock
namespace Go.Proofs.YtekidodfcanjaaaGreatDoor
open Go.RowKit
set_option linter.unusedVariables false
set_option linter.unusedSimpArgs false
set_option maxRecDepth 100000

/-- The state of l6Put: the boxes of its arguments and results, its own copy of the entry, what has been put so far. -/
structure PutS (w wr : World) (A : Option Addr) (n cap : Nat) (Ao : Option Addr) (co : Nat) (o : List Int) (t : ByteArray) (H4 go : Nat) (a : Option Addr) (c : Nat) (v : Value) (l' : List EntD) : Prop where
  dbox : Box wr w.heap.size 31 (.slice A n cap)
  ebox : Two wr (w.heap.size + 1) 50 (.slice Ao o.length co) (.string t)
  res : Box wr (w.heap.size + 2) 31 (.slice none 0 0)
  out : Box wr (w.heap.size + 3) 31 v
  own : Two wr go 50 (.slice a o.length c) (.string t)
  go4 : w.heap.size + 4 ≤ go
  goH : go < H4
  sz : H4 ≤ wr.heap.size
  row : RowN 3 w.heap.size wr a o.length (ints o)
  rowc : o.length ≤ c
  rowm : c ≤ maxLen
  dict : DictT wr w.heap.size H4 v l'
  bel : Below w.heap.size w wr
section
variable {w wr w' : World} {A Ao a : Option Addr} {n cap co c H4 go : Nat} {o : List Int} {t : ByteArray} {v : Value} {l' : List EntD}
theorem PutS.far (h : PutS w wr A n cap Ao co o t H4 go a c v l') (hb : Below wr.heap.size wr w') : PutS w w' A n cap Ao co o t H4 go a c v l' :=
  ⟨h.dbox.far hb, h.ebox.far hb, h.res.far hb, h.out.far hb, h.own.far hb, h.go4, h.goH, Nat.le_trans h.sz hb.size, h.row.keep (KeepN.of_below hb), h.rowc, h.rowm, h.dict.below hb, h.bel.trans (hb.mono h.bel.size)⟩
theorem PutS.drew (h : PutS w wr A n cap Ao co o t H4 go a c v l') : PutS w wr.drew A n cap Ao co o t H4 go a c v l' := h.far (Below.refl wr.heap.size wr).drew
theorem PutS.alloc (h : PutS w wr A n cap Ao co o t H4 go a c v l') (x : Obj) : PutS w (wr.alloc x) A n cap Ao co o t H4 go a c v l' := h.far ((Below.refl _ _).alloc (Nat.le_refl _) x)
/-- An entry is put behind the others, and the row stored. -/
theorem PutS.put {us : List Value} {v2 : Value} {Ac : Option Addr} {kc : Nat} {d : EntD} (h : PutS w wr A n cap Ao co o t H4 go a c v l') (hul : us.length = l'.length) (own : wr.ownsRow H4 50 2 v l'.length (flat2 (headsP us l')))
    (rows : ∀ (j : Nat) u c, us[j]? = some u → l'[j]? = some c → ∃ (A : Option Addr) (cap : Nat), u = .slice A c.1.length cap ∧ RowN 3 w.heap.size wr A c.1.length (ints c.1) ∧ c.1.length ≤ cap ∧ cap ≤ maxLen)
    (row : RowN 3 w.heap.size wr Ac d.1.length (ints d.1)) (hc : d.1.length ≤ kc) (hm : kc ≤ maxLen)
    (own2 : w'.ownsRow H4 50 2 v2 (l'.length + 1) (flat2 (headsP us l') ++ [.slice Ac d.1.length kc, .string d.2])) (gr : wr.grownBy w' v.ownBlock) :
    PutS w (w'.setCell ⟨w.heap.size + 3, 0, none⟩ v2) A n cap Ao co o t H4 go a c v2 (l' ++ [d]) := by
  have hv : ∀ g, v.ownBlock = some g → H4 ≤ g := fun g hg => (own.lt g hg).1
  have h4 := h.go4
  have hH := h.goH
  have ne : ∀ g, g < H4 → v.ownBlock ≠ some g := fun g hg e => by have := hv g e; omega
  have hd := DictT.put hul own rows row hc hm own2 gr
  have hs : w'.heap.size ≤ (w'.setCell ⟨w.heap.size + 3, 0, none⟩ v2).heap.size := by simp [World.setCell]
  have hout := h.out.grown gr (ne _ (by omega))
  have hd2 : DictT (w'.setCell ⟨w.heap.size + 3, 0, none⟩ v2) w.heap.size H4 v2 (l' ++ [d]) := by
    obtain ⟨us2, q1, q2, q3⟩ := hd
    refine ⟨us2, q1, ownsRow_setCell_below q2 (by show w.heap.size + 3 < H4; omega) v2, fun j u c' hu hc' => ?_⟩
    obtain ⟨x, y, r1, r2, r3, r4⟩ := q3 j u c' hu hc'
    exact ⟨x, y, r1, r2.keep (KeepN.of_set _ (.inr ⟨31, #[v], by decide, hout⟩)), r3, r4⟩
  exact ⟨(h.dbox.grown gr (ne _ (by omega))).setOther (show w.heap.size + 3 ≠ w.heap.size by omega) v2, (h.ebox.grown gr (ne _ (by omega))).setOther (show w.heap.size + 3 ≠ w.heap.size + 1 by omega) v2, (h.res.grown gr (ne _ (by omega))).setOther (show w.heap.size + 3 ≠ w.heap.size + 2 by omega) v2,
    hout.set_ v2, (h.own.grown gr (ne _ hH)).setOther (show w.heap.size + 3 ≠ go by omega) v2, h4, hH, by simp [World.setCell]; have := gr.size; have := h.sz; omega,
    (h.row.keep (KeepN.of_grown own gr (by decide))).keep (KeepN.of_set _ (.inr ⟨31, #[v], by decide, hout⟩)), h.rowc, h.rowm, hd2,
    (h.bel.grown gr (by have := h.sz; omega) (fun g hg => by have := hv g hg; omega)).setCell (show w.heap.size ≤ w.heap.size + 3 by omega) v2⟩
end

def PutRes (l : List EntD) (o : List Int) (t : ByteArray) (w : World) (e : Ending) (w' : World) : Prop := ∃ (v : Value) (l' : List EntD), e = .returned (.agg #[v]) ∧ DictT w' w.heap.size w.heap.size v l' ∧ l'.length ≤ l.length + 1 ∧ 0 < l'.length ∧ (∀ c ∈ l', c = (o, t) ∨ c ∈ l) ∧ Below w.heap.size w w'
theorem put_below {w wr : World} {A Ao a : Option Addr} {n cap co c H4 go : Nat} {o : List Int} {t : ByteArray} {v : Value} {l' : List EntD} (h : PutS w wr A n cap Ao co o t H4 go a c v l') : Below w.heap.size w (wr.setCell ⟨w.heap.size + 2, 0, none⟩ v) := h.bel.setCell (show w.heap.size ≤ w.heap.size + 2 by omega) v
theorem put_end {w wr : World} {A Ao a : Option Addr} {n cap co c H4 go : Nat} {o : List Int} {t : ByteArray} {v : Value} {l' : List EntD} (h : PutS w wr A n cap Ao co o t H4 go a c v l') : DictT (wr.setCell ⟨w.heap.size + 2, 0, none⟩ v) w.heap.size w.heap.size v l' := by
  have h4 := h.go4
  have hH := h.goH
  obtain ⟨us2, q1, q2, q3⟩ := h.dict
  refine ⟨us2, q1, (ownsRow_setCell_below q2 (by show w.heap.size + 2 < H4; omega) v).base (by omega), fun j u c' hu hc' => ?_⟩
  obtain ⟨x, y, r1, r2, r3, r4⟩ := q3 j u c' hu hc'
  exact ⟨x, y, r1, r2.keep (KeepN.of_set _ (.inr ⟨31, #[.slice none 0 0], by decide, h.res⟩)), r3, r4⟩

set_option maxHeartbeats 8000000 in
theorem spec_l6Put (A : Option Addr) (cap : Nat) (l : List EntD) (Ao : Option Addr) (co : Nat) (o : List Int) (t : ByteArray) (w : World) (hr : DictR w w.heap.size A l) (hn : l.length ≤ 1000) (hs : ShortD l) (ho : Reads w w.heap.size 1 Ao o.length (ints o)) (hol : o.length ≤ 1048576) :
    Calls Tryz.prog 107 #[.agg #[.slice A l.length cap], .agg #[.slice Ao o.length co, .string t]] w (PutRes l o t w) := by
  have HS := Lib.hid hs
  clear hs
  obtain ⟨W0, hW0⟩ : ∃ W0, W0 = (((w.alloc (.cells #[.slice A l.length cap] 31)).alloc (.cells #[.slice Ao o.length co, .string t] 50)).alloc (.cells #[.slice none 0 0] 31)).alloc (.cells #[.slice none 0 0] 31) := ⟨_, rfl⟩
  have hz0 : W0.heap.size = w.heap.size + 4 := by rw [hW0]; simp
  have hb0 : Below w.heap.size w W0 := by rw [hW0]; exact ((((Below.refl _ _).alloc (Nat.le_refl _) _).alloc (by simp) _).alloc (by simp; omega) _).alloc (by simp; omega) _
  have d0 : Box W0 w.heap.size 31 (.slice A l.length cap) := by rw [hW0]; exact (((Box.new w _ _).alloc _).alloc _).alloc _
  have e0 : Two W0 (w.heap.size + 1) 50 (.slice Ao o.length co) (.string t) := by
    have := Two.new (w.alloc (.cells #[.slice A l.length cap] 31)) 50 (.slice Ao o.length co) (.string t)
    rw [show (w.alloc (.cells #[.slice A l.length cap] 31)).heap.size = w.heap.size + 1 by simp] at this
    rw [hW0]
    exact (this.far ((Below.refl _ _).alloc (Nat.le_refl _) _)).far ((Below.refl _ _).alloc (Nat.le_refl _) _)
  have r0 : Box W0 (w.heap.size + 2) 31 (.slice none 0 0) := by
    have := Box.new ((w.alloc (.cells #[.slice A l.length cap] 31)).alloc (.cells #[.slice Ao o.length co, .string t] 50)) 31 (.slice none 0 0)
    rw [show ((w.alloc (.cells #[.slice A l.length cap] 31)).alloc (.cells #[.slice Ao o.length co, .string t] 50)).heap.size = w.heap.size + 2 by simp] at this
    rw [hW0]
    exact this.alloc _
  have o0 : Box W0 (w.heap.size + 3) 31 (.slice none 0 0) := by
    have := Box.new (((w.alloc (.cells #[.slice A l.length cap] 31)).alloc (.cells #[.slice Ao o.length co, .string t] 50)).alloc (.cells #[.slice none 0 0] 31)) 31 (.slice none 0 0)
    rw [show (((w.alloc (.cells #[.slice A l.length cap] 31)).alloc (.cells #[.slice Ao o.length co, .string t] 50)).alloc (.cells #[.slice none 0 0] 31)).heap.size = w.heap.size + 3 by simp] at this
    rw [hW0]
    exact this
  have hzge : w.heap.size + 4 ≤ W0.heap.size := by omega
  clear hz0
  have HO := Lib.hid (fun (W' : World) (hb : Below w.heap.size w W') => (ho.below hb).more hb.size)
  have HR := Lib.hid (fun (W' : World) (hb : Below w.heap.size w W') => hr.below hb)
  clear hr ho
  go_enter Tryz.func107, Tryz.ntmps107
  go_upto_region 3 with fail
  rw [← hW0]
  have HW0 := Lib.hid hW0
  clear hW0
  have hE : W0.drew.cell? ⟨w.heap.size + 1, 0, none⟩ = some (.slice Ao o.length co) ∧ W0.drew.cell? ⟨w.heap.size + 1, 1, none⟩ = some (.string t) := e0.cells
  go_cut [7] from 10 to 74 (fun p wx => ∃ go a c, p = .pointer (some ⟨go, 0, none⟩) ∧ PutS w wx A l.length cap Ao co o t wx.heap.size go a c (.slice none 0 0) [])
  case first =>
    first | refine wp_region_noPanic ?_ | skip
    refine wp_region_held_drew (S := fun w' => w'.cell? ⟨w.heap.size + 1, 0, none⟩ = some (.slice Ao o.length co) ∧ w'.cell? ⟨w.heap.size + 1, 1, none⟩ = some (.string t)) (by kernel_rfl) (by exact hE) (fun hHeld => ?_)
    (refine wpAnyH_take (i := 0) (v := ?_) rfl (by kernel_rfl) (by kernel_rfl) (by kernel_rfl) (fun _ _ _ h => h) (Or.inl ⟨by rfl, ?_⟩) (by assumption) ?_; rotate_left; focus (intro w hSw; (try dsimp only at hSw); go_simp; try with_reducible rfl))
    (try simp only [List.getElem_toArray, List.getElem_cons_succ, List.getElem_cons_zero, Act.put, List.setIfInBounds_toArray, List.set_cons_zero, List.set_cons_succ])
    (refine wpAnyH_take (i := 1) (v := ?_) rfl (by kernel_rfl) (by kernel_rfl) (by kernel_rfl) (fun _ _ _ h => h) (Or.inl ⟨by rfl, ?_⟩) (by assumption) ?_; rotate_left; focus (intro w hSw; (try dsimp only at hSw); go_simp; try with_reducible rfl))
    (try simp only [List.getElem_toArray, List.getElem_cons_succ, List.getElem_cons_zero, Act.put, List.setIfInBounds_toArray, List.set_cons_zero, List.set_cons_succ])
    (refine wpAnyH_take (i := 3) (v := ?_) rfl (by kernel_rfl) (by kernel_rfl) (by kernel_rfl) (fun _ _ _ h => h) (Or.inl ⟨by rfl, ?_⟩) (by assumption) ?_; rotate_left; focus (intro w hSw; (try dsimp only at hSw); go_simp; try with_reducible rfl))
    (try simp only [List.getElem_toArray, List.getElem_cons_succ, List.getElem_cons_zero, Act.put, List.setIfInBounds_toArray, List.set_cons_zero, List.set_cons_succ])
    (refine wpAnyH_take (i := 4) (v := ?_) rfl (by kernel_rfl) (by kernel_rfl) (by kernel_rfl) (fun _ _ _ h => h) (Or.inl ⟨by rfl, ?_⟩) (by assumption) ?_; rotate_left; focus (intro w hSw; (try dsimp only at hSw); go_simp; try with_reducible rfl))
    (try simp only [List.getElem_toArray, List.getElem_cons_succ, List.getElem_cons_zero, Act.put, List.setIfInBounds_toArray, List.set_cons_zero, List.set_cons_succ])
    refine wpAnyH_ready (rs := [2, 6]) (by kernel_rfl) (by simp) ?_
    refine AllReadyH.cons rfl (fun K hK => ?_) (AllReadyH.cons rfl (fun K hK => ?_) AllReadyH.nil)
    · go_simp
      refine (spec_l1Own Ao co o _ (HO.out _ hb0.drew) hol).mono ?_
      rintro e w5 ⟨v5, rfl, ow5, b5⟩
      obtain ⟨a5, k5, rfl, -, hk5, hm5⟩ := (Own.of_row ow5).slice
      have b5' : Below W0.heap.size W0 w5 := (Below.refl W0.heap.size W0).drew.trans b5
      have hE5 : w5.cell? ⟨w.heap.size + 1, 0, none⟩ = some (.slice Ao o.length co) ∧ w5.cell? ⟨w.heap.size + 1, 1, none⟩ = some (.string t) := (e0.far b5').cells
      refine hK.out _ _ (hE5) (fun hHeld => ?_)
      clear hK K
      (try simp only [List.getElem_toArray, List.getElem_cons_succ, List.getElem_cons_zero, Act.put, List.setIfInBounds_toArray, List.set_cons_zero, List.set_cons_succ])
      (refine wpAnyH_take (i := 5) (v := ?_) rfl (by kernel_rfl) (by kernel_rfl) (by kernel_rfl) (fun _ _ _ h => h) (Or.inl ⟨by rfl, ?_⟩) (by assumption) ?_; rotate_left; focus (intro w hSw; (try dsimp only at hSw); go_simp; try with_reducible rfl))
      (try simp only [List.getElem_toArray, List.getElem_cons_succ, List.getElem_cons_zero, Act.put, List.setIfInBounds_toArray, List.set_cons_zero, List.set_cons_succ])
      refine wpAnyH_ready (rs := [6]) (by kernel_rfl) (by simp) ?_
      refine AllReadyH.cons rfl (fun K hK => ?_) AllReadyH.nil
      go_simp
      have bz : Below W0.heap.size W0 (w5.alloc (.cells #[.slice none 0 0, .string ⟨#[]⟩] 50)) := b5'.alloc b5'.size _
      have bz2 : Below W0.heap.size W0 (w5.alloc (.cells #[.slice a5 o.length k5, .string t] 50)) := b5'.alloc b5'.size _
      have z5 := b5'.size
      refine hK.out _ _ ((e0.far bz).cells) (fun hHeld => ?_)
      clear hK K
      (try simp only [List.getElem_toArray, List.getElem_cons_succ, List.getElem_cons_zero, Act.put, List.setIfInBounds_toArray, List.set_cons_zero, List.set_cons_succ])
      refine wpAnyH_ready (rs := [7]) (by kernel_rfl) (by simp) ?_
      refine AllReadyH.cons rfl (fun K hK => ?_) AllReadyH.nil
      go_simp
      refine hK.out _ _ ((e0.far bz2).cells) (fun hHeld => ?_)
      clear hK K
      (try simp only [List.getElem_toArray, List.getElem_cons_succ, List.getElem_cons_zero, Act.put, List.setIfInBounds_toArray, List.set_cons_zero, List.set_cons_succ])
      refine wpAnyH_done (by kernel_rfl) ?_ _
      first | refine NoPanic.normal ?_ | skip
      have hzl := hzge
      clear hHeld
      go_wp2
      go_meet
      exact ⟨w5.heap.size, a5, k5, rfl, ⟨d0.far bz2, e0.far bz2, r0.far bz2, o0.far bz2, Two.new w5 _ _ _, by omega, by simp, Nat.le_refl _, (RowN.of_own ow5 (by have : W0.drew.heap.size = W0.heap.size := rfl; omega)).keep (KeepN.alloc _ _), hk5, hm5, DictT.nil _ _ _, hb0.trans (bz2.mono hb0.size)⟩⟩
    · go_simp
      have b1' : Below W0.heap.size W0 (W0.drew.alloc (.cells #[.slice none 0 0, .string ⟨#[]⟩] 50)) := (Below.refl W0.heap.size W0).drew.alloc (Nat.le_refl _) _
      have t1 : Two (W0.drew.alloc (.cells #[.slice none 0 0, .string ⟨#[]⟩] 50)) W0.heap.size 50 (.slice none 0 0) (.string ⟨#[]⟩) := Two.new W0.drew _ _ _
      refine hK.out _ _ ((e0.far b1').cells) (fun hHeld => ?_)
      clear hK K
      (try simp only [List.getElem_toArray, List.getElem_cons_succ, List.getElem_cons_zero, Act.put, List.setIfInBounds_toArray, List.set_cons_zero, List.set_cons_succ])
      refine wpAnyH_ready (rs := [2]) (by kernel_rfl) (by simp) ?_
      refine AllReadyH.cons rfl (fun K hK => ?_) AllReadyH.nil
      go_simp
      refine (spec_l1Own Ao co o _ (HO.out _ (hb0.trans (b1'.mono hb0.size))) hol).mono ?_
      rintro e w5 ⟨v5, rfl, ow5, b5⟩
      obtain ⟨a5, k5, rfl, -, hk5, hm5⟩ := (Own.of_row ow5).slice
      have bz : Below W0.heap.size W0 w5 := b1'.trans (b5.mono b1'.size)
      have tz : Two w5 W0.heap.size 50 (.slice none 0 0) (.string ⟨#[]⟩) := t1.far b5
      have rz : RowN 3 w.heap.size w5 a5 o.length (ints o) := RowN.of_own ow5 (by have := b1'.size; omega)
      have fz0 := tz.free 0
      have fz1 := tz.free 1
      obtain ⟨tc0, tc1⟩ := tz.cells
      refine hK.out _ _ ((e0.far bz).cells) (fun hHeld => ?_)
      clear hK K
      (try simp only [List.getElem_toArray, List.getElem_cons_succ, List.getElem_cons_zero, Act.put, List.setIfInBounds_toArray, List.set_cons_zero, List.set_cons_succ])
      (refine wpAnyH_take (i := 5) (v := ?_) rfl (by kernel_rfl) (by kernel_rfl) (by kernel_rfl) (fun _ _ _ h => h) (Or.inl ⟨by rfl, ?_⟩) (by assumption) ?_; rotate_left; focus (intro w hSw; (try dsimp only at hSw); go_simp; try with_reducible rfl))
      (try simp only [List.getElem_toArray, List.getElem_cons_succ, List.getElem_cons_zero, Act.put, List.setIfInBounds_toArray, List.set_cons_zero, List.set_cons_succ])
      refine wpAnyH_ready (rs := [7]) (by kernel_rfl) (by simp) ?_
      refine AllReadyH.cons rfl (fun K hK => ?_) AllReadyH.nil
      go_simp
      refine hK.out _ _ (((e0.far bz).setTwo (k := W0.heap.size) (show W0.heap.size ≠ w.heap.size + 1 by omega) _ _).cells) (fun hHeld => ?_)
      clear hK K
      (try simp only [List.getElem_toArray, List.getElem_cons_succ, List.getElem_cons_zero, Act.put, List.setIfInBounds_toArray, List.set_cons_zero, List.set_cons_succ])
      refine wpAnyH_done (by kernel_rfl) ?_ _
      first | refine NoPanic.normal ?_ | skip
      have tw := tz.setSelf (.slice a5 o.length k5) (.string t)
      have fx : ∀ {B : Nat} {T : TypeId} {x : Value}, Box W0 B T x → B ≠ W0.heap.size → Box ((w5.setCell ⟨W0.heap.size, 0, none⟩ (.slice a5 o.length k5)).setCell ⟨W0.heap.size, 1, none⟩ (.string t)) B T x := fun h hne => ((h.far bz).setOther (a := ⟨W0.heap.size, 0, none⟩) (fun e => hne e.symm) _).setOther (a := ⟨W0.heap.size, 1, none⟩) (fun e => hne e.symm) _
      have ft := (e0.far bz).setTwo (k := W0.heap.size) (show W0.heap.size ≠ w.heap.size + 1 by omega) (.slice a5 o.length k5) (.string t)
      have fr : RowN 3 w.heap.size ((w5.setCell ⟨W0.heap.size, 0, none⟩ (.slice a5 o.length k5)).setCell ⟨W0.heap.size, 1, none⟩ (.string t)) a5 o.length (ints o) := (rz.keep (KeepN.of_set (p := ⟨W0.heap.size, 0, none⟩) _ (.inr ⟨50, _, by decide, tz⟩))).keep (KeepN.of_set (p := ⟨W0.heap.size, 1, none⟩) _ (.inr ⟨50, _, by decide, tz.set0 _⟩))
      have fb : Below w.heap.size w ((w5.setCell ⟨W0.heap.size, 0, none⟩ (.slice a5 o.length k5)).setCell ⟨W0.heap.size, 1, none⟩ (.string t)) := ((hb0.trans (bz.mono hb0.size)).setCell (p := ⟨W0.heap.size, 0, none⟩) (show w.heap.size ≤ W0.heap.size by omega) _).setCell (p := ⟨W0.heap.size, 1, none⟩) (show w.heap.size ≤ W0.heap.size by omega) _
      have fz : W0.heap.size < ((w5.setCell ⟨W0.heap.size, 0, none⟩ (.slice a5 o.length k5)).setCell ⟨W0.heap.size, 1, none⟩ (.string t)).heap.size := tw.lt
      go_wp2
      go_meet
      exact ⟨W0.heap.size, a5, k5, rfl, ⟨fx d0 (by omega), ft, fx r0 (by omega), fx o0 (by omega), tw, by omega, fz, Nat.le_refl _, fr, hk5, hm5, DictT.nil _ _ _, fb⟩⟩
  case rest =>
  obtain ⟨go, a, c, rfl, hP⟩ := hcut
  have HP := Lib.hid hP
  obtain ⟨H4, hH4⟩ : ∃ H4, H4 = wc.heap.size := ⟨_, rfl⟩
  rw [← hH4] at HP
  clear hH4 hP d0 e0 r0 o0 hE hzge hb0
  have cD := HP.out.dbox.cell
  go_wp2
  go_loopg [6, 8] (l.length) (fun n pv i wr => ∃ (k : Nat) (put : Bool) (v : Value) (l' : List EntD), n = l.length - k ∧ k ≤ l.length ∧ i = .int .i64 k ∧ pv = .bool put ∧ PutS w wr A l.length cap Ao co o t H4 go a c v l' ∧ l'.length ≤ k + (if put then 1 else 0) ∧ (put = true → 0 < l'.length) ∧ (∀ x ∈ l', x = (o, t) ∨ x ∈ l))
  case atStart => exact ⟨0, false, _, [], rfl, Nat.zero_le _, rfl, rfl, HP.out, by simp, (fun h => by cases h), (fun x hx => by cases hx)⟩
  case round =>
    clear HP cD
    obtain ⟨k, put, v, l', hgk, hk, rfl, rfl, hP, hlen, hpos, hmem⟩ := hrel
    have HP := Lib.hid hP
    have HMEM := Lib.hid hmem
    have HPOS := Lib.hid hpos
    have HLEN := Lib.hid hlen
    clear hP hmem hpos hlen
    have cD := HP.out.dbox.cell
    by_cases hlt : k < l.length
    · obtain ⟨b, off, rfl, hb0, hc0⟩ := (HR.out _ HP.out.bel) (by omega)
      obtain ⟨⟨q, x⟩, hx⟩ := some_at l hlt
      obtain ⟨aq, cq, c1, c2, rq, hq1, hq2⟩ := DictR.at_ hc0 hx
      have hql := (HS.out _ (List.mem_of_getElem? hx)).1
      simp only at hql
      have HX := Lib.hid hx
      have i0 : (0 : Int) ≤ (k : Int) := by omega
      have i1 : (k : Int) < (l.length : Int) := by omega
      obtain ⟨e1, e2⟩ := HP.out.ebox.cells
      have RQ := Lib.hid (fun (W' : World) (hb : Below w.heap.size w W') => show Reads W' W'.heap.size 1 aq q.length (ints q) from by
        obtain ⟨b2, off2, hA2, _, hc2⟩ := (HR.out _ hb) (by omega)
        injection hA2 with hA2
        injection hA2 with h1 h2 _
        subst h1 h2
        obtain ⟨aq2, cq2, d1, -, rq2, -, -⟩ := DictR.at_ hc2 HX.out
        have hcc : W'.cell? ⟨b, off + k * 2, none⟩ = wr.cell? ⟨b, off + k * 2, none⟩ := (hb.cell (p := ⟨b, off + k * 2, none⟩) hb0).trans (HP.out.bel.cell (p := ⟨b, off + k * 2, none⟩) hb0).symm
        rw [d1, c1] at hcc
        injection hcc with hcc
        injection hcc with hcc _ _
        subst hcc
        exact rq2.more hb.size)
      clear hx hc0 rq
      have hS7 : wr.cell? ⟨w.heap.size, 0, none⟩ = some (.slice (some ⟨b, off, none⟩) l.length cap) ∧ wr.cell? ⟨b, off + k * 2, none⟩ = some (.slice aq q.length cq) ∧ wr.cell? ⟨w.heap.size + 1, 0, none⟩ = some (.slice Ao o.length co) := ⟨cD, c1, e1⟩
      have hSD : wr.drew.cell? ⟨w.heap.size, 0, none⟩ = some (.slice (some ⟨b, off, none⟩) l.length cap) ∧ wr.drew.cell? ⟨b, off + k * 2, none⟩ = some (.slice aq q.length cq) ∧ wr.drew.cell? ⟨w.heap.size + 1, 0, none⟩ = some (.slice Ao o.length co) := hS7
      have HT2 := Lib.hid c2
      clear c1 c2 e1 e2
      go_wp2
      first | refine wp_region_noPanic ?_ | skip
      refine wp_region_held_drew (S := fun w' => w'.cell? ⟨w.heap.size, 0, none⟩ = some (.slice (some ⟨b, off, none⟩) l.length cap) ∧ w'.cell? ⟨b, off + k * 2, none⟩ = some (.slice aq q.length cq) ∧ w'.cell? ⟨w.heap.size + 1, 0, none⟩ = some (.slice Ao o.length co)) (by kernel_rfl) (by exact hSD) (fun hHeld => ?_)
      (refine wpAnyH_take (i := 0) (v := ?_) rfl (by kernel_rfl) (by kernel_rfl) (by kernel_rfl) (fun _ _ _ h => h) (Or.inl ⟨by rfl, ?_⟩) (by assumption) ?_; rotate_left; focus (intro w hSw; (try dsimp only at hSw); go_simp; try with_reducible rfl))
      (try simp only [List.getElem_toArray, List.getElem_cons_succ, List.getElem_cons_zero, Act.put, List.setIfInBounds_toArray, List.set_cons_zero, List.set_cons_succ])
      (refine wpAnyH_take (i := 1) (v := ?_) rfl (by kernel_rfl) (by kernel_rfl) (by kernel_rfl) (fun _ _ _ h => h) (Or.inl ⟨by rfl, ?_⟩) (by assumption) ?_; rotate_left; focus (intro w hSw; (try dsimp only at hSw); go_simp; try with_reducible rfl))
      (try simp only [List.getElem_toArray, List.getElem_cons_succ, List.getElem_cons_zero, Act.put, List.setIfInBounds_toArray, List.set_cons_zero, List.set_cons_succ])
      (refine wpAnyH_take (i := 2) (v := ?_) rfl (by kernel_rfl) (by kernel_rfl) (by kernel_rfl) (fun _ _ _ h => h) (Or.inl ⟨by rfl, ?_⟩) (by assumption) ?_; rotate_left; focus (intro w hSw; (try dsimp only at hSw); go_simp; try with_reducible rfl))
      (try simp only [List.getElem_toArray, List.getElem_cons_succ, List.getElem_cons_zero, Act.put, List.setIfInBounds_toArray, List.set_cons_zero, List.set_cons_succ])
      (refine wpAnyH_take (i := 3) (v := ?_) rfl (by kernel_rfl) (by kernel_rfl) (by kernel_rfl) (fun _ _ _ h => h) (Or.inl ⟨by rfl, ?_⟩) (by assumption) ?_; rotate_left; focus (intro w hSw; (try dsimp only at hSw); go_simp; try with_reducible rfl))
      (try simp only [List.getElem_toArray, List.getElem_cons_succ, List.getElem_cons_zero, Act.put, List.setIfInBounds_toArray, List.set_cons_zero, List.set_cons_succ])
      (refine wpAnyH_take (i := 4) (v := ?_) rfl (by kernel_rfl) (by kernel_rfl) (by kernel_rfl) (fun _ _ _ h => h) (Or.inl ⟨by rfl, ?_⟩) (by assumption) ?_; rotate_left; focus (intro w hSw; (try dsimp only at hSw); go_simp; try with_reducible rfl))
      (try simp only [List.getElem_toArray, List.getElem_cons_succ, List.getElem_cons_zero, Act.put, List.setIfInBounds_toArray, List.set_cons_zero, List.set_cons_succ])
      (refine wpAnyH_take (i := 5) (v := ?_) rfl (by kernel_rfl) (by kernel_rfl) (by kernel_rfl) (fun _ _ _ h => h) (Or.inl ⟨by rfl, ?_⟩) (by assumption) ?_; rotate_left; focus (intro w hSw; (try dsimp only at hSw); go_simp; try with_reducible rfl))
      (try simp only [List.getElem_toArray, List.getElem_cons_succ, List.getElem_cons_zero, Act.put, List.setIfInBounds_toArray, List.set_cons_zero, List.set_cons_succ])
      (refine wpAnyH_take (i := 6) (v := ?_) rfl (by kernel_rfl) (by kernel_rfl) (by kernel_rfl) (fun _ _ _ h => h) (Or.inl ⟨by rfl, ?_⟩) (by assumption) ?_; rotate_left; focus (intro w hSw; (try dsimp only at hSw); go_simp; try with_reducible rfl))
      (try simp only [List.getElem_toArray, List.getElem_cons_succ, List.getElem_cons_zero, Act.put, List.setIfInBounds_toArray, List.set_cons_zero, List.set_cons_succ])
      (refine wpAnyH_take (i := 7) (v := ?_) rfl (by kernel_rfl) (by kernel_rfl) (by kernel_rfl) (fun _ _ _ h => h) (Or.inl ⟨by rfl, ?_⟩) (by assumption) ?_; rotate_left; focus (intro w hSw; (try dsimp only at hSw); go_simp; try with_reducible rfl))
      (try simp only [List.getElem_toArray, List.getElem_cons_succ, List.getElem_cons_zero, Act.put, List.setIfInBounds_toArray, List.set_cons_zero, List.set_cons_succ])
      refine wpAnyH_ready (rs := [8]) (by kernel_rfl) (by simp) ?_
      refine AllReadyH.cons rfl (fun K hK => ?_) AllReadyH.nil
      go_simp
      refine (spec_l4Compare aq Ao cq co q o _ (RQ.out _ HP.out.bel.drew) (HO.out _ HP.out.bel.drew) hql hol).mono ?_
      rintro e w6 ⟨rfl, b6⟩
      have b6' : Below wr.heap.size wr w6 := (Below.refl wr.heap.size wr).drew.trans b6
      have HP6 := Lib.hid (HP.out.far b6')
      have hlo6 : b < wr.heap.size := by have := HP.out.bel.size; omega
      have hS6 : w6.cell? ⟨w.heap.size, 0, none⟩ = some (.slice (some ⟨b, off, none⟩) l.length cap) ∧ w6.cell? ⟨b, off + k * 2, none⟩ = some (.slice aq q.length cq) ∧ w6.cell? ⟨w.heap.size + 1, 0, none⟩ = some (.slice Ao o.length co) := ⟨HP6.out.dbox.cell, (b6'.cell (p := ⟨b, off + k * 2, none⟩) hlo6).trans hS7.2.1, HP6.out.ebox.cell0⟩
      have HT6 := Lib.hid ((b6'.cell (p := ⟨b, off + k * 2 + 1, none⟩) hlo6).trans HT2.out)
      refine hK.out _ _ (hS6) (fun hHeld => ?_)
      clear hK K
      (try simp only [List.getElem_toArray, List.getElem_cons_succ, List.getElem_cons_zero, Act.put, List.setIfInBounds_toArray, List.set_cons_zero, List.set_cons_succ])
      (refine wpAnyH_take (i := 9) (v := ?_) rfl (by kernel_rfl) (by kernel_rfl) (by kernel_rfl) (fun _ _ _ h => h) (Or.inl ⟨by rfl, ?_⟩) (by assumption) ?_; rotate_left; focus (intro w hSw; (try dsimp only at hSw); go_simp; try with_reducible rfl))
      (try simp only [List.getElem_toArray, List.getElem_cons_succ, List.getElem_cons_zero, Act.put, List.setIfInBounds_toArray, List.set_cons_zero, List.set_cons_succ])
      refine wpAnyH_done (by kernel_rfl) ?_ _
      first | refine NoPanic.normal ?_ | skip
      clear hHeld hS7 hSD
      have HS6 := Lib.hid hS6
      clear hS6 cD b6 b6'
      generalize cmpL q o = cm at *
      obtain ⟨bt, hbt⟩ : ∃ bt, bt = (decide (0 ≤ cm) && !put) := ⟨_, rfl⟩
      have HBT := Lib.hid hbt
      clear hbt
      go_upto_region 8 with fail
      go_cut [38] from 17 to 65 (fun x wx => x = .bool bt ∧ wx = w6)
      case first =>
        by_cases h0 : 0 ≤ cm
        · go_wp2
          go_meet
          exact ⟨by rw [HBT.out, decide_eq_true (by omega : (0 : Int) ≤ cm)]; cases put <;> rfl, rfl⟩
        · go_wp2
          go_meet
          exact ⟨by rw [HBT.out, decide_eq_false (by omega : ¬ (0 : Int) ≤ cm)]; cases put <;> rfl, rfl⟩
      case rest =>
      obtain ⟨rfl, hw6⟩ := hcut
      subst wc
      go_upto_if 38 with fail
      go_cut [6] from 17 to 65 (fun pv wx => ∃ (p2 : Bool) (v2 : Value) (l2 : List EntD), pv = .bool p2 ∧ PutS w wx (some ⟨b, off, none⟩) l.length cap Ao co o t H4 go a c v2 l2 ∧ l2.length ≤ k + (if p2 then 1 else 0) ∧ (p2 = true → 0 < l2.length) ∧ (∀ x ∈ l2, x = (o, t) ∨ x ∈ l) ∧ wx.cell? ⟨b, off + k * 2, none⟩ = some (.slice aq q.length cq) ∧ wx.cell? ⟨b, off + k * 2 + 1, none⟩ = some (.string x))
      case first =>
        cases hbt : bt
        · clear hbt
          go_wp2
          go_meet
          exact ⟨put, v, l', rfl, HP6.out, HLEN.out, HPOS.out, HMEM.out, HS6.out.2.1, HT6.out⟩
        · have hpf : put = false := by
            have hh := HBT.out
            rw [hbt] at hh
            cases put
            · rfl
            · simp at hh
          subst hpf
          clear hbt
          have hll : l'.length ≤ k := by have := HLEN.out; simpa using this
          obtain ⟨us, hul, own, rows⟩ := HP6.out.dict
          obtain ⟨Av, kv, hv, -, -, -⟩ := (Own.of_row own).slice
          subst hv
          have HU := Lib.hid hul
          have HRW := Lib.hid rows
          have cO := HP6.out.out.cell
          obtain ⟨cw0, cw1⟩ := HP6.out.own.cells
          have hz6 := HP6.out.sz
          clear hul rows
          have fO := HP6.out.out.free
          go_wp2_with (at_builtin; refine wpList_append_twoG own hz6 (.tmp 40) (.tmp 42) 29 Tryz.underlying29 info_entry (by omega) (by unfold maxLen; omega) ⟨rfl, rfl, rfl, rfl, rfl, rfl, rfl⟩ rfl ?_; intro v7 w7 own7 gr7; obtain ⟨A7, k7, hv7, -, -, -⟩ := (Own.of_row own7).slice; subst hv7; have PP := HP6.out.put HU.out own HRW.out (d := (o, t)) HP6.out.row HP6.out.rowc HP6.out.rowm own7 gr7; have cO7 := (HP6.out.out.grown gr7 (fun h => by have := (own.lt _ h).1; have := HP6.out.go4; have := HP6.out.goH; omega)).cell; have fO7 := (HP6.out.out.grown gr7 (fun h => by have := (own.lt _ h).1; have := HP6.out.go4; have := HP6.out.goH; omega)).free)
          go_meet
          have hlb : b < w.heap.size := hb0
          have keepc : ∀ j u, w6.cell? ⟨b, j, none⟩ = some u → (w7.setCell ⟨w.heap.size + 3, 0, none⟩ (.slice A7 (l'.length + 1) k7)).cell? ⟨b, j, none⟩ = some u := fun j u h => (World.cell?_setCell_other _ _ _ _ (fun e => absurd (congrArg Addr.block e) (show w.heap.size + 3 ≠ b by omega))).trans (gr7.cell h (fun e => by have := (own.lt b e.symm).1; have := HP6.out.go4; have := HP6.out.goH; omega))
          exact ⟨true, _, l' ++ [(o, t)], rfl, PP, by simp; omega, fun _ => by simp, fun y hy => by
            rcases List.mem_append.1 hy with h | h
            · exact HMEM.out y h
            · exact .inl (List.mem_singleton.1 h), keepc _ _ HS6.out.2.1, keepc _ _ HT6.out⟩
      case rest =>
      obtain ⟨p2, v2, l2, rfl, hP2, hlen2, hpos2, hmem2, c1, c2⟩ := hcut
      have HP2 := Lib.hid hP2
      have HM2 := Lib.hid hmem2
      have HL2 := Lib.hid hlen2
      have HPO2 := Lib.hid hpos2
      clear hP2 hmem2 hlen2 hpos2 HP6 HT6 HS6 HMEM HPOS HLEN HBT HP
      by_cases hc0 : cm = 0
      · subst hc0
        clear c1 c2
        go_wp2_with fail
        go_roundg (l.length - (k + 1))
        case measure => omega
        case rel => exact ⟨k + 1, p2, v2, l2, rfl, hlt, by go_num, rfl, HP2.out, by have := HL2.out; omega, HPO2.out, HM2.out⟩
      · have hcn : (cm != 0) = true := by simpa using hc0
        have cD := HP2.out.dbox.cell
        obtain ⟨us, hul, own, rows⟩ := HP2.out.dict
        obtain ⟨Av, kv, hv, -, -, -⟩ := (Own.of_row own).slice
        subst hv
        have HU := Lib.hid hul
        have HRW := Lib.hid rows
        have cO := HP2.out.out.cell
        have hl2k : l2.length ≤ k + 1 := by have := HL2.out; split at this <;> omega
        clear hul rows hc0
        have hlb : b < wc.heap.size := by have := HP2.out.bel.size; omega
        have hSA : wc.cell? ⟨w.heap.size, 0, none⟩ = some (.slice (some ⟨b, off, none⟩) l.length cap) ∧ wc.cell? ⟨b, off + k * 2, none⟩ = some (.slice aq q.length cq) ∧ wc.cell? ⟨b, off + k * 2 + 1, none⟩ = some (.string x) := ⟨cD, c1, c2⟩
        have hSB : wc.drew.cell? ⟨w.heap.size, 0, none⟩ = some (.slice (some ⟨b, off, none⟩) l.length cap) ∧ wc.drew.cell? ⟨b, off + k * 2, none⟩ = some (.slice aq q.length cq) ∧ wc.drew.cell? ⟨b, off + k * 2 + 1, none⟩ = some (.string x) := hSA
        have HCO := Lib.hid cO
        clear cD cO c1 c2
        go_wp2
        first | refine wp_region_noPanic ?_ | skip
        refine wp_region_held_drew (S := fun w' => w'.cell? ⟨w.heap.size, 0, none⟩ = some (.slice (some ⟨b, off, none⟩) l.length cap) ∧ w'.cell? ⟨b, off + k * 2, none⟩ = some (.slice aq q.length cq) ∧ w'.cell? ⟨b, off + k * 2 + 1, none⟩ = some (.string x)) (by kernel_rfl) (by exact hSB) (fun hHeld => ?_)
        (refine wpAnyH_take (i := 0) (v := ?_) rfl (by kernel_rfl) (by kernel_rfl) (by kernel_rfl) (fun _ _ _ h => h) (Or.inl ⟨by rfl, ?_⟩) (by assumption) ?_; rotate_left; focus (intro w hSw; (try dsimp only at hSw); go_simp; try with_reducible rfl))
        (try simp only [List.getElem_toArray, List.getElem_cons_succ, List.getElem_cons_zero, Act.put, List.setIfInBounds_toArray, List.set_cons_zero, List.set_cons_succ])
        (refine wpAnyH_take (i := 2) (v := ?_) rfl (by kernel_rfl) (by kernel_rfl) (by kernel_rfl) (fun _ _ _ h => h) (Or.inl ⟨by rfl, ?_⟩) (by assumption) ?_; rotate_left; focus (intro w hSw; (try dsimp only at hSw); go_simp; try with_reducible rfl))
        (try simp only [List.getElem_toArray, List.getElem_cons_succ, List.getElem_cons_zero, Act.put, List.setIfInBounds_toArray, List.set_cons_zero, List.set_cons_succ])
        (refine wpAnyH_take (i := 3) (v := ?_) rfl (by kernel_rfl) (by kernel_rfl) (by kernel_rfl) (fun _ _ _ h => h) (Or.inl ⟨by rfl, ?_⟩) (by assumption) ?_; rotate_left; focus (intro w hSw; (try dsimp only at hSw); go_simp; try with_reducible rfl))
        (try simp only [List.getElem_toArray, List.getElem_cons_succ, List.getElem_cons_zero, Act.put, List.setIfInBounds_toArray, List.set_cons_zero, List.set_cons_succ])
        (refine wpAnyH_take (i := 4) (v := ?_) rfl (by kernel_rfl) (by kernel_rfl) (by kernel_rfl) (fun _ _ _ h => h) (Or.inl ⟨by rfl, ?_⟩) (by assumption) ?_; rotate_left; focus (intro w hSw; (try dsimp only at hSw); go_simp; try with_reducible rfl))
        (try simp only [List.getElem_toArray, List.getElem_cons_succ, List.getElem_cons_zero, Act.put, List.setIfInBounds_toArray, List.set_cons_zero, List.set_cons_succ])
        (refine wpAnyH_take (i := 5) (v := ?_) rfl (by kernel_rfl) (by kernel_rfl) (by kernel_rfl) (fun _ _ _ h => h) (Or.inl ⟨by rfl, ?_⟩) (by assumption) ?_; rotate_left; focus (intro w hSw; (try dsimp only at hSw); go_simp; try with_reducible rfl))
        (try simp only [List.getElem_toArray, List.getElem_cons_succ, List.getElem_cons_zero, Act.put, List.setIfInBounds_toArray, List.set_cons_zero, List.set_cons_succ])
        (refine wpAnyH_take (i := 6) (v := ?_) rfl (by kernel_rfl) (by kernel_rfl) (by kernel_rfl) (fun _ _ _ h => h) (Or.inl ⟨by rfl, ?_⟩) (by assumption) ?_; rotate_left; focus (intro w hSw; (try dsimp only at hSw); go_simp; try with_reducible rfl))
        (try simp only [List.getElem_toArray, List.getElem_cons_succ, List.getElem_cons_zero, Act.put, List.setIfInBounds_toArray, List.set_cons_zero, List.set_cons_succ])
        (refine wpAnyH_take (i := 7) (v := ?_) rfl (by kernel_rfl) (by kernel_rfl) (by kernel_rfl) (fun _ _ _ h => h) (Or.inl ⟨by rfl, ?_⟩) (by assumption) ?_; rotate_left; focus (intro w hSw; (try dsimp only at hSw); go_simp; try with_reducible rfl))
        (try simp only [List.getElem_toArray, List.getElem_cons_succ, List.getElem_cons_zero, Act.put, List.setIfInBounds_toArray, List.set_cons_zero, List.set_cons_succ])
        (refine wpAnyH_take (i := 9) (v := ?_) rfl (by kernel_rfl) (by kernel_rfl) (by kernel_rfl) (fun _ _ _ h => h) (Or.inl ⟨by rfl, ?_⟩) (by assumption) ?_; rotate_left; focus (intro w hSw; (try dsimp only at hSw); go_simp; try with_reducible rfl))
        (try simp only [List.getElem_toArray, List.getElem_cons_succ, List.getElem_cons_zero, Act.put, List.setIfInBounds_toArray, List.set_cons_zero, List.set_cons_succ])
        (refine wpAnyH_take (i := 10) (v := ?_) rfl (by kernel_rfl) (by kernel_rfl) (by kernel_rfl) (fun _ _ _ h => h) (Or.inl ⟨by rfl, ?_⟩) (by assumption) ?_; rotate_left; focus (intro w hSw; (try dsimp only at hSw); go_simp; try with_reducible rfl))
        (try simp only [List.getElem_toArray, List.getElem_cons_succ, List.getElem_cons_zero, Act.put, List.setIfInBounds_toArray, List.set_cons_zero, List.set_cons_succ])
        (refine wpAnyH_take (i := 11) (v := ?_) rfl (by kernel_rfl) (by kernel_rfl) (by kernel_rfl) (fun _ _ _ h => h) (Or.inl ⟨by rfl, ?_⟩) (by assumption) ?_; rotate_left; focus (intro w hSw; (try dsimp only at hSw); go_simp; try with_reducible rfl))
        (try simp only [List.getElem_toArray, List.getElem_cons_succ, List.getElem_cons_zero, Act.put, List.setIfInBounds_toArray, List.set_cons_zero, List.set_cons_succ])
        (refine wpAnyH_take (i := 12) (v := ?_) rfl (by kernel_rfl) (by kernel_rfl) (by kernel_rfl) (fun _ _ _ h => h) (Or.inl ⟨by rfl, ?_⟩) (by assumption) ?_; rotate_left; focus (intro w hSw; (try dsimp only at hSw); go_simp; try with_reducible rfl))
        (try simp only [List.getElem_toArray, List.getElem_cons_succ, List.getElem_cons_zero, Act.put, List.setIfInBounds_toArray, List.set_cons_zero, List.set_cons_succ])
        (refine wpAnyH_take (i := 13) (v := ?_) rfl (by kernel_rfl) (by kernel_rfl) (by kernel_rfl) (fun _ _ _ h => h) (Or.inl ⟨by rfl, ?_⟩) (by assumption) ?_; rotate_left; focus (intro w hSw; (try dsimp only at hSw); go_simp; try with_reducible rfl))
        (try simp only [List.getElem_toArray, List.getElem_cons_succ, List.getElem_cons_zero, Act.put, List.setIfInBounds_toArray, List.set_cons_zero, List.set_cons_succ])
        (refine wpAnyH_take (i := 14) (v := ?_) rfl (by kernel_rfl) (by kernel_rfl) (by kernel_rfl) (fun _ _ _ h => h) (Or.inl ⟨by rfl, ?_⟩) (by assumption) ?_; rotate_left; focus (intro w hSw; (try dsimp only at hSw); go_simp; try with_reducible rfl))
        (try simp only [List.getElem_toArray, List.getElem_cons_succ, List.getElem_cons_zero, Act.put, List.setIfInBounds_toArray, List.set_cons_zero, List.set_cons_succ])
        refine wpAnyH_ready (rs := [1, 8]) (by kernel_rfl) (by simp) ?_
        refine AllReadyH.cons rfl (fun K hK => ?_) (AllReadyH.cons rfl (fun K hK => ?_) AllReadyH.nil)
        · have cOD : wc.drew.cell? ⟨w.heap.size + 3, 0, none⟩ = some (.slice Av l2.length kv) := HCO.out
          go_simp
          refine hK.out _ _ (hSB) (fun hHeld => ?_)
          clear hK K
          (try simp only [List.getElem_toArray, List.getElem_cons_succ, List.getElem_cons_zero, Act.put, List.setIfInBounds_toArray, List.set_cons_zero, List.set_cons_succ])
          clear cOD
          refine wpAnyH_ready (rs := [8]) (by kernel_rfl) (by simp) ?_
          refine AllReadyH.cons rfl (fun K hK => ?_) AllReadyH.nil
          go_simp
          refine (spec_l1Own aq cq q _ (RQ.out _ HP2.out.bel.drew) hql).mono ?_
          rintro e w8 ⟨v8, rfl, ow8, b8⟩
          obtain ⟨a8, k8, rfl, -, hk8, hm8⟩ := (Own.of_row ow8).slice
          have b8' : Below wc.heap.size wc w8 := (Below.refl wc.heap.size wc).drew.trans b8
          have hS8 : w8.cell? ⟨w.heap.size, 0, none⟩ = some (.slice (some ⟨b, off, none⟩) l.length cap) ∧ w8.cell? ⟨b, off + k * 2, none⟩ = some (.slice aq q.length cq) ∧ w8.cell? ⟨b, off + k * 2 + 1, none⟩ = some (.string x) := ⟨(HP2.out.dbox.far b8').cell, (b8'.cell (p := ⟨b, off + k * 2, none⟩) hlb).trans hSA.2.1, (b8'.cell (p := ⟨b, off + k * 2 + 1, none⟩) hlb).trans hSA.2.2⟩
          have HP8 := Lib.hid (HP2.out.far b8')
          have r8 : RowN 3 w.heap.size w8 a8 q.length (ints q) := RowN.of_own ow8 (by have := HP2.out.bel.size; have : wc.drew.heap.size = wc.heap.size := rfl; omega)
          refine hK.out _ _ (hS8) (fun hHeld => ?_)
          clear hK K
          (try simp only [List.getElem_toArray, List.getElem_cons_succ, List.getElem_cons_zero, Act.put, List.setIfInBounds_toArray, List.set_cons_zero, List.set_cons_succ])
          (refine wpAnyH_take (i := 15) (v := ?_) rfl (by kernel_rfl) (by kernel_rfl) (by kernel_rfl) (fun _ _ _ h => h) (Or.inl ⟨by rfl, ?_⟩) (by assumption) ?_; rotate_left; focus (intro w hSw; (try dsimp only at hSw); go_simp; try with_reducible rfl))
          (try simp only [List.getElem_toArray, List.getElem_cons_succ, List.getElem_cons_zero, Act.put, List.setIfInBounds_toArray, List.set_cons_zero, List.set_cons_succ])
          refine wpAnyH_ready (rs := [16]) (by kernel_rfl) (by simp) ?_
          refine AllReadyH.cons rfl (fun K hK => ?_) AllReadyH.nil
          go_simp
          have HP9 := Lib.hid (HP8.out.alloc (.cells #[.slice a8 q.length k8, .string x] 50))
          have own9 := (row_below own b8').alloc (.cells #[.slice a8 q.length k8, .string x] 50)
          have r9 := r8.keep (KeepN.alloc w8 (.cells #[.slice a8 q.length k8, .string x] 50))
          have rows9 := Lib.hid (show ∀ (j : Nat) u c, us[j]? = some u → l2[j]? = some c → ∃ (A : Option Addr) (cap : Nat), u = .slice A c.1.length cap ∧ RowN 3 w.heap.size (w8.alloc (.cells #[.slice a8 q.length k8, .string x] 50)) A c.1.length (ints c.1) ∧ c.1.length ≤ cap ∧ cap ≤ maxLen from fun j u c' hu hc' => by obtain ⟨y1, y2, y3, y4, y5⟩ := HRW.out j u c' hu hc'; exact ⟨y1, y2, y3, (y4.keep (KeepN.of_below b8')).keep (KeepN.alloc _ _), y5⟩)
          have nw9 : ∀ j u, [Value.slice a8 q.length k8, .string x][j]? = some u → (w8.alloc (.cells #[.slice a8 q.length k8, .string x] 50)).cell? ⟨w8.heap.size, j, none⟩ = some u := fun j u hj => new_here hj
          have hS9 : (w8.alloc (.cells #[.slice a8 q.length k8, .string x] 50)).cell? ⟨w.heap.size, 0, none⟩ = some (.slice (some ⟨b, off, none⟩) l.length cap) ∧ (w8.alloc (.cells #[.slice a8 q.length k8, .string x] 50)).cell? ⟨b, off + k * 2, none⟩ = some (.slice aq q.length cq) ∧ (w8.alloc (.cells #[.slice a8 q.length k8, .string x] 50)).cell? ⟨b, off + k * 2 + 1, none⟩ = some (.string x) := ⟨HP9.out.dbox.cell, (World.cell?_alloc_lt _ _ _ (by have := b8'.size; show b < _; omega)).trans hS8.2.1, (World.cell?_alloc_lt _ _ _ (by have := b8'.size; show b < _; omega)).trans hS8.2.2⟩
          refine hK.out _ _ (hS9) (fun hHeld => ?_)
          clear hK K
          (try simp only [List.getElem_toArray, List.getElem_cons_succ, List.getElem_cons_zero, Act.put, List.setIfInBounds_toArray, List.set_cons_zero, List.set_cons_succ])
          refine wpAnyH_ready (rs := [17]) (by kernel_rfl) (by simp) ?_
          refine AllReadyH.cons rfl (fun K hK => ?_) AllReadyH.nil
          refine step_append_own own9 HP9.out.sz (.tmp 48) (.tmp 63) 29 Tryz.underlying29 info_entry (by omega) (by unfold maxLen; omega) nw9 (fun y hy => by simp only [List.mem_cons, List.not_mem_nil, or_false] at hy; rcases hy with rfl | rfl <;> rfl) ⟨rfl, rfl, rfl, rfl, rfl, rfl, by decide⟩ ?_
          intro v10 w10 own10 gr10 _
          obtain ⟨A10, k10, hv10, -, -, -⟩ := (Own.of_row own10).slice
          subst hv10
          have neb : ∀ g, g < H4 → (Value.slice Av l2.length kv).ownBlock ≠ some g := fun g hg e => by have := (own9.lt g e).1; omega
          have HG := HP9.out.goH
          have HG4 := HP9.out.go4
          have hS10 : w10.cell? ⟨w.heap.size, 0, none⟩ = some (.slice (some ⟨b, off, none⟩) l.length cap) ∧ w10.cell? ⟨b, off + k * 2, none⟩ = some (.slice aq q.length cq) ∧ w10.cell? ⟨b, off + k * 2 + 1, none⟩ = some (.string x) := ⟨gr10.cell hS9.1 (fun e => neb _ (by show w.heap.size < H4; omega) e.symm), gr10.cell hS9.2.1 (fun e => neb _ (by show b < H4; omega) e.symm), gr10.cell hS9.2.2 (fun e => neb _ (by show b < H4; omega) e.symm)⟩
          have cO10 := (HP9.out.out.grown gr10 (neb _ (by omega))).cell
          have fO10 := (HP9.out.out.grown gr10 (neb _ (by omega))).free
          refine hK.out _ _ (hS10) (fun hHeld => ?_)
          clear hK K
          (try simp only [List.getElem_toArray, List.getElem_cons_succ, List.getElem_cons_zero, Act.put, List.setIfInBounds_toArray, List.set_cons_zero, List.set_cons_succ])
          (refine wpAnyH_take (i := 18) (v := ?_) rfl (by kernel_rfl) (by kernel_rfl) (by kernel_rfl) (fun _ _ _ h => h) (Or.inl ⟨by rfl, ?_⟩) (by assumption) ?_; rotate_left; focus (intro w hSw; (try dsimp only at hSw); go_simp; try with_reducible rfl))
          (try simp only [List.getElem_toArray, List.getElem_cons_succ, List.getElem_cons_zero, Act.put, List.setIfInBounds_toArray, List.set_cons_zero, List.set_cons_succ])
          refine wpAnyH_ready (rs := [19]) (by kernel_rfl) (by simp) ?_
          refine AllReadyH.cons rfl (fun K hK => ?_) AllReadyH.nil
          go_simp
          have PP := Lib.hid (HP9.out.put HU.out own9 rows9.out (d := (q, x)) r9 hk8 hm8 own10 gr10)
          refine hK.out _ _ (⟨(World.cell?_setCell_other _ _ _ _ (fun e => absurd (congrArg Addr.block e) (show w.heap.size + 3 ≠ w.heap.size by omega))).trans hS10.1, (World.cell?_setCell_other _ _ _ _ (fun e => absurd (congrArg Addr.block e) (show w.heap.size + 3 ≠ b by omega))).trans hS10.2.1, (World.cell?_setCell_other _ _ _ _ (fun e => absurd (congrArg Addr.block e) (show w.heap.size + 3 ≠ b by omega))).trans hS10.2.2⟩) (fun hHeld => ?_)
          clear hK K
          (try simp only [List.getElem_toArray, List.getElem_cons_succ, List.getElem_cons_zero, Act.put, List.setIfInBounds_toArray, List.set_cons_zero, List.set_cons_succ])
          refine wpAnyH_done (by kernel_rfl) ?_ _
          first | refine NoPanic.normal ?_ | skip
          clear hHeld cO10 fO10
          go_wp2_with fail
          go_roundg (l.length - (k + 1))
          case measure => omega
          case rel =>
            refine ⟨k + 1, p2, _, l2 ++ [(q, x)], rfl, hlt, by go_num, rfl, PP.out, by have := HL2.out; simp; omega, fun _ => by simp, fun y hy => ?_⟩
            rcases List.mem_append.1 hy with h | h
            · exact HM2.out y h
            · rw [List.mem_singleton.1 h]; exact .inr (List.mem_of_getElem? HX.out)
        · go_simp
          refine (spec_l1Own aq cq q _ (RQ.out _ HP2.out.bel.drew) hql).mono ?_
          rintro e w8 ⟨v8, rfl, ow8, b8⟩
          obtain ⟨a8, k8, rfl, -, hk8, hm8⟩ := (Own.of_row ow8).slice
          have b8' : Below wc.heap.size wc w8 := (Below.refl wc.heap.size wc).drew.trans b8
          have hS8 : w8.cell? ⟨w.heap.size, 0, none⟩ = some (.slice (some ⟨b, off, none⟩) l.length cap) ∧ w8.cell? ⟨b, off + k * 2, none⟩ = some (.slice aq q.length cq) ∧ w8.cell? ⟨b, off + k * 2 + 1, none⟩ = some (.string x) := ⟨(HP2.out.dbox.far b8').cell, (b8'.cell (p := ⟨b, off + k * 2, none⟩) hlb).trans hSA.2.1, (b8'.cell (p := ⟨b, off + k * 2 + 1, none⟩) hlb).trans hSA.2.2⟩
          have HP8 := Lib.hid (HP2.out.far b8')
          have r8 : RowN 3 w.heap.size w8 a8 q.length (ints q) := RowN.of_own ow8 (by have := HP2.out.bel.size; have : wc.drew.heap.size = wc.heap.size := rfl; omega)
          refine hK.out _ _ (hS8) (fun hHeld => ?_)
          clear hK K
          (try simp only [List.getElem_toArray, List.getElem_cons_succ, List.getElem_cons_zero, Act.put, List.setIfInBounds_toArray, List.set_cons_zero, List.set_cons_succ])
          (refine wpAnyH_take (i := 15) (v := ?_) rfl (by kernel_rfl) (by kernel_rfl) (by kernel_rfl) (fun _ _ _ h => h) (Or.inl ⟨by rfl, ?_⟩) (by assumption) ?_; rotate_left; focus (intro w hSw; (try dsimp only at hSw); go_simp; try with_reducible rfl))
          (try simp only [List.getElem_toArray, List.getElem_cons_succ, List.getElem_cons_zero, Act.put, List.setIfInBounds_toArray, List.set_cons_zero, List.set_cons_succ])
          refine wpAnyH_ready (rs := [1, 16]) (by kernel_rfl) (by simp) ?_
          refine AllReadyH.cons rfl (fun K hK => ?_) (AllReadyH.cons rfl (fun K hK => ?_) AllReadyH.nil)
          · have cO8 := HP8.out.out.cell
            go_simp
            refine hK.out _ _ (hS8) (fun hHeld => ?_)
            clear hK K
            (try simp only [List.getElem_toArray, List.getElem_cons_succ, List.getElem_cons_zero, Act.put, List.setIfInBounds_toArray, List.set_cons_zero, List.set_cons_succ])
            clear cO8
            refine wpAnyH_ready (rs := [16]) (by kernel_rfl) (by simp) ?_
            refine AllReadyH.cons rfl (fun K hK => ?_) AllReadyH.nil
            go_simp
            have HP9 := Lib.hid (HP8.out.alloc (.cells #[.slice a8 q.length k8, .string x] 50))
            have own9 := (row_below own b8').alloc (.cells #[.slice a8 q.length k8, .string x] 50)
            have r9 := r8.keep (KeepN.alloc w8 (.cells #[.slice a8 q.length k8, .string x] 50))
            have rows9 := Lib.hid (show ∀ (j : Nat) u c, us[j]? = some u → l2[j]? = some c → ∃ (A : Option Addr) (cap : Nat), u = .slice A c.1.length cap ∧ RowN 3 w.heap.size (w8.alloc (.cells #[.slice a8 q.length k8, .string x] 50)) A c.1.length (ints c.1) ∧ c.1.length ≤ cap ∧ cap ≤ maxLen from fun j u c' hu hc' => by obtain ⟨y1, y2, y3, y4, y5⟩ := HRW.out j u c' hu hc'; exact ⟨y1, y2, y3, (y4.keep (KeepN.of_below b8')).keep (KeepN.alloc _ _), y5⟩)
            have nw9 : ∀ j u, [Value.slice a8 q.length k8, .string x][j]? = some u → (w8.alloc (.cells #[.slice a8 q.length k8, .string x] 50)).cell? ⟨w8.heap.size, j, none⟩ = some u := fun j u hj => new_here hj
            have hS9 : (w8.alloc (.cells #[.slice a8 q.length k8, .string x] 50)).cell? ⟨w.heap.size, 0, none⟩ = some (.slice (some ⟨b, off, none⟩) l.length cap) ∧ (w8.alloc (.cells #[.slice a8 q.length k8, .string x] 50)).cell? ⟨b, off + k * 2, none⟩ = some (.slice aq q.length cq) ∧ (w8.alloc (.cells #[.slice a8 q.length k8, .string x] 50)).cell? ⟨b, off + k * 2 + 1, none⟩ = some (.string x) := ⟨HP9.out.dbox.cell, (World.cell?_alloc_lt _ _ _ (by have := b8'.size; show b < _; omega)).trans hS8.2.1, (World.cell?_alloc_lt _ _ _ (by have := b8'.size; show b < _; omega)).trans hS8.2.2⟩
            refine hK.out _ _ (hS9) (fun hHeld => ?_)
            clear hK K
            (try simp only [List.getElem_toArray, List.getElem_cons_succ, List.getElem_cons_zero, Act.put, List.setIfInBounds_toArray, List.set_cons_zero, List.set_cons_succ])
            refine wpAnyH_ready (rs := [17]) (by kernel_rfl) (by simp) ?_
            refine AllReadyH.cons rfl (fun K hK => ?_) AllReadyH.nil
            refine step_append_own own9 HP9.out.sz (.tmp 48) (.tmp 63) 29 Tryz.underlying29 info_entry (by omega) (by unfold maxLen; omega) nw9 (fun y hy => by simp only [List.mem_cons, List.not_mem_nil, or_false] at hy; rcases hy with rfl | rfl <;> rfl) ⟨rfl, rfl, rfl, rfl, rfl, rfl, by decide⟩ ?_
            intro v10 w10 own10 gr10 _
            obtain ⟨A10, k10, hv10, -, -, -⟩ := (Own.of_row own10).slice
            subst hv10
            have neb : ∀ g, g < H4 → (Value.slice Av l2.length kv).ownBlock ≠ some g := fun g hg e => by have := (own9.lt g e).1; omega
            have HG := HP9.out.goH
            have HG4 := HP9.out.go4
            have hS10 : w10.cell? ⟨w.heap.size, 0, none⟩ = some (.slice (some ⟨b, off, none⟩) l.length cap) ∧ w10.cell? ⟨b, off + k * 2, none⟩ = some (.slice aq q.length cq) ∧ w10.cell? ⟨b, off + k * 2 + 1, none⟩ = some (.string x) := ⟨gr10.cell hS9.1 (fun e => neb _ (by show w.heap.size < H4; omega) e.symm), gr10.cell hS9.2.1 (fun e => neb _ (by show b < H4; omega) e.symm), gr10.cell hS9.2.2 (fun e => neb _ (by show b < H4; omega) e.symm)⟩
            have cO10 := (HP9.out.out.grown gr10 (neb _ (by omega))).cell
            have fO10 := (HP9.out.out.grown gr10 (neb _ (by omega))).free
            refine hK.out _ _ (hS10) (fun hHeld => ?_)
            clear hK K
            (try simp only [List.getElem_toArray, List.getElem_cons_succ, List.getElem_cons_zero, Act.put, List.setIfInBounds_toArray, List.set_cons_zero, List.set_cons_succ])
            (refine wpAnyH_take (i := 18) (v := ?_) rfl (by kernel_rfl) (by kernel_rfl) (by kernel_rfl) (fun _ _ _ h => h) (Or.inl ⟨by rfl, ?_⟩) (by assumption) ?_; rotate_left; focus (intro w hSw; (try dsimp only at hSw); go_simp; try with_reducible rfl))
            (try simp only [List.getElem_toArray, List.getElem_cons_succ, List.getElem_cons_zero, Act.put, List.setIfInBounds_toArray, List.set_cons_zero, List.set_cons_succ])
            refine wpAnyH_ready (rs := [19]) (by kernel_rfl) (by simp) ?_
            refine AllReadyH.cons rfl (fun K hK => ?_) AllReadyH.nil
            go_simp
            have PP := Lib.hid (HP9.out.put HU.out own9 rows9.out (d := (q, x)) r9 hk8 hm8 own10 gr10)
            refine hK.out _ _ (⟨(World.cell?_setCell_other _ _ _ _ (fun e => absurd (congrArg Addr.block e) (show w.heap.size + 3 ≠ w.heap.size by omega))).trans hS10.1, (World.cell?_setCell_other _ _ _ _ (fun e => absurd (congrArg Addr.block e) (show w.heap.size + 3 ≠ b by omega))).trans hS10.2.1, (World.cell?_setCell_other _ _ _ _ (fun e => absurd (congrArg Addr.block e) (show w.heap.size + 3 ≠ b by omega))).trans hS10.2.2⟩) (fun hHeld => ?_)
            clear hK K
            (try simp only [List.getElem_toArray, List.getElem_cons_succ, List.getElem_cons_zero, Act.put, List.setIfInBounds_toArray, List.set_cons_zero, List.set_cons_succ])
            refine wpAnyH_done (by kernel_rfl) ?_ _
            first | refine NoPanic.normal ?_ | skip
            clear hHeld cO10 fO10
            go_wp2_with fail
            go_roundg (l.length - (k + 1))
            case measure => omega
            case rel =>
              refine ⟨k + 1, p2, _, l2 ++ [(q, x)], rfl, hlt, by go_num, rfl, PP.out, by have := HL2.out; simp; omega, fun _ => by simp, fun y hy => ?_⟩
              rcases List.mem_append.1 hy with h | h
              · exact HM2.out y h
              · rw [List.mem_singleton.1 h]; exact .inr (List.mem_of_getElem? HX.out)
          · go_simp
            have HP9 := Lib.hid (HP8.out.alloc (.cells #[.slice a8 q.length k8, .string x] 50))
            have own9 := (row_below own b8').alloc (.cells #[.slice a8 q.length k8, .string x] 50)
            have r9 := r8.keep (KeepN.alloc w8 (.cells #[.slice a8 q.length k8, .string x] 50))
            have rows9 := Lib.hid (show ∀ (j : Nat) u c, us[j]? = some u → l2[j]? = some c → ∃ (A : Option Addr) (cap : Nat), u = .slice A c.1.length cap ∧ RowN 3 w.heap.size (w8.alloc (.cells #[.slice a8 q.length k8, .string x] 50)) A c.1.length (ints c.1) ∧ c.1.length ≤ cap ∧ cap ≤ maxLen from fun j u c' hu hc' => by obtain ⟨y1, y2, y3, y4, y5⟩ := HRW.out j u c' hu hc'; exact ⟨y1, y2, y3, (y4.keep (KeepN.of_below b8')).keep (KeepN.alloc _ _), y5⟩)
            have nw9 : ∀ j u, [Value.slice a8 q.length k8, .string x][j]? = some u → (w8.alloc (.cells #[.slice a8 q.length k8, .string x] 50)).cell? ⟨w8.heap.size, j, none⟩ = some u := fun j u hj => new_here hj
            have hS9 : (w8.alloc (.cells #[.slice a8 q.length k8, .string x] 50)).cell? ⟨w.heap.size, 0, none⟩ = some (.slice (some ⟨b, off, none⟩) l.length cap) ∧ (w8.alloc (.cells #[.slice a8 q.length k8, .string x] 50)).cell? ⟨b, off + k * 2, none⟩ = some (.slice aq q.length cq) ∧ (w8.alloc (.cells #[.slice a8 q.length k8, .string x] 50)).cell? ⟨b, off + k * 2 + 1, none⟩ = some (.string x) := ⟨HP9.out.dbox.cell, (World.cell?_alloc_lt _ _ _ (by have := b8'.size; show b < _; omega)).trans hS8.2.1, (World.cell?_alloc_lt _ _ _ (by have := b8'.size; show b < _; omega)).trans hS8.2.2⟩
            refine hK.out _ _ (hS9) (fun hHeld => ?_)
            clear hK K
            (try simp only [List.getElem_toArray, List.getElem_cons_succ, List.getElem_cons_zero, Act.put, List.setIfInBounds_toArray, List.set_cons_zero, List.set_cons_succ])
            refine wpAnyH_ready (rs := [1]) (by kernel_rfl) (by simp) ?_
            refine AllReadyH.cons rfl (fun K hK => ?_) AllReadyH.nil
            have cO9 := HP9.out.out.cell
            go_simp
            refine hK.out _ _ (hS9) (fun hHeld => ?_)
            clear hK K
            (try simp only [List.getElem_toArray, List.getElem_cons_succ, List.getElem_cons_zero, Act.put, List.setIfInBounds_toArray, List.set_cons_zero, List.set_cons_succ])
            clear cO9
            refine wpAnyH_ready (rs := [17]) (by kernel_rfl) (by simp) ?_
            refine AllReadyH.cons rfl (fun K hK => ?_) AllReadyH.nil
            refine step_append_own own9 HP9.out.sz (.tmp 48) (.tmp 63) 29 Tryz.underlying29 info_entry (by omega) (by unfold maxLen; omega) nw9 (fun y hy => by simp only [List.mem_cons, List.not_mem_nil, or_false] at hy; rcases hy with rfl | rfl <;> rfl) ⟨rfl, rfl, rfl, rfl, rfl, rfl, by decide⟩ ?_
            intro v10 w10 own10 gr10 _
            obtain ⟨A10, k10, hv10, -, -, -⟩ := (Own.of_row own10).slice
            subst hv10
            have neb : ∀ g, g < H4 → (Value.slice Av l2.length kv).ownBlock ≠ some g := fun g hg e => by have := (own9.lt g e).1; omega
            have HG := HP9.out.goH
            have HG4 := HP9.out.go4
            have hS10 : w10.cell? ⟨w.heap.size, 0, none⟩ = some (.slice (some ⟨b, off, none⟩) l.length cap) ∧ w10.cell? ⟨b, off + k * 2, none⟩ = some (.slice aq q.length cq) ∧ w10.cell? ⟨b, off + k * 2 + 1, none⟩ = some (.string x) := ⟨gr10.cell hS9.1 (fun e => neb _ (by show w.heap.size < H4; omega) e.symm), gr10.cell hS9.2.1 (fun e => neb _ (by show b < H4; omega) e.symm), gr10.cell hS9.2.2 (fun e => neb _ (by show b < H4; omega) e.symm)⟩
            have cO10 := (HP9.out.out.grown gr10 (neb _ (by omega))).cell
            have fO10 := (HP9.out.out.grown gr10 (neb _ (by omega))).free
            refine hK.out _ _ (hS10) (fun hHeld => ?_)
            clear hK K
            (try simp only [List.getElem_toArray, List.getElem_cons_succ, List.getElem_cons_zero, Act.put, List.setIfInBounds_toArray, List.set_cons_zero, List.set_cons_succ])
            (refine wpAnyH_take (i := 18) (v := ?_) rfl (by kernel_rfl) (by kernel_rfl) (by kernel_rfl) (fun _ _ _ h => h) (Or.inl ⟨by rfl, ?_⟩) (by assumption) ?_; rotate_left; focus (intro w hSw; (try dsimp only at hSw); go_simp; try with_reducible rfl))
            (try simp only [List.getElem_toArray, List.getElem_cons_succ, List.getElem_cons_zero, Act.put, List.setIfInBounds_toArray, List.set_cons_zero, List.set_cons_succ])
            refine wpAnyH_ready (rs := [19]) (by kernel_rfl) (by simp) ?_
            refine AllReadyH.cons rfl (fun K hK => ?_) AllReadyH.nil
            go_simp
            have PP := Lib.hid (HP9.out.put HU.out own9 rows9.out (d := (q, x)) r9 hk8 hm8 own10 gr10)
            refine hK.out _ _ (⟨(World.cell?_setCell_other _ _ _ _ (fun e => absurd (congrArg Addr.block e) (show w.heap.size + 3 ≠ w.heap.size by omega))).trans hS10.1, (World.cell?_setCell_other _ _ _ _ (fun e => absurd (congrArg Addr.block e) (show w.heap.size + 3 ≠ b by omega))).trans hS10.2.1, (World.cell?_setCell_other _ _ _ _ (fun e => absurd (congrArg Addr.block e) (show w.heap.size + 3 ≠ b by omega))).trans hS10.2.2⟩) (fun hHeld => ?_)
            clear hK K
            (try simp only [List.getElem_toArray, List.getElem_cons_succ, List.getElem_cons_zero, Act.put, List.setIfInBounds_toArray, List.set_cons_zero, List.set_cons_succ])
            refine wpAnyH_done (by kernel_rfl) ?_ _
            first | refine NoPanic.normal ?_ | skip
            clear hHeld cO10 fO10
            go_wp2_with fail
            go_roundg (l.length - (k + 1))
            case measure => omega
            case rel =>
              refine ⟨k + 1, p2, _, l2 ++ [(q, x)], rfl, hlt, by go_num, rfl, PP.out, by have := HL2.out; simp; omega, fun _ => by simp, fun y hy => ?_⟩
              rcases List.mem_append.1 hy with h | h
              · exact HM2.out y h
              · rw [List.mem_singleton.1 h]; exact .inr (List.mem_of_getElem? HX.out)
    · obtain rfl : k = l.length := by omega
      cases put
      · obtain ⟨us, hul, own, rows⟩ := HP.out.dict
        obtain ⟨Av, kv, hv, -, -, -⟩ := (Own.of_row own).slice
        subst hv
        have HU := Lib.hid hul
        have HRW := Lib.hid rows
        have cO := HP.out.out.cell
        obtain ⟨cw0, cw1⟩ := HP.out.own.cells
        have hz6 := HP.out.sz
        have hll : l'.length ≤ l.length := by have := HLEN.out; simpa using this
        have cR := HP.out.res.cell
        have fO := HP.out.out.free
        clear hul rows
        go_wp2_with (at_builtin; refine wpList_append_twoG own hz6 (.tmp 69) (.tmp 71) 29 Tryz.underlying29 info_entry (by omega) (by unfold maxLen; omega) ⟨rfl, rfl, rfl, rfl, rfl, rfl, rfl⟩ rfl ?_; intro v7 w7 own7 gr7; obtain ⟨A7, k7, hv7, -, -, -⟩ := (Own.of_row own7).slice; subst hv7; have PP := Lib.hid (HP.out.put HU.out own HRW.out (d := (o, t)) HP.out.row HP.out.rowc HP.out.rowm own7 gr7); have cO7 := (HP.out.out.grown gr7 (fun h => by have := (own.lt _ h).1; have := HP.out.go4; have := HP.out.goH; omega)).cell; have fO7 := (HP.out.out.grown gr7 (fun h => by have := (own.lt _ h).1; have := HP.out.go4; have := HP.out.goH; omega)).free; have cO8 := PP.out.out.cell; have cR8 := PP.out.res.cell; have fR8 := PP.out.res.free)
        refine bodyPost_ret (v := .agg #[.slice A7 (l'.length + 1) k7]) (by simp [results, go_sem, (PP.out.res.set_ (.slice A7 (l'.length + 1) k7)).cell]) rfl ?_
        refine ⟨_, l' ++ [(o, t)], rfl, put_end PP.out, by simp; omega, by simp, fun y hy => ?_, put_below PP.out⟩
        rcases List.mem_append.1 hy with h | h
        · exact HMEM.out y h
        · exact .inl (List.mem_singleton.1 h)
      · obtain ⟨Av, kv, hv, -, -, -⟩ := HP.out.dict.slice
        subst hv
        have cO := HP.out.out.cell
        have cR := HP.out.res.cell
        have fR := HP.out.res.free
        go_wp2
        refine bodyPost_ret (v := .agg #[.slice Av l'.length kv]) (by simp [results, go_sem, (HP.out.res.set_ (.slice Av l'.length kv)).cell]) rfl ?_
        exact ⟨_, l', rfl, put_end HP.out, by have := HLEN.out; simpa using this, HPOS.out (by trivial), HMEM.out, put_below HP.out⟩
end Go.Proofs.YtekidodfcanjaaaGreatDoor
namespace Go.Proofs.YtekidodfcanjaaaGreatDoor
open Go.RowKit
set_option linter.unusedVariables false
set_option linter.unusedSimpArgs false
set_option maxRecDepth 100000

/-- Bounds on drawn entries. -/
def EntsB (n m : Nat) (l : List EntD) : Prop := l.length ≤ n ∧ ∀ c ∈ l, c.1.length ≤ m ∧ c.2.size ≤ 400
theorem EntsB.short {n m : Nat} {l : List EntD} (h : EntsB n m l) (hm : m ≤ 1048576) : ShortD l := fun c hc => by
  have := h.2 c hc
  omega
theorem EntsB.more {n m n' m' : Nat} {l : List EntD} (h : EntsB n m l) (hn : n ≤ n') (hm : m ≤ m') : EntsB n' m' l := ⟨by have := h.1; omega, fun c hc => by have := h.2 c hc; omega⟩
theorem EntsB.put {n m : Nat} {l l' : List EntD} {o : List Int} {t : ByteArray} (h : EntsB n m l) (hl : l'.length ≤ n) (ho : o.length ≤ m) (ht : t.size ≤ 400) (hm : ∀ c ∈ l', c = (o, t) ∨ c ∈ l) : EntsB n m l' :=
  ⟨hl, fun c hc => by
    rcases hm c hc with rfl | h1
    · exact ⟨ho, ht⟩
    · exact h.2 c h1⟩
/-- A draw gave some dictionary. -/
def DrewD (n m : Nat) (full : Bool) (g p : Nat) (w : World) (e : Ending) (w' : World) : Prop := ∃ (v : Value) (l : List EntD), e = .returned (.agg #[v]) ∧ DictT w' w.heap.size w.heap.size v l ∧ EntsB n m l ∧ (full = true → 0 < l.length) ∧ Cur w' g p ∧ Only g (g + 1) w w'
theorem DictT.setBox {w : World} {lo lo2 B : Nat} {v u0 : Value} {l : List EntD} (h : DictT w lo lo2 v l) (hb : Box w B 31 u0) (u : Value) : DictT (w.setCell ⟨B, 0, none⟩ u) lo lo2 v l :=
  h.keep (KeepN.of_set _ (.inr ⟨31, #[u0], by decide, hb⟩)) fun us hu => ownsRow_only (lo' := B) (hi' := B + 1) hu ((Only.refl w).setCell (p := ⟨B, 0, none⟩) (Nat.le_refl _) (Nat.lt_succ_self _) u) (fun g hg => by
    have := hb.ne_own hu (by decide)
    have h2 : g ≠ B := fun e => this (by rw [← e]; exact hg)
    omega)
theorem only_new {g : Nat} {w wa : World} (ho : Only g (g + 1) w wa) {p : Addr} (hp : w.heap.size ≤ p.block) (u : Value) : Only g (g + 1) w (wa.setCell p u) :=
  ho.then_below (B := w.heap.size) ((Below.refl _ _).setCell hp u) (Nat.le_refl _)
theorem cur_new {g m : Nat} {wa : World} (hc : Cur wa g m) {p : Addr} (hp : g + 1 ≤ p.block) (u : Value) : Cur (wa.setCell p u) g m := hc.below ((Below.refl _ _).setCell hp u)
/-- The state of a draw of a dictionary: result cell, the growing dictionary's cell (block B), the cursor. -/
structure DrwS (w wr : World) (B g p : Nat) (v : Value) (l : List EntD) : Prop where
  res : Box wr w.heap.size 31 (.slice none 0 0)
  box : Box wr B 31 v
  bw : w.heap.size + 1 ≤ B
  dict : DictT wr w.heap.size w.heap.size v l
  cur : Cur wr g p
  only : Only g (g + 1) w wr
  gw : g < w.heap.size
section
variable {w wr w' : World} {B g p q : Nat} {v : Value} {l : List EntD}
theorem DrwS.drew (h : DrwS w wr B g p v l) : DrwS w wr.drew B g p v l := ⟨h.res, h.box, h.bw, h.dict.below (Below.refl wr.heap.size wr).drew, h.cur, h.only.drew, h.gw⟩
theorem DrwS.alloc (h : DrwS w wr B g p v l) (o : Obj) : DrwS w (wr.alloc o) B g p v l := ⟨h.res.alloc o, h.box.alloc o, h.bw, h.dict.below ((Below.refl _ _).alloc (Nat.le_refl _) o), h.cur.alloc o, only_alloc h.only o, h.gw⟩
theorem DrwS.far (h : DrwS w wr B g p v l) (hb : Below wr.heap.size wr w') : DrwS w w' B g p v l := ⟨h.res.far hb, h.box.far hb, h.bw, h.dict.below hb, h.cur.below (hb.mono (by have := h.gw; have := h.only.size; omega)), h.only.then_below hb h.only.size, h.gw⟩
theorem DrwS.move (h : DrwS w wr B g p v l) (hc : Cur w' g q) (ho : Only g (g + 1) wr w') : DrwS w w' B g q v l := by
  have hg := h.gw
  have hB := h.bw
  exact ⟨h.res.only ho (.inr (by omega)), h.box.only ho (.inr (by omega)), h.bw, h.dict.only ho hg hg, hc, h.only.trans ho, hg⟩
theorem DrwS.more (h : DrwS w wr B g p v l) (hq : p ≤ q) : DrwS w wr B g q v l := ⟨h.res, h.box, h.bw, h.dict, h.cur.more hq, h.only, h.gw⟩
/-- Another dictionary is stored. -/
theorem DrwS.store (h : DrwS w wr B g p v l) {v2 : Value} {l2 : List EntD} (hd : DictT wr w.heap.size w.heap.size v2 l2) : DrwS w (wr.setCell ⟨B, 0, none⟩ v2) B g p v2 l2 :=
  ⟨h.res.setOther (show B ≠ w.heap.size by have := h.bw; omega) v2, h.box.set_ v2, h.bw, hd.setBox h.box v2, cur_new h.cur (show g + 1 ≤ B by have := h.gw; have := h.bw; omega) v2, only_new h.only (show w.heap.size ≤ B by have := h.bw; omega) v2, h.gw⟩
theorem DrwS.ret (h : DrwS w wr B g p v l) : DictT (wr.setCell ⟨w.heap.size, 0, none⟩ v) w.heap.size w.heap.size v l ∧ Cur (wr.setCell ⟨w.heap.size, 0, none⟩ v) g p ∧ Only g (g + 1) w (wr.setCell ⟨w.heap.size, 0, none⟩ v) :=
  ⟨h.dict.setBox h.res v, cur_new h.cur (show g + 1 ≤ w.heap.size from h.gw) v, only_new h.only (Nat.le_refl _) v⟩
/-- An entry is put behind the others, and the row stored. -/
theorem DrwS.put {us : List Value} {v2 : Value} {Ac : Option Addr} {kc : Nat} {d : EntD} (h : DrwS w wr B g p v l) (hul : us.length = l.length) (own : wr.ownsRow w.heap.size 50 2 v l.length (flat2 (headsP us l)))
    (rows : ∀ (j : Nat) u c, us[j]? = some u → l[j]? = some c → ∃ (A : Option Addr) (cap : Nat), u = .slice A c.1.length cap ∧ RowN 3 w.heap.size wr A c.1.length (ints c.1) ∧ c.1.length ≤ cap ∧ cap ≤ maxLen)
    (row : RowN 3 w.heap.size wr Ac d.1.length (ints d.1)) (hc : d.1.length ≤ kc) (hm : kc ≤ maxLen)
    (own2 : w'.ownsRow w.heap.size 50 2 v2 (l.length + 1) (flat2 (headsP us l) ++ [.slice Ac d.1.length kc, .string d.2])) (gr : wr.grownBy w' v.ownBlock) :
    DrwS w (w'.setCell ⟨B, 0, none⟩ v2) B g p v2 (l ++ [d]) ∧ Box w' B 31 v ∧ Box w' w.heap.size 31 (.slice none 0 0) := by
  have hd := DictT.put hul own rows row hc hm own2 gr
  have hb := h.box.grown gr (h.box.ne_own own (by decide))
  have hr := h.res.grown gr (h.res.ne_own own (by decide))
  have hg := h.gw
  have h2 : DrwS w w' B g p v2 (l ++ [d]) → True := fun _ => trivial
  refine ⟨⟨hr.setOther (show B ≠ w.heap.size by have := h.bw; omega) v2, hb.set_ v2, h.bw, hd.setBox hb v2, cur_new (cur_row h.cur gr (fun b hb => by have := (own.lt b hb).1; omega)) (show g + 1 ≤ B by have := h.bw; omega) v2, only_new (only_row h.only gr (fun b hb => (own.lt b hb).1)) (show w.heap.size ≤ B by have := h.bw; omega) v2, hg⟩, hb, hr⟩
theorem DrwS.text0 {c : EntD} {cs : List EntD} (h : DrwS w wr B g p v (c :: cs)) (t : ByteArray) : ∃ g5 k5, v = .slice (some ⟨g5, 0, none⟩) (cs.length + 1) k5 ∧ wr.frozen? ⟨g5, 1, none⟩ = false ∧ (∃ u, wr.cell? ⟨g5, 1, none⟩ = some u) ∧ cs.length + 1 ≤ k5 ∧ DrwS w (wr.setCell ⟨g5, 1, none⟩ (.string t)) B g p v ((c.1, t) :: cs) := by
  obtain ⟨g5, k5, hv, f5, q1, q2, q3, hu, hd⟩ := h.dict.text0 t
  obtain ⟨us, -, hown, -⟩ := h.dict
  have n1 : g5 ≠ w.heap.size := fun e => h.res.ne_own hown (by decide) (by rw [hv, ← e]; rfl)
  have n2 : g5 ≠ B := fun e => h.box.ne_own hown (by decide) (by rw [hv, ← e]; rfl)
  exact ⟨g5, k5, hv, f5, hu, q3, ⟨h.res.setOther n1 _, h.box.setOther n2 _, h.bw, hd, cur_new h.cur (show g + 1 ≤ g5 by have := h.gw; omega) _, only_new h.only (show w.heap.size ≤ g5 from q1) _, h.gw⟩⟩
theorem DrwS.out0 {c : EntD} {cs : List EntD} (h : DrwS w wr B g p v (c :: cs)) {A : Option Addr} {k : Nat} {o : List Int} (row : RowN 3 w.heap.size wr A o.length (ints o)) (hk1 : o.length ≤ k) (hk2 : k ≤ maxLen) : ∃ g5 k5, v = .slice (some ⟨g5, 0, none⟩) (cs.length + 1) k5 ∧ wr.frozen? ⟨g5, 0, none⟩ = false ∧ (∃ u, wr.cell? ⟨g5, 0, none⟩ = some u) ∧ DrwS w (wr.setCell ⟨g5, 0, none⟩ (.slice A o.length k)) B g p v ((o, c.2) :: cs) := by
  obtain ⟨g5, k5, hv, f5, q1, q2, q3, hu, hd⟩ := h.dict.out0 row hk1 hk2
  obtain ⟨us, -, hown, -⟩ := h.dict
  have n1 : g5 ≠ w.heap.size := fun e => h.res.ne_own hown (by decide) (by rw [hv, ← e]; rfl)
  have n2 : g5 ≠ B := fun e => h.box.ne_own hown (by decide) (by rw [hv, ← e]; rfl)
  exact ⟨g5, k5, hv, f5, hu, ⟨h.res.setOther n1 _, h.box.setOther n2 _, h.bw, hd, cur_new h.cur (show g + 1 ≤ g5 by have := h.gw; omega) _, only_new h.only (show w.heap.size ≤ g5 from q1) _, h.gw⟩⟩
theorem drwS_new (w : World) (g p : Nat) (h : Cur w g p) : DrwS w ((w.alloc (.cells #[.slice none 0 0] 31)).alloc (.cells #[.slice none 0 0] 31)) (w.heap.size + 1) g p (.slice none 0 0) [] := by
  refine ⟨(Box.new w _ _).alloc _, ?_, Nat.le_refl _, DictT.nil _ _ _, (h.alloc _).alloc _, only_alloc (only_alloc (Only.refl w) _) _, h.1⟩
  have := Box.new (w.alloc (.cells #[.slice none 0 0] 31)) 31 (.slice none 0 0)
  simpa using this
/-- A dictionary that has been drawn, in a cell of its own. -/
theorem drwS_of {w1 w2 : World} (hs : w1.heap.size = w.heap.size + 1) (hr : Box w1 w.heap.size 31 (.slice none 0 0)) (ho1 : Only g (g + 1) w w1) (hg : g < w.heap.size)
    (hd : DictT w2 w1.heap.size w1.heap.size v l) (hc : Cur w2 g p) (ho : Only g (g + 1) w1 w2) : DrwS w (w2.alloc (.cells #[v] 31)) w2.heap.size g p v l :=
  ⟨(hr.only ho (.inr (by omega))).alloc _, Box.new w2 _ _, by have := ho.size; omega, (hd.low (by omega) (by omega)).below ((Below.refl _ _).alloc (Nat.le_refl _) _), hc.alloc _, only_alloc (ho1.trans ho) _, hg⟩
end

set_option maxHeartbeats 4000000 in
theorem dictionary_calls (g m : Nat) (w : World) (h : Cur w g m) (hm : m ≤ 10000000) : Calls Tryz.prog 118 #[.pointer (some ⟨g, 0, none⟩)] w (DrewD 9 3 true g (m + 740) w) := by
  obtain ⟨W2, hW2⟩ : ∃ W2, W2 = (w.alloc (.cells #[.slice none 0 0] 31)).alloc (.cells #[.slice none 0 0] 31) := ⟨_, rfl⟩
  have HD2 := Lib.hid (show DrwS w W2 (w.heap.size + 1) g m (.slice none 0 0) [] by rw [hW2]; exact drwS_new w g m h)
  clear h
  go_enter Tryz.func118, Tryz.ntmps118
  go_wp2_with fail
  rw [← hW2]
  clear hW2
  refine (pick_calls g m 7 _ HD2.out.cur (by omega) (by omega) (by omega)).mono ?_
  rintro e w1 ⟨x, rfl, hx, hc1, ho1⟩
  have HD1 := Lib.hid (HD2.out.move hc1 ho1)
  have x1 : IntKind.i64.wrap (3 + (x : Int)) = 3 + (x : Int) := IntWalk.i64_in _ (by omega)
  clear hc1 ho1 HD2
  go_wp2
  clear x1
  go_loopw [4] (fun i wr => ∃ (n : Nat) (v : Value) (l : List EntD), n ≤ 9 ∧ l.length + n ≤ 9 ∧ (n = x + 3 ∨ 0 < l.length) ∧ i = .int .i64 n ∧ EntsB 9 3 l ∧ DrwS w wr (w.heap.size + 1) g (m + 2 + 80 * (9 - n)) v l) (fun i _ => (intOf i).toNat)
  case atStart => exact ⟨x + 3, _, [], by omega, by simp; omega, .inl rfl, by go_num, ⟨by simp, fun c hc => by cases hc⟩, HD1.out.more (by omega)⟩
  case round =>
    clear HD1
    obtain ⟨n, v, l, hn, hln, hpos, rfl, hent, hD⟩ := hrel
    have HD := Lib.hid hD
    have HE := Lib.hid hent
    clear hD hent
    obtain ⟨Av, kv, rfl, hrd, -, -⟩ := HD.out.dict.slice
    clear hrd
    have cB := HD.out.box.cell
    have cR := HD.out.res.cell
    have fR := HD.out.res.free
    have hgw := HD.out.gw
    have hsz := HD.out.only.size
    by_cases h0 : 0 < n
    · have i0 : (0 : Int) < (n : Int) := by omega
      have hp9 : m + 2 + 80 * (9 - n) + 80 ≤ m + 2 + 80 * (9 - (n - 1)) := by omega
      have hSD : wr.drew.cell? ⟨w.heap.size, 0, none⟩ = some (.slice none 0 0) := cR
      have cBD : wr.drew.cell? ⟨w.heap.size + 1, 0, none⟩ = some (.slice Av l.length kv) := cB
      clear cR fR cB
      go_wp2
      first | refine wp_region_noPanic ?_ | skip
      refine wp_region_held_drew (S := fun w' => w'.cell? ⟨w.heap.size, 0, none⟩ = some (.slice none 0 0)) (by kernel_rfl) (by exact hSD) (fun hHeld => ?_)
      (refine wpAnyH_take (i := 1) (v := ?_) rfl (by kernel_rfl) (by kernel_rfl) (by kernel_rfl) (fun _ _ _ h => h) (Or.inl ⟨by rfl, ?_⟩) (by assumption) ?_; rotate_left; focus (intro w hSw; (try dsimp only at hSw); go_simp; try with_reducible rfl))
      (try simp only [List.getElem_toArray, List.getElem_cons_succ, List.getElem_cons_zero, Act.put, List.setIfInBounds_toArray, List.set_cons_zero, List.set_cons_succ])
      refine wpAnyH_ready (rs := [0, 2]) (by kernel_rfl) (by simp) ?_
      refine AllReadyH.cons rfl (fun K hK => ?_) (AllReadyH.cons rfl (fun K hK => ?_) AllReadyH.nil)
      · go_simp
        refine hK.out _ _ (hSD) (fun hHeld => ?_)
        clear hK K
        (try simp only [List.getElem_toArray, List.getElem_cons_succ, List.getElem_cons_zero, Act.put, List.setIfInBounds_toArray, List.set_cons_zero, List.set_cons_succ])
        refine wpAnyH_ready (rs := [2]) (by kernel_rfl) (by simp) ?_
        refine AllReadyH.cons rfl (fun K hK => ?_) AllReadyH.nil
        go_simp
        refine (entry_calls g _ _ HD.out.drew.cur (by omega)).mono ?_
        rintro e w3 ⟨v3, xs, t, rfl, own3, hxl, ht, hc3, ho3⟩
        obtain ⟨A3, k3, rfl, -, -, -⟩ := own3.slice
        have HD3 := Lib.hid (HD.out.drew.move hc3 ho3)
        have r3 := Reads.of_own own3.1
        have cR3 := HD3.out.res.cell
        have cB3 := HD3.out.box.cell
        refine hK.out _ _ (cR3) (fun hHeld => ?_)
        clear hK K
        (try simp only [List.getElem_toArray, List.getElem_cons_succ, List.getElem_cons_zero, Act.put, List.setIfInBounds_toArray, List.set_cons_zero, List.set_cons_succ])
        refine wpAnyH_ready (rs := [3]) (by kernel_rfl) (by simp) ?_
        refine AllReadyH.cons rfl (fun K hK => ?_) AllReadyH.nil
        go_simp
        obtain ⟨A9, k9, hv9, hr9, -, -⟩ := HD3.out.dict.slice
        injection hv9 with q1 _ q3
        subst q1 q3
        refine (spec_l6Put Av kv l A3 k3 xs t _ hr9 (by omega) (HE.out.short (by omega)) r3 (by omega)).mono ?_
        rintro e w4 ⟨v4, l4, rfl, hd4, hl4, hp4, hm4, b4⟩
        obtain ⟨A4, k4, rfl, -, -, -⟩ := hd4.slice
        have HD4 := Lib.hid (HD3.out.far b4)
        have z3 := HD3.out.only.size
        have d4 := hd4.low (lo' := w.heap.size) (lo2' := w.heap.size) z3 z3
        have cR4 := HD4.out.res.cell
        have cB4 := HD4.out.box.cell
        have fB4 := HD4.out.box.free
        have HDS := Lib.hid (HD4.out.store d4)
        refine hK.out _ _ (cR4) (fun hHeld => ?_)
        clear hK K
        (try simp only [List.getElem_toArray, List.getElem_cons_succ, List.getElem_cons_zero, Act.put, List.setIfInBounds_toArray, List.set_cons_zero, List.set_cons_succ])
        refine wpAnyH_ready (rs := [4]) (by kernel_rfl) (by simp) ?_
        refine AllReadyH.cons rfl (fun K hK => ?_) AllReadyH.nil
        go_simp
        refine hK.out _ _ (HDS.out.res.cell) (fun hHeld => ?_)
        clear hK K
        (try simp only [List.getElem_toArray, List.getElem_cons_succ, List.getElem_cons_zero, Act.put, List.setIfInBounds_toArray, List.set_cons_zero, List.set_cons_succ])
        refine wpAnyH_done (by kernel_rfl) ?_ _
        first | refine NoPanic.normal ?_ | skip
        clear hHeld cR4 cB4 fB4 cR3 cB3 cBD hSD
        go_wp2
        go_roundw
        case rel => exact ⟨n - 1, _, l4, by omega, by omega, .inr hp4, by go_num, HE.out.put (by omega) hxl ht hm4, HDS.out.more (by omega)⟩
        case measure => simp [intOf]; omega
      · go_simp
        refine (entry_calls g _ _ HD.out.drew.cur (by omega)).mono ?_
        rintro e w3 ⟨v3, xs, t, rfl, own3, hxl, ht, hc3, ho3⟩
        obtain ⟨A3, k3, rfl, -, -, -⟩ := own3.slice
        have HD3 := Lib.hid (HD.out.drew.move hc3 ho3)
        have r3 := Reads.of_own own3.1
        have cR3 := HD3.out.res.cell
        have cB3 := HD3.out.box.cell
        refine hK.out _ _ (cR3) (fun hHeld => ?_)
        clear hK K
        (try simp only [List.getElem_toArray, List.getElem_cons_succ, List.getElem_cons_zero, Act.put, List.setIfInBounds_toArray, List.set_cons_zero, List.set_cons_succ])
        refine wpAnyH_ready (rs := [0]) (by kernel_rfl) (by simp) ?_
        refine AllReadyH.cons rfl (fun K hK => ?_) AllReadyH.nil
        go_simp
        refine hK.out _ _ (cR3) (fun hHeld => ?_)
        clear hK K
        (try simp only [List.getElem_toArray, List.getElem_cons_succ, List.getElem_cons_zero, Act.put, List.setIfInBounds_toArray, List.set_cons_zero, List.set_cons_succ])
        refine wpAnyH_ready (rs := [3]) (by kernel_rfl) (by simp) ?_
        refine AllReadyH.cons rfl (fun K hK => ?_) AllReadyH.nil
        go_simp
        obtain ⟨A9, k9, hv9, hr9, -, -⟩ := HD3.out.dict.slice
        injection hv9 with q1 _ q3
        subst q1 q3
        refine (spec_l6Put Av kv l A3 k3 xs t _ hr9 (by omega) (HE.out.short (by omega)) r3 (by omega)).mono ?_
        rintro e w4 ⟨v4, l4, rfl, hd4, hl4, hp4, hm4, b4⟩
        obtain ⟨A4, k4, rfl, -, -, -⟩ := hd4.slice
        have HD4 := Lib.hid (HD3.out.far b4)
        have z3 := HD3.out.only.size
        have d4 := hd4.low (lo' := w.heap.size) (lo2' := w.heap.size) z3 z3
        have cR4 := HD4.out.res.cell
        have cB4 := HD4.out.box.cell
        have fB4 := HD4.out.box.free
        have HDS := Lib.hid (HD4.out.store d4)
        refine hK.out _ _ (cR4) (fun hHeld => ?_)
        clear hK K
        (try simp only [List.getElem_toArray, List.getElem_cons_succ, List.getElem_cons_zero, Act.put, List.setIfInBounds_toArray, List.set_cons_zero, List.set_cons_succ])
        refine wpAnyH_ready (rs := [4]) (by kernel_rfl) (by simp) ?_
        refine AllReadyH.cons rfl (fun K hK => ?_) AllReadyH.nil
        go_simp
        refine hK.out _ _ (HDS.out.res.cell) (fun hHeld => ?_)
        clear hK K
        (try simp only [List.getElem_toArray, List.getElem_cons_succ, List.getElem_cons_zero, Act.put, List.setIfInBounds_toArray, List.set_cons_zero, List.set_cons_succ])
        refine wpAnyH_done (by kernel_rfl) ?_ _
        first | refine NoPanic.normal ?_ | skip
        clear hHeld cR4 cB4 fB4 cR3 cB3 cBD hSD
        go_wp2
        go_roundw
        case rel => exact ⟨n - 1, _, l4, by omega, by omega, .inr hp4, by go_num, HE.out.put (by omega) hxl ht hm4, HDS.out.more (by omega)⟩
        case measure => simp [intOf]; omega
    · obtain rfl : n = 0 := by omega
      go_wp2
      refine bodyPost_ret (v := .agg #[.slice Av l.length kv]) (by simp [results, go_sem, (HD.out.res.set_ (.slice Av l.length kv)).cell]) rfl ?_
      exact ⟨_, l, rfl, HD.out.ret.1, HE.out, fun _ => by rcases hpos with h | h <;> omega, HD.out.ret.2.1.more (by omega), HD.out.ret.2.2⟩

def bads : List ByteArray := [⟨#[]⟩, ⟨#[123]⟩, ⟨#[97, 32, 32, 98]⟩]
theorem bads_size : ∀ t ∈ bads, t.size ≤ 10 := by
  intro t ht
  simp only [bads, List.mem_cons, List.not_mem_nil, or_false] at ht
  rcases ht with rfl | rfl | rfl <;> decide

set_option maxHeartbeats 8000000 in
theorem anyDictionary_calls (g m : Nat) (w : World) (h : Cur w g m) (hm : m ≤ 5000000) : Calls Tryz.prog 106 #[.pointer (some ⟨g, 0, none⟩)] w (DrewD 41 8 false g (m + 1000) w) := by
  obtain ⟨W1, hW1⟩ : ∃ W1, W1 = w.alloc (.cells #[.slice none 0 0] 31) := ⟨_, rfl⟩
  have hs1 : W1.heap.size = w.heap.size + 1 := by rw [hW1]; simp
  have hr1 : Box W1 w.heap.size 31 (.slice none 0 0) := by rw [hW1]; exact Box.new w _ _
  have HC1 := Lib.hid (show Cur W1 g m by rw [hW1]; exact h.alloc _)
  have HO1 := Lib.hid (show Only g (g + 1) w W1 by rw [hW1]; exact only_alloc (Only.refl w) _)
  have hgw := h.1
  have HR1 := Lib.hid hr1
  have HS1 := Lib.hid hs1
  clear h hr1 hs1
  go_enter Tryz.func106, Tryz.ntmps106
  go_wp2_with fail
  rw [← hW1]
  clear hW1
  refine (dictionary_calls g m _ HC1.out (by omega)).mono ?_
  rintro e w2 ⟨v2, l2, rfl, hd2, he2, hp2, hc2, ho2⟩
  obtain ⟨A2, k2, rfl, -, -, -⟩ := hd2.slice
  have HD2 := Lib.hid (drwS_of HS1.out HR1.out HO1.out hgw hd2 hc2 ho2)
  have HE2 := Lib.hid he2
  have HP2 := Lib.hid (hp2 rfl)
  obtain ⟨B, hB⟩ : ∃ B, B = w2.heap.size := ⟨_, rfl⟩
  clear hd2 he2 hp2 hc2 ho2 HC1 HO1 HR1 HS1
  go_wp2_with fail
  obtain ⟨W3, hW3⟩ : ∃ W3, W3 = w2.alloc (.cells #[.slice A2 l2.length k2] 31) := ⟨_, rfl⟩
  rw [← hW3, ← hB] at HD2
  rw [← hW3]
  have hpk := pick_calls g (m + 740) 20 _ HD2.out.cur (by omega) (by omega) (by omega)
  refine hpk.mono ?_
  rintro e w3 ⟨x, rfl, hx, hc3, ho3⟩
  have HD := Lib.hid (HD2.out.move hc3 ho3)
  have HB := Lib.hid hB
  clear hpk hc3 ho3 HD2 hW3
  have hs3 := HD.out.only.size
  go_upto_block 0 with fail
  rw [← hB]
  clear hB
  go_cut [] from 9 to 56 (fun wx => ∃ v l, DrwS w wx B g (m + 900) v l ∧ EntsB 41 8 l)
  case first =>
    have cB := HD.out.box.cell
    have cR := HD.out.res.cell
    have fB := HD.out.box.free
    by_cases h0 : x = 0
    · subst h0
      obtain ⟨us, hul, own, rows⟩ := HD.out.dict
      have HU := Lib.hid hul
      have HRW := Lib.hid rows
      have HCB := Lib.hid cB
      have hl9 := HE2.out.1
      have hSD : w3.drew.cell? ⟨w.heap.size, 0, none⟩ = some (.slice none 0 0) := cR
      clear hul rows cB cR fB
      go_wp2
      first | refine wp_region_noPanic ?_ | skip
      refine wp_region_held_drew (S := fun w' => w'.cell? ⟨w.heap.size, 0, none⟩ = some (.slice none 0 0)) (by kernel_rfl) (by exact hSD) (fun hHeld => ?_)
      (refine wpAnyH_take (i := 0) (v := ?_) rfl (by kernel_rfl) (by kernel_rfl) (by kernel_rfl) (fun _ _ _ h => h) (Or.inl ⟨by rfl, ?_⟩) (by assumption) ?_; rotate_left; focus (intro w hSw; (try dsimp only at hSw); go_simp; try with_reducible rfl))
      (try simp only [List.getElem_toArray, List.getElem_cons_succ, List.getElem_cons_zero, Act.put, List.setIfInBounds_toArray, List.set_cons_zero, List.set_cons_succ])
      (refine wpAnyH_take (i := 2) (v := ?_) rfl (by kernel_rfl) (by kernel_rfl) (by kernel_rfl) (fun _ _ _ h => h) (Or.inl ⟨by rfl, ?_⟩) (by assumption) ?_; rotate_left; focus (intro w hSw; (try dsimp only at hSw); go_simp; try with_reducible rfl))
      (try simp only [List.getElem_toArray, List.getElem_cons_succ, List.getElem_cons_zero, Act.put, List.setIfInBounds_toArray, List.set_cons_zero, List.set_cons_succ])
      refine wpAnyH_ready (rs := [1, 3]) (by kernel_rfl) (by simp) ?_
      refine AllReadyH.cons rfl (fun K hK => ?_) (AllReadyH.cons rfl (fun K hK => ?_) AllReadyH.nil)
      · have cBD : w3.drew.cell? ⟨B, 0, none⟩ = some (.slice A2 l2.length k2) := HCB.out
        go_simp
        refine hK.out _ _ (hSD) (fun hHeld => ?_)
        clear hK K
        (try simp only [List.getElem_toArray, List.getElem_cons_succ, List.getElem_cons_zero, Act.put, List.setIfInBounds_toArray, List.set_cons_zero, List.set_cons_succ])
        clear cBD
        refine wpAnyH_ready (rs := [3]) (by kernel_rfl) (by simp) ?_
        refine AllReadyH.cons rfl (fun K hK => ?_) AllReadyH.nil
        go_simp
        refine (entry_calls g _ _ HD.out.drew.cur (by omega)).mono ?_
        rintro e w5 ⟨v5, xs, t, rfl, own5, hxl, ht, hc5, ho5⟩
        obtain ⟨A5, k5, rfl, -, hk5, hm5⟩ := own5.slice
        have HD5 := Lib.hid (HD.out.drew.move hc5 ho5)
        have r5 : RowN 3 w.heap.size w5 A5 xs.length (ints xs) := RowN.of_own own5.1 (by have h1 := HD.out.only.size; have h2 : w3.drew.heap.size = w3.heap.size := rfl; omega)
        have ow5 := ownsRow_only (show w3.drew.ownsRow w.heap.size 50 2 (.slice A2 l2.length k2) l2.length (flat2 (headsP us l2)) from own) ho5 (fun g' hg' => by have := (own.lt g' hg').1; omega)
        have cR5 := HD5.out.res.cell
        refine hK.out _ _ (cR5) (fun hHeld => ?_)
        clear hK K
        (try simp only [List.getElem_toArray, List.getElem_cons_succ, List.getElem_cons_zero, Act.put, List.setIfInBounds_toArray, List.set_cons_zero, List.set_cons_succ])
        refine wpAnyH_ready (rs := [4]) (by kernel_rfl) (by simp) ?_
        refine AllReadyH.cons rfl (fun K hK => ?_) AllReadyH.nil
        go_simp
        have HD6 := Lib.hid (HD5.out.alloc (.cells #[.slice A5 xs.length k5, .string t] 50))
        have ow6 := ow5.alloc (.cells #[.slice A5 xs.length k5, .string t] 50)
        have r6 := r5.keep (KeepN.alloc w5 (.cells #[.slice A5 xs.length k5, .string t] 50))
        have nw6 : ∀ j u, [Value.slice A5 xs.length k5, .string t][j]? = some u → (w5.alloc (.cells #[.slice A5 xs.length k5, .string t] 50)).cell? ⟨w5.heap.size, j, none⟩ = some u := fun j u hj => new_here hj
        have HRW6 := Lib.hid (show ∀ (j : Nat) u c, us[j]? = some u → l2[j]? = some c → ∃ (A : Option Addr) (cap : Nat), u = .slice A c.1.length cap ∧ RowN 3 w.heap.size (w5.alloc (.cells #[.slice A5 xs.length k5, .string t] 50)) A c.1.length (ints c.1) ∧ c.1.length ≤ cap ∧ cap ≤ maxLen from fun j u c' hu hc' => by obtain ⟨y1, y2, y3, y4, y5⟩ := HRW.out j u c' hu hc'; exact ⟨y1, y2, y3, ((y4.keep (KeepN.drewN w3 1)).keep (KeepN.of_only ho5 (by omega))).keep (KeepN.alloc _ _), y5⟩)
        have cR6 := HD6.out.res.cell
        refine hK.out _ _ (cR6) (fun hHeld => ?_)
        clear hK K
        (try simp only [List.getElem_toArray, List.getElem_cons_succ, List.getElem_cons_zero, Act.put, List.setIfInBounds_toArray, List.set_cons_zero, List.set_cons_succ])
        refine wpAnyH_ready (rs := [5]) (by kernel_rfl) (by simp) ?_
        refine AllReadyH.cons rfl (fun K hK => ?_) AllReadyH.nil
        refine step_append_own ow6 HD6.out.only.size (.tmp 12) (.tmp 15) 29 Tryz.underlying29 info_entry (by omega) (by unfold maxLen; omega) nw6 (fun y hy => by simp only [List.mem_cons, List.not_mem_nil, or_false] at hy; rcases hy with rfl | rfl <;> rfl) ⟨rfl, rfl, rfl, rfl, rfl, rfl, by decide⟩ ?_
        intro v7 w7 own7 gr7 _
        obtain ⟨A7, k7, hv7, -, -, -⟩ := (Own.of_row own7).slice
        subst hv7
        obtain ⟨P7, Q7, R7⟩ := HD6.out.put HU.out ow6 HRW6.out (d := (xs, t)) r6 hk5 hm5 own7 gr7
        have HP7 := Lib.hid P7
        have cB7 := Q7.cell
        have fB7 := Q7.free
        have cR7 := R7.cell
        clear P7
        refine hK.out _ _ (cR7) (fun hHeld => ?_)
        clear hK K
        (try simp only [List.getElem_toArray, List.getElem_cons_succ, List.getElem_cons_zero, Act.put, List.setIfInBounds_toArray, List.set_cons_zero, List.set_cons_succ])
        (refine wpAnyH_take (i := 6) (v := ?_) rfl (by kernel_rfl) (by kernel_rfl) (by kernel_rfl) (fun _ _ _ h => h) (Or.inl ⟨by rfl, ?_⟩) (by assumption) ?_; rotate_left; focus (intro w hSw; (try dsimp only at hSw); go_simp; try with_reducible rfl))
        (try simp only [List.getElem_toArray, List.getElem_cons_succ, List.getElem_cons_zero, Act.put, List.setIfInBounds_toArray, List.set_cons_zero, List.set_cons_succ])
        refine wpAnyH_ready (rs := [7]) (by kernel_rfl) (by simp) ?_
        refine AllReadyH.cons rfl (fun K hK => ?_) AllReadyH.nil
        go_simp
        refine hK.out _ _ (HP7.out.res.cell) (fun hHeld => ?_)
        clear hK K
        (try simp only [List.getElem_toArray, List.getElem_cons_succ, List.getElem_cons_zero, Act.put, List.setIfInBounds_toArray, List.set_cons_zero, List.set_cons_succ])
        refine wpAnyH_done (by kernel_rfl) ?_ _
        first | refine NoPanic.normal ?_ | skip
        clear hHeld cR5 cR6 cR7 cB7 fB7
        go_wp2
        go_meet
        exact ⟨_, l2 ++ [(xs, t)], HP7.out.more (by omega), by simp; omega, fun c hc => by
            rcases List.mem_append.1 hc with h | h
            · have := HE2.out.2 c h; omega
            · rw [List.mem_singleton.1 h]; exact ⟨by show xs.length ≤ 8; omega, ht⟩⟩
      · go_simp
        refine (entry_calls g _ _ HD.out.drew.cur (by omega)).mono ?_
        rintro e w5 ⟨v5, xs, t, rfl, own5, hxl, ht, hc5, ho5⟩
        obtain ⟨A5, k5, rfl, -, hk5, hm5⟩ := own5.slice
        have HD5 := Lib.hid (HD.out.drew.move hc5 ho5)
        have r5 : RowN 3 w.heap.size w5 A5 xs.length (ints xs) := RowN.of_own own5.1 (by have h1 := HD.out.only.size; have h2 : w3.drew.heap.size = w3.heap.size := rfl; omega)
        have ow5 := ownsRow_only (show w3.drew.ownsRow w.heap.size 50 2 (.slice A2 l2.length k2) l2.length (flat2 (headsP us l2)) from own) ho5 (fun g' hg' => by have := (own.lt g' hg').1; omega)
        have cR5 := HD5.out.res.cell
        refine hK.out _ _ (cR5) (fun hHeld => ?_)
        clear hK K
        (try simp only [List.getElem_toArray, List.getElem_cons_succ, List.getElem_cons_zero, Act.put, List.setIfInBounds_toArray, List.set_cons_zero, List.set_cons_succ])
        refine wpAnyH_ready (rs := [1, 4]) (by kernel_rfl) (by simp) ?_
        refine AllReadyH.cons rfl (fun K hK => ?_) (AllReadyH.cons rfl (fun K hK => ?_) AllReadyH.nil)
        · have cB5 := HD5.out.box.cell
          go_simp
          refine hK.out _ _ (cR5) (fun hHeld => ?_)
          clear hK K
          (try simp only [List.getElem_toArray, List.getElem_cons_succ, List.getElem_cons_zero, Act.put, List.setIfInBounds_toArray, List.set_cons_zero, List.set_cons_succ])
          clear cB5
          refine wpAnyH_ready (rs := [4]) (by kernel_rfl) (by simp) ?_
          refine AllReadyH.cons rfl (fun K hK => ?_) AllReadyH.nil
          go_simp
          have HD6 := Lib.hid (HD5.out.alloc (.cells #[.slice A5 xs.length k5, .string t] 50))
          have ow6 := ow5.alloc (.cells #[.slice A5 xs.length k5, .string t] 50)
          have r6 := r5.keep (KeepN.alloc w5 (.cells #[.slice A5 xs.length k5, .string t] 50))
          have nw6 : ∀ j u, [Value.slice A5 xs.length k5, .string t][j]? = some u → (w5.alloc (.cells #[.slice A5 xs.length k5, .string t] 50)).cell? ⟨w5.heap.size, j, none⟩ = some u := fun j u hj => new_here hj
          have HRW6 := Lib.hid (show ∀ (j : Nat) u c, us[j]? = some u → l2[j]? = some c → ∃ (A : Option Addr) (cap : Nat), u = .slice A c.1.length cap ∧ RowN 3 w.heap.size (w5.alloc (.cells #[.slice A5 xs.length k5, .string t] 50)) A c.1.length (ints c.1) ∧ c.1.length ≤ cap ∧ cap ≤ maxLen from fun j u c' hu hc' => by obtain ⟨y1, y2, y3, y4, y5⟩ := HRW.out j u c' hu hc'; exact ⟨y1, y2, y3, ((y4.keep (KeepN.drewN w3 1)).keep (KeepN.of_only ho5 (by omega))).keep (KeepN.alloc _ _), y5⟩)
          have cR6 := HD6.out.res.cell
          refine hK.out _ _ (cR6) (fun hHeld => ?_)
          clear hK K
          (try simp only [List.getElem_toArray, List.getElem_cons_succ, List.getElem_cons_zero, Act.put, List.setIfInBounds_toArray, List.set_cons_zero, List.set_cons_succ])
          refine wpAnyH_ready (rs := [5]) (by kernel_rfl) (by simp) ?_
          refine AllReadyH.cons rfl (fun K hK => ?_) AllReadyH.nil
          refine step_append_own ow6 HD6.out.only.size (.tmp 12) (.tmp 15) 29 Tryz.underlying29 info_entry (by omega) (by unfold maxLen; omega) nw6 (fun y hy => by simp only [List.mem_cons, List.not_mem_nil, or_false] at hy; rcases hy with rfl | rfl <;> rfl) ⟨rfl, rfl, rfl, rfl, rfl, rfl, by decide⟩ ?_
          intro v7 w7 own7 gr7 _
          obtain ⟨A7, k7, hv7, -, -, -⟩ := (Own.of_row own7).slice
          subst hv7
          obtain ⟨P7, Q7, R7⟩ := HD6.out.put HU.out ow6 HRW6.out (d := (xs, t)) r6 hk5 hm5 own7 gr7
          have HP7 := Lib.hid P7
          have cB7 := Q7.cell
          have fB7 := Q7.free
          have cR7 := R7.cell
          clear P7
          refine hK.out _ _ (cR7) (fun hHeld => ?_)
          clear hK K
          (try simp only [List.getElem_toArray, List.getElem_cons_succ, List.getElem_cons_zero, Act.put, List.setIfInBounds_toArray, List.set_cons_zero, List.set_cons_succ])
          (refine wpAnyH_take (i := 6) (v := ?_) rfl (by kernel_rfl) (by kernel_rfl) (by kernel_rfl) (fun _ _ _ h => h) (Or.inl ⟨by rfl, ?_⟩) (by assumption) ?_; rotate_left; focus (intro w hSw; (try dsimp only at hSw); go_simp; try with_reducible rfl))
          (try simp only [List.getElem_toArray, List.getElem_cons_succ, List.getElem_cons_zero, Act.put, List.setIfInBounds_toArray, List.set_cons_zero, List.set_cons_succ])
          refine wpAnyH_ready (rs := [7]) (by kernel_rfl) (by simp) ?_
          refine AllReadyH.cons rfl (fun K hK => ?_) AllReadyH.nil
          go_simp
          refine hK.out _ _ (HP7.out.res.cell) (fun hHeld => ?_)
          clear hK K
          (try simp only [List.getElem_toArray, List.getElem_cons_succ, List.getElem_cons_zero, Act.put, List.setIfInBounds_toArray, List.set_cons_zero, List.set_cons_succ])
          refine wpAnyH_done (by kernel_rfl) ?_ _
          first | refine NoPanic.normal ?_ | skip
          clear hHeld cR5 cR6 cR7 cB7 fB7
          go_wp2
          go_meet
          exact ⟨_, l2 ++ [(xs, t)], HP7.out.more (by omega), by simp; omega, fun c hc => by
            rcases List.mem_append.1 hc with h | h
            · have := HE2.out.2 c h; omega
            · rw [List.mem_singleton.1 h]; exact ⟨by show xs.length ≤ 8; omega, ht⟩⟩
        · go_simp
          have HD6 := Lib.hid (HD5.out.alloc (.cells #[.slice A5 xs.length k5, .string t] 50))
          have ow6 := ow5.alloc (.cells #[.slice A5 xs.length k5, .string t] 50)
          have r6 := r5.keep (KeepN.alloc w5 (.cells #[.slice A5 xs.length k5, .string t] 50))
          have nw6 : ∀ j u, [Value.slice A5 xs.length k5, .string t][j]? = some u → (w5.alloc (.cells #[.slice A5 xs.length k5, .string t] 50)).cell? ⟨w5.heap.size, j, none⟩ = some u := fun j u hj => new_here hj
          have HRW6 := Lib.hid (show ∀ (j : Nat) u c, us[j]? = some u → l2[j]? = some c → ∃ (A : Option Addr) (cap : Nat), u = .slice A c.1.length cap ∧ RowN 3 w.heap.size (w5.alloc (.cells #[.slice A5 xs.length k5, .string t] 50)) A c.1.length (ints c.1) ∧ c.1.length ≤ cap ∧ cap ≤ maxLen from fun j u c' hu hc' => by obtain ⟨y1, y2, y3, y4, y5⟩ := HRW.out j u c' hu hc'; exact ⟨y1, y2, y3, ((y4.keep (KeepN.drewN w3 1)).keep (KeepN.of_only ho5 (by omega))).keep (KeepN.alloc _ _), y5⟩)
          have cR6 := HD6.out.res.cell
          refine hK.out _ _ (cR6) (fun hHeld => ?_)
          clear hK K
          (try simp only [List.getElem_toArray, List.getElem_cons_succ, List.getElem_cons_zero, Act.put, List.setIfInBounds_toArray, List.set_cons_zero, List.set_cons_succ])
          refine wpAnyH_ready (rs := [1]) (by kernel_rfl) (by simp) ?_
          refine AllReadyH.cons rfl (fun K hK => ?_) AllReadyH.nil
          have cB6 := HD6.out.box.cell
          go_simp
          refine hK.out _ _ (cR6) (fun hHeld => ?_)
          clear hK K
          (try simp only [List.getElem_toArray, List.getElem_cons_succ, List.getElem_cons_zero, Act.put, List.setIfInBounds_toArray, List.set_cons_zero, List.set_cons_succ])
          clear cB6
          refine wpAnyH_ready (rs := [5]) (by kernel_rfl) (by simp) ?_
          refine AllReadyH.cons rfl (fun K hK => ?_) AllReadyH.nil
          refine step_append_own ow6 HD6.out.only.size (.tmp 12) (.tmp 15) 29 Tryz.underlying29 info_entry (by omega) (by unfold maxLen; omega) nw6 (fun y hy => by simp only [List.mem_cons, List.not_mem_nil, or_false] at hy; rcases hy with rfl | rfl <;> rfl) ⟨rfl, rfl, rfl, rfl, rfl, rfl, by decide⟩ ?_
          intro v7 w7 own7 gr7 _
          obtain ⟨A7, k7, hv7, -, -, -⟩ := (Own.of_row own7).slice
          subst hv7
          obtain ⟨P7, Q7, R7⟩ := HD6.out.put HU.out ow6 HRW6.out (d := (xs, t)) r6 hk5 hm5 own7 gr7
          have HP7 := Lib.hid P7
          have cB7 := Q7.cell
          have fB7 := Q7.free
          have cR7 := R7.cell
          clear P7
          refine hK.out _ _ (cR7) (fun hHeld => ?_)
          clear hK K
          (try simp only [List.getElem_toArray, List.getElem_cons_succ, List.getElem_cons_zero, Act.put, List.setIfInBounds_toArray, List.set_cons_zero, List.set_cons_succ])
          (refine wpAnyH_take (i := 6) (v := ?_) rfl (by kernel_rfl) (by kernel_rfl) (by kernel_rfl) (fun _ _ _ h => h) (Or.inl ⟨by rfl, ?_⟩) (by assumption) ?_; rotate_left; focus (intro w hSw; (try dsimp only at hSw); go_simp; try with_reducible rfl))
          (try simp only [List.getElem_toArray, List.getElem_cons_succ, List.getElem_cons_zero, Act.put, List.setIfInBounds_toArray, List.set_cons_zero, List.set_cons_succ])
          refine wpAnyH_ready (rs := [7]) (by kernel_rfl) (by simp) ?_
          refine AllReadyH.cons rfl (fun K hK => ?_) AllReadyH.nil
          go_simp
          refine hK.out _ _ (HP7.out.res.cell) (fun hHeld => ?_)
          clear hK K
          (try simp only [List.getElem_toArray, List.getElem_cons_succ, List.getElem_cons_zero, Act.put, List.setIfInBounds_toArray, List.set_cons_zero, List.set_cons_succ])
          refine wpAnyH_done (by kernel_rfl) ?_ _
          first | refine NoPanic.normal ?_ | skip
          clear hHeld cR5 cR6 cR7 cB7 fB7
          go_wp2
          go_meet
          exact ⟨_, l2 ++ [(xs, t)], HP7.out.more (by omega), by simp; omega, fun c hc => by
            rcases List.mem_append.1 hc with h | h
            · have := HE2.out.2 c h; omega
            · rw [List.mem_singleton.1 h]; exact ⟨by show xs.length ≤ 8; omega, ht⟩⟩
    have i0 : ((x : Int) == 0) = false := by simp; omega
    have j0 : (x == 0) = false := by simp; omega
    have hz3 := HD.out.gw
    obtain ⟨c, cs, rfl⟩ : ∃ c cs, l2 = c :: cs := by
      cases l2 with
      | nil => exact absurd HP2.out (by simp)
      | cons a b => exact ⟨a, b, rfl⟩
    obtain ⟨g5, k5, hv5, -, -, hk5, -⟩ := HD.out.text0 ⟨#[]⟩
    injection hv5 with q1 _ q3
    subst q1 q3
    have hE9 := HE2.out.1
    simp only [List.length_cons] at HD cB hE9
    by_cases h1 : x = 1
    · subst h1
      have hSD : w3.drew.cell? ⟨w.heap.size, 0, none⟩ = some (.slice none 0 0) ∧ w3.drew.cell? ⟨B, 0, none⟩ = some (.slice (some ⟨g5, 0, none⟩) (cs.length + 1) k2) := ⟨cR, cB⟩
      have HOF := Lib.hid (of_new g _ bads w3.drew HD.out.drew.cur (by omega) (by decide) (by decide) 10 bads_size)
      have HDA := Lib.hid (HD.out.drew.alloc (.cells (bads.map Value.string).toArray 9))
      have p0 : (0 : Int) < (cs.length : Int) + 1 := by omega
      clear cB cR fB h0 i0 j0
      go_wp2
      first | refine wp_region_noPanic ?_ | skip
      refine wp_region_held_drew (S := fun w' => w'.cell? ⟨w.heap.size, 0, none⟩ = some (.slice none 0 0) ∧ w'.cell? ⟨B, 0, none⟩ = some (.slice (some ⟨g5, 0, none⟩) (cs.length + 1) k2)) (by kernel_rfl) (by exact hSD) (fun hHeld => ?_)
      (refine wpAnyH_take (i := 0) (v := ?_) rfl (by kernel_rfl) (by kernel_rfl) (by kernel_rfl) (fun _ _ _ h => h) (Or.inl ⟨by rfl, ?_⟩) (by assumption) ?_; rotate_left; focus (intro w hSw; (try dsimp only at hSw); go_simp; try with_reducible rfl))
      (try simp only [List.getElem_toArray, List.getElem_cons_succ, List.getElem_cons_zero, Act.put, List.setIfInBounds_toArray, List.set_cons_zero, List.set_cons_succ])
      (refine wpAnyH_take (i := 1) (v := ?_) rfl (by kernel_rfl) (by kernel_rfl) (by kernel_rfl) (fun _ _ _ h => h) (Or.inl ⟨by rfl, ?_⟩) (by assumption) ?_; rotate_left; focus (intro w hSw; (try dsimp only at hSw); go_simp; try with_reducible rfl))
      (try simp only [List.getElem_toArray, List.getElem_cons_succ, List.getElem_cons_zero, Act.put, List.setIfInBounds_toArray, List.set_cons_zero, List.set_cons_succ])
      (refine wpAnyH_take (i := 2) (v := ?_) rfl (by kernel_rfl) (by kernel_rfl) (by kernel_rfl) (fun _ _ _ h => h) (Or.inl ⟨by rfl, ?_⟩) (by assumption) ?_; rotate_left; focus (intro w hSw; (try dsimp only at hSw); go_simp; try with_reducible rfl))
      (try simp only [List.getElem_toArray, List.getElem_cons_succ, List.getElem_cons_zero, Act.put, List.setIfInBounds_toArray, List.set_cons_zero, List.set_cons_succ])
      refine wpAnyH_ready (rs := [3]) (by kernel_rfl) (by simp) ?_
      refine AllReadyH.cons rfl (fun K hK => ?_) AllReadyH.nil
      go_simp
      refine hK.out _ _ (⟨HDA.out.res.cell, HDA.out.box.cell⟩) (fun hHeld => ?_)
      clear hK K
      (try simp only [List.getElem_toArray, List.getElem_cons_succ, List.getElem_cons_zero, Act.put, List.setIfInBounds_toArray, List.set_cons_zero, List.set_cons_succ])
      refine wpAnyH_ready (rs := [4]) (by kernel_rfl) (by simp) ?_
      refine AllReadyH.cons rfl (fun K hK => ?_) AllReadyH.nil
      go_simp
      refine HOF.out.mono ?_
      rintro e w5 ⟨t, rfl, ht, hc5, ho5⟩
      have HD5 := Lib.hid (HD.out.drew.move hc5 ho5)
      obtain ⟨g6, k6, hv6, f6, ⟨u6, hu6⟩, -, hd6⟩ := HD5.out.text0 t
      injection hv6 with q1 _ q3
      injection q1 with q1
      injection q1 with q1 _ _
      subst q1 q3
      have HD6 := Lib.hid hd6
      clear hd6 hc5 ho5
      refine hK.out _ _ (⟨HD5.out.res.cell, HD5.out.box.cell⟩) (fun hHeld => ?_)
      clear hK K
      (try simp only [List.getElem_toArray, List.getElem_cons_succ, List.getElem_cons_zero, Act.put, List.setIfInBounds_toArray, List.set_cons_zero, List.set_cons_succ])
      (refine wpAnyH_take (i := 5) (v := ?_) rfl (by kernel_rfl) (by kernel_rfl) (by kernel_rfl) (fun _ _ _ h => h) (Or.inl ⟨by rfl, ?_⟩) (by assumption) ?_; rotate_left; focus (intro w hSw; (try dsimp only at hSw); go_simp; try with_reducible rfl))
      (try simp only [List.getElem_toArray, List.getElem_cons_succ, List.getElem_cons_zero, Act.put, List.setIfInBounds_toArray, List.set_cons_zero, List.set_cons_succ])
      (refine wpAnyH_take (i := 6) (v := ?_) rfl (by kernel_rfl) (by kernel_rfl) (by kernel_rfl) (fun _ _ _ h => h) (Or.inl ⟨by rfl, ?_⟩) (by assumption) ?_; rotate_left; focus (intro w hSw; (try dsimp only at hSw); go_simp; try with_reducible rfl))
      (try simp only [List.getElem_toArray, List.getElem_cons_succ, List.getElem_cons_zero, Act.put, List.setIfInBounds_toArray, List.set_cons_zero, List.set_cons_succ])
      refine wpAnyH_ready (rs := [7]) (by kernel_rfl) (by simp) ?_
      refine AllReadyH.cons rfl (fun K hK => ?_) AllReadyH.nil
      go_simp
      refine hK.out _ _ (⟨HD6.out.res.cell, HD6.out.box.cell⟩) (fun hHeld => ?_)
      clear hK K
      (try simp only [List.getElem_toArray, List.getElem_cons_succ, List.getElem_cons_zero, Act.put, List.setIfInBounds_toArray, List.set_cons_zero, List.set_cons_succ])
      refine wpAnyH_done (by kernel_rfl) ?_ _
      first | refine NoPanic.normal ?_ | skip
      clear hHeld f6 hu6 hSD p0
      go_wp2
      go_meet
      exact ⟨_, (c.1, t) :: cs, HD6.out.more (by omega), by simp; omega, fun d hd => by
            rcases List.mem_cons.1 hd with rfl | h
            · have := HE2.out.2 c (by simp); exact ⟨by show c.1.length ≤ 8; omega, by show t.size ≤ 400; omega⟩
            · have := HE2.out.2 d (by simp [h]); omega⟩
    have i1 : ((x : Int) == 1) = false := by simp; omega
    have j1 : (x == 1) = false := by simp; omega
    by_cases h2 : x = 2
    · subst h2
      have hSD : w3.drew.cell? ⟨w.heap.size, 0, none⟩ = some (.slice none 0 0) ∧ w3.drew.cell? ⟨B, 0, none⟩ = some (.slice (some ⟨g5, 0, none⟩) (cs.length + 1) k2) := ⟨cR, cB⟩
      have HOF := Lib.hid (anyOutline_calls g _ w3.drew HD.out.drew.cur (by omega))
      have p0 : (0 : Int) < (cs.length : Int) + 1 := by omega
      clear cB cR fB h0 i0 j0 h1 i1 j1
      go_wp2
      first | refine wp_region_noPanic ?_ | skip
      refine wp_region_held_drew (S := fun w' => w'.cell? ⟨w.heap.size, 0, none⟩ = some (.slice none 0 0) ∧ w'.cell? ⟨B, 0, none⟩ = some (.slice (some ⟨g5, 0, none⟩) (cs.length + 1) k2)) (by kernel_rfl) (by exact hSD) (fun hHeld => ?_)
      (refine wpAnyH_take (i := 0) (v := ?_) rfl (by kernel_rfl) (by kernel_rfl) (by kernel_rfl) (fun _ _ _ h => h) (Or.inl ⟨by rfl, ?_⟩) (by assumption) ?_; rotate_left; focus (intro w hSw; (try dsimp only at hSw); go_simp; try with_reducible rfl))
      (try simp only [List.getElem_toArray, List.getElem_cons_succ, List.getElem_cons_zero, Act.put, List.setIfInBounds_toArray, List.set_cons_zero, List.set_cons_succ])
      (refine wpAnyH_take (i := 1) (v := ?_) rfl (by kernel_rfl) (by kernel_rfl) (by kernel_rfl) (fun _ _ _ h => h) (Or.inl ⟨by rfl, ?_⟩) (by assumption) ?_; rotate_left; focus (intro w hSw; (try dsimp only at hSw); go_simp; try with_reducible rfl))
      (try simp only [List.getElem_toArray, List.getElem_cons_succ, List.getElem_cons_zero, Act.put, List.setIfInBounds_toArray, List.set_cons_zero, List.set_cons_succ])
      (refine wpAnyH_take (i := 2) (v := ?_) rfl (by kernel_rfl) (by kernel_rfl) (by kernel_rfl) (fun _ _ _ h => h) (Or.inl ⟨by rfl, ?_⟩) (by assumption) ?_; rotate_left; focus (intro w hSw; (try dsimp only at hSw); go_simp; try with_reducible rfl))
      (try simp only [List.getElem_toArray, List.getElem_cons_succ, List.getElem_cons_zero, Act.put, List.setIfInBounds_toArray, List.set_cons_zero, List.set_cons_succ])
      refine wpAnyH_ready (rs := [3]) (by kernel_rfl) (by simp) ?_
      refine AllReadyH.cons rfl (fun K hK => ?_) AllReadyH.nil
      go_simp
      refine HOF.out.mono ?_
      rintro e w5 ⟨v5, xs, rfl, own5, hxl, hc5, ho5⟩
      obtain ⟨A5, k5', rfl, -, hk5', hm5⟩ := own5.slice
      have HD5 := Lib.hid (HD.out.drew.move hc5 ho5)
      have r5 : RowN 3 w.heap.size w5 A5 xs.length (ints xs) := RowN.of_own own5.1 (by have h1 := HD.out.only.size; have h2 : w3.drew.heap.size = w3.heap.size := rfl; omega)
      obtain ⟨g6, k6, hv6, f6, ⟨u6, hu6⟩, hd6⟩ := HD5.out.out0 r5 hk5' hm5
      injection hv6 with q1 _ q3
      injection q1 with q1
      injection q1 with q1 _ _
      subst q1 q3
      have HD6 := Lib.hid hd6
      clear hd6 hc5 ho5
      refine hK.out _ _ (⟨HD5.out.res.cell, HD5.out.box.cell⟩) (fun hHeld => ?_)
      clear hK K
      (try simp only [List.getElem_toArray, List.getElem_cons_succ, List.getElem_cons_zero, Act.put, List.setIfInBounds_toArray, List.set_cons_zero, List.set_cons_succ])
      (refine wpAnyH_take (i := 4) (v := ?_) rfl (by kernel_rfl) (by kernel_rfl) (by kernel_rfl) (fun _ _ _ h => h) (Or.inl ⟨by rfl, ?_⟩) (by assumption) ?_; rotate_left; focus (intro w hSw; (try dsimp only at hSw); go_simp; try with_reducible rfl))
      (try simp only [List.getElem_toArray, List.getElem_cons_succ, List.getElem_cons_zero, Act.put, List.setIfInBounds_toArray, List.set_cons_zero, List.set_cons_succ])
      (refine wpAnyH_take (i := 5) (v := ?_) rfl (by kernel_rfl) (by kernel_rfl) (by kernel_rfl) (fun _ _ _ h => h) (Or.inl ⟨by rfl, ?_⟩) (by assumption) ?_; rotate_left; focus (intro w hSw; (try dsimp only at hSw); go_simp; try with_reducible rfl))
      (try simp only [List.getElem_toArray, List.getElem_cons_succ, List.getElem_cons_zero, Act.put, List.setIfInBounds_toArray, List.set_cons_zero, List.set_cons_succ])
      refine wpAnyH_ready (rs := [6]) (by kernel_rfl) (by simp) ?_
      refine AllReadyH.cons rfl (fun K hK => ?_) AllReadyH.nil
      go_simp
      refine hK.out _ _ (⟨HD6.out.res.cell, HD6.out.box.cell⟩) (fun hHeld => ?_)
      clear hK K
      (try simp only [List.getElem_toArray, List.getElem_cons_succ, List.getElem_cons_zero, Act.put, List.setIfInBounds_toArray, List.set_cons_zero, List.set_cons_succ])
      refine wpAnyH_done (by kernel_rfl) ?_ _
      first | refine NoPanic.normal ?_ | skip
      clear hHeld f6 hu6 hSD p0
      go_wp2
      go_meet
      exact ⟨_, (xs, c.2) :: cs, HD6.out.more (by omega), by simp; omega, fun d hd => by
            rcases List.mem_cons.1 hd with rfl | h
            · have := HE2.out.2 c (by simp); exact ⟨hxl, this.2⟩
            · have := HE2.out.2 d (by simp [h]); omega⟩
    have i2 : ((x : Int) == 2) = false := by simp; omega
    have j2 : (x == 2) = false := by simp; omega
    by_cases h3 : x = 3
    · subst h3
      have HDS := Lib.hid (HD.out.store (DictT.nil _ _ _))
      clear h0 i0 j0 h1 i1 j1 h2 i2 j2
      go_wp2
      go_meet
      exact ⟨_, [], HDS.out.more (by omega), by simp, fun d hd => by cases hd⟩
    have i3 : ((x : Int) == 3) = false := by simp; omega
    have j3 : (x == 3) = false := by simp; omega
    clear h0 h1 h2 h3 fB
    go_wp2
    go_meet
    exact ⟨_, c :: cs, HD.out.more (by omega), HE2.out.more (by omega) (by omega)⟩
  case rest =>
  obtain ⟨v, l, hD, hE⟩ := hcut
  have HD9 := Lib.hid hD
  have HE9 := Lib.hid hE
  clear HD HE2 HP2 hD hE hs3
  obtain ⟨Av, kv, rfl, hrd, -, -⟩ := HD9.out.dict.slice
  clear hrd
  go_wp2_with fail
  refine (one_calls g (m + 900) 40 _ HD9.out.cur (by omega) (by omega) (by omega)).mono ?_
  rintro e w4 ⟨b, rfl, hc4, ho4⟩
  have HD4 := Lib.hid (HD9.out.move hc4 ho4)
  clear hc4 ho4 HD9
  have cB := HD4.out.box.cell
  have cR := HD4.out.res.cell
  have fR := HD4.out.res.free
  have fB := HD4.out.box.free
  cases b
  · go_wp2
    refine bodyPost_ret (v := .agg #[.slice Av l.length kv]) (by simp [results, go_sem, (HD4.out.res.set_ (.slice Av l.length kv)).cell]) rfl ?_
    exact ⟨_, l, rfl, HD4.out.ret.1, HE9.out, (fun h => by cases h), HD4.out.ret.2.1.more (by omega), HD4.out.ret.2.2⟩
  have HDS := Lib.hid (HD4.out.store (DictT.nil _ _ _))
  go_wp2
  go_loopw [4] (fun i wr => ∃ (n : Nat) (v : Value) (l : List EntD), 1 ≤ n ∧ n ≤ 42 ∧ l.length + 1 ≤ n ∧ i = .int .i64 n ∧ EntsB 41 8 l ∧ DrwS w wr B g (m + 902 + 2 * n) v l) (fun i _ => 43 - (intOf i).toNat)
  case atStart => exact ⟨1, _, [], by omega, by omega, by simp, rfl, ⟨by simp, fun d hd => by cases hd⟩, HDS.out.more (by omega)⟩
  case round =>
    clear HDS HE9 HD4 cB cR fR fB
    obtain ⟨n, v, l, hn1, hn2, hln, rfl, hent, hD⟩ := hrel
    have HD := Lib.hid hD
    have HE := Lib.hid hent
    clear hD hent
    go_wp2_with fail
    refine (pick_calls g _ 2 _ HD.out.cur (by omega) (by omega) (by omega)).mono ?_
    rintro e w5 ⟨x, rfl, hx, hc5, ho5⟩
    have HD5 := Lib.hid (HD.out.move hc5 ho5)
    have x1 : IntKind.i64.wrap (40 + (x : Int)) = 40 + (x : Int) := IntWalk.i64_in _ (by omega)
    clear hc5 ho5 HD
    by_cases hle : n ≤ 40 + x
    · have i0 : (n : Int) ≤ 40 + (x : Int) := by omega
      obtain ⟨us, hul, own, rows⟩ := HD5.out.dict
      obtain ⟨Av, kv, hv, -, -, -⟩ := (Own.of_row own).slice
      subst hv
      have HU := Lib.hid hul
      have hl41 := HE.out.1
      have HD6 := Lib.hid (HD5.out.alloc (.cells #[.int .i64 n] 3))
      have own6 := own.alloc (.cells #[.int .i64 n] 3)
      have hz6 := HD6.out.only.size
      have cB := HD5.out.box.cell
      have fB := HD5.out.box.free
      have HRW := Lib.hid (show ∀ (j : Nat) u c, us[j]? = some u → l[j]? = some c → ∃ (A : Option Addr) (cap : Nat), u = .slice A c.1.length cap ∧ RowN 3 w.heap.size (w5.alloc (.cells #[.int .i64 n] 3)) A c.1.length (ints c.1) ∧ c.1.length ≤ cap ∧ cap ≤ maxLen from fun j u c' hu hc' => by obtain ⟨y1, y2, y3, y4, y5⟩ := rows j u c' hu hc'; exact ⟨y1, y2, y3, y4.keep (KeepN.alloc _ _), y5⟩)
      have HRN := Lib.hid (show RowN 3 w.heap.size (w5.alloc (.cells #[.int .i64 n] 3)) (some ⟨w5.heap.size, 0, none⟩) [(n : Int)].length (ints [(n : Int)]) from RowN.of_own (lo' := w.heap.size) (c := 1) (by
        have := World.ownsRow_lit (base := w.heap.size) (e := 3) (size := 1) w5 #[.int .i64 n] 1 HD5.out.only.size (by unfold maxLen; omega) (by simp)
        exact this) (Nat.le_refl _))
      clear hul rows
      go_wp2_with (at_builtin; refine wpList_append_twoG own6 hz6 (.tmp 49) (.tmp 53) 29 Tryz.underlying29 info_entry (by omega) (by unfold maxLen; omega) ⟨rfl, rfl, rfl, rfl, rfl, rfl, rfl⟩ (by simp) ?_; intro v7 w7 own7 gr7; obtain ⟨A7, k7, hv7, -, -, -⟩ := (Own.of_row own7).slice; subst hv7; obtain ⟨P7, Q7, R7⟩ := HD6.out.put HU.out own6 HRW.out (d := ([(n : Int)], ⟨#[97]⟩)) HRN.out (Nat.le_refl _) (by unfold maxLen; simp) own7 gr7; have HP7 := Lib.hid P7; have cB7 := Q7.cell; have fB7 := Q7.free; clear P7)
      go_roundw
      case rel => exact ⟨n + 1, _, l ++ [([(n : Int)], ⟨#[97]⟩)], by omega, by omega, by simp; omega, by go_num, ⟨by simp; omega, fun d hd => by
        rcases List.mem_append.1 hd with h | h
        · exact HE.out.2 d h
        · rw [List.mem_singleton.1 h]; exact ⟨by simp, by show (⟨#[97]⟩ : ByteArray).size ≤ 400; decide⟩⟩, HP7.out.more (by omega)⟩
      case measure => simp [intOf]; omega
    · have i0 : ¬ (n : Int) ≤ 40 + (x : Int) := by omega
      obtain ⟨Av, kv, rfl, hrd, -, -⟩ := HD5.out.dict.slice
      clear hrd
      have cB := HD5.out.box.cell
      have cR := HD5.out.res.cell
      have fR := HD5.out.res.free
      go_wp2
      refine bodyPost_ret (v := .agg #[.slice Av l.length kv]) (by simp [results, go_sem, (HD5.out.res.set_ (.slice Av l.length kv)).cell]) rfl ?_
      exact ⟨_, l, rfl, HD5.out.ret.1, HE.out, (fun h => by cases h), HD5.out.ret.2.1.more (by omega), HD5.out.ret.2.2⟩
end Go.Proofs.YtekidodfcanjaaaGreatDoor
namespace Go.Proofs.YtekidodfcanjaaaGreatDoor
open Go.RowKit
set_option linter.unusedVariables false
set_option linter.unusedSimpArgs false
set_option maxRecDepth 100000

def fours : List ByteArray := [⟨#[97]⟩, ⟨#[98]⟩, ⟨#[116, 104, 101]⟩, ⟨#[123, 94, 115, 125]⟩]
theorem fours_size : ∀ t ∈ fours, t.size ≤ 10 := by
  intro t ht
  simp only [fours, List.mem_cons, List.not_mem_nil, or_false] at ht
  rcases ht with rfl | rfl | rfl | rfl <;> decide

set_option maxHeartbeats 8000000 in
theorem l22Draw_calls (g m : Nat) (w : World) (h : Cur w g m) (hm : m ≤ 4000000) : Calls Tryz.prog 85 #[.pointer (some ⟨g, 0, none⟩)] w (DrewD 41 8 false g (m + 1100) w) := by
  obtain ⟨W1, hW1⟩ : ∃ W1, W1 = w.alloc (.cells #[.slice none 0 0] 31) := ⟨_, rfl⟩
  have hs1 : W1.heap.size = w.heap.size + 1 := by rw [hW1]; simp
  have hr1 : Box W1 w.heap.size 31 (.slice none 0 0) := by rw [hW1]; exact Box.new w _ _
  have HC1 := Lib.hid (show Cur W1 g m by rw [hW1]; exact h.alloc _)
  have HO1 := Lib.hid (show Only g (g + 1) w W1 by rw [hW1]; exact only_alloc (Only.refl w) _)
  have hgw := h.1
  have HR1 := Lib.hid hr1
  have HS1 := Lib.hid hs1
  clear h hr1 hs1
  go_enter Tryz.func85, Tryz.ntmps85
  go_wp2_with fail
  rw [← hW1]
  clear hW1
  refine (one_calls g m 12 _ HC1.out (by omega) (by omega) (by omega)).mono ?_
  rintro e w2 ⟨b, rfl, hc2, ho2⟩
  have HC2 := Lib.hid hc2
  have HR2 := Lib.hid (HR1.out.only ho2 (.inr (by omega)))
  have HO2 := Lib.hid (HO1.out.trans ho2)
  have hz2 := ho2.size
  clear hc2 ho2 HC1 HO1 HR1
  cases b
  case true =>
    go_wp2_with fail
    refine (anyDictionary_calls g (m + 2) _ HC2.out (by omega)).mono ?_
    rintro e w3 ⟨v3, l3, rfl, hd3, he3, -, hc3, ho3⟩
    obtain ⟨A3, k3, rfl, -, -, -⟩ := hd3.slice
    have hr3 := HR2.out.only ho3 (.inr (by omega))
    have cR := hr3.cell
    have fR := hr3.free
    have hs1 := HS1.out
    have d3 := (hd3.low (lo' := w.heap.size) (lo2' := w.heap.size) (by omega) (by omega)).setBox hr3 (.slice A3 l3.length k3)
    have HR3 := Lib.hid (hr3.set_ (.slice A3 l3.length k3))
    have HX := Lib.hid (show DictT (w3.setCell ⟨w.heap.size, 0, none⟩ (.slice A3 l3.length k3)) w.heap.size w.heap.size (.slice A3 l3.length k3) l3 ∧ Cur (w3.setCell ⟨w.heap.size, 0, none⟩ (.slice A3 l3.length k3)) g (m + 1002) ∧ Only g (g + 1) w (w3.setCell ⟨w.heap.size, 0, none⟩ (.slice A3 l3.length k3)) from ⟨d3, cur_new (hc3.more (by omega)) (show g + 1 ≤ w.heap.size from hgw) _, only_new (HO2.out.trans ho3) (Nat.le_refl _) _⟩)
    clear hd3 hc3 ho3 hr3 d3 hs1
    go_wp2
    refine bodyPost_ret (v := .agg #[.slice A3 l3.length k3]) (by simp [results, go_sem, HR3.out.cell]) rfl ?_
    exact ⟨_, l3, rfl, HX.out.1, he3, (fun h => by cases h), HX.out.2.1.more (by omega), HX.out.2.2⟩
  have hs1 := HS1.out
  have HD2 := Lib.hid (show DrwS w (w2.alloc (.cells #[.slice none 0 0] 31)) w2.heap.size g (m + 2) (.slice none 0 0) [] from ⟨HR2.out.alloc _, Box.new w2 _ _, by omega, DictT.nil _ _ _, HC2.out.alloc _, only_alloc HO2.out _, hgw⟩)
  clear HC2 HO2 HR2 hs1 HS1
  go_wp2_with fail
  obtain ⟨W3, hW3⟩ : ∃ W3, W3 = w2.alloc (.cells #[.slice none 0 0] 31) := ⟨_, rfl⟩
  rw [← hW3] at HD2
  rw [← hW3]
  clear hW3
  refine (pick_calls g (m + 2) 7 _ HD2.out.cur (by omega) (by omega) (by omega)).mono ?_
  rintro e w3 ⟨x, rfl, hx, hc3, ho3⟩
  have HD3 := Lib.hid (HD2.out.move hc3 ho3)
  clear hc3 ho3 HD2
  go_wp2
  go_loopw [4] (fun i wr => ∃ (n : Nat) (v : Value) (l : List EntD), n ≤ 6 ∧ l.length + n ≤ 6 ∧ i = .int .i64 n ∧ EntsB 6 3 l ∧ DrwS w wr w2.heap.size g (m + 4 + 20 * (6 - n)) v l) (fun i _ => (intOf i).toNat)
  case atStart => exact ⟨x, _, [], by omega, by simp; omega, rfl, ⟨by simp, fun d hd => by cases hd⟩, HD3.out.more (by omega)⟩
  case round =>
    clear HD3
    obtain ⟨n, v, l, hn, hln, rfl, hent, hD⟩ := hrel
    have HD := Lib.hid hD
    have HE := Lib.hid hent
    clear hD hent
    obtain ⟨Av, kv, rfl, hrd, -, -⟩ := HD.out.dict.slice
    clear hrd
    by_cases h0 : 0 < n
    · have i0 : (0 : Int) < (n : Int) := by omega
      have hzw := HD.out.only.size
      have ow0 : (wr.alloc (.cells #[] 3)).ownsRow wr.heap.size 3 1 (.slice (some ⟨wr.heap.size, 0, none⟩) 0 0) 0 [] := World.ownsRow_made _ _ _ (Nat.le_refl _) (by simp) rfl
      go_wp2_with fail
      refine (pick_calls g _ 3 _ (HD.out.cur.alloc _) (by omega) (by omega) (by omega)).mono ?_
      rintro e w4 ⟨y, rfl, hy, hc4, ho4⟩
      have ow4 := ownsRow_only ow0 ho4 (fun g' hg' => by have := (ow0.lt g' hg').1; omega)
      have ho4' : Only g (g + 1) wr w4 := (only_alloc (Only.refl wr) _).trans ho4
      have y1 : IntKind.i64.wrap (1 + (y : Int)) = 1 + (y : Int) := IntWalk.i64_in _ (by omega)
      have HC4 := Lib.hid hc4
      have HO4 := Lib.hid ho4'
      clear hc4 ho4 ow0 ho4'
      go_wp2
      clear y1
      obtain ⟨W5, hW5⟩ : ∃ W5, W5 = wr := ⟨_, rfl⟩
      have ow5 : w4.ownsRow W5.heap.size 3 1 (.slice (some ⟨wr.heap.size, 0, none⟩) 0 0) 0 [] := by rw [hW5]; exact ow4
      rw [← hW5] at HD HO4 hzw
      clear hW5 ow4
      go_loopw [5, 6] (fun u j wr => ∃ (xs : List Int) (q : Nat), q ≤ 3 ∧ xs.length + q ≤ 3 ∧ j = .int .i64 q ∧ wr.ownsRow W5.heap.size 3 1 u xs.length (ints xs) ∧ Cur wr g (m + 4 + 20 * (6 - n) + 2 + 2 * (3 - q)) ∧ Only g (g + 1) W5 wr) (fun _ j _ => (intOf j).toNat)
      case atStart => exact ⟨[], y + 1, by omega, by simp; omega, by go_num, ow5, HC4.out.more (by omega), HO4.out⟩
      case round =>
        clear HC4 HO4 ow5
        obtain ⟨xs, q, hq, hxq, rfl, own, hc, ho⟩ := hrel
        have HC := Lib.hid hc
        have HO := Lib.hid ho
        clear hc ho
        obtain ⟨Au, ku, rfl, -, hku, hkm⟩ := (Own.of_row own).slice
        by_cases hq0 : 0 < q
        · have q0 : (0 : Int) < (q : Int) := by omega
          go_wp2_with fail
          refine (pick_calls g _ 3 _ HC.out (by omega) (by omega) (by omega)).mono ?_
          rintro e w5 ⟨z, rfl, hz, hc5, ho5⟩
          have own5 := ownsRow_only own ho5 (fun g' hg' => by have := (own.lt g' hg').1; omega)
          have HC5 := Lib.hid hc5
          have HO5 := Lib.hid (HO.out.trans ho5)
          have hz5 := HO5.out.size
          have z1 : IntKind.i64.wrap (1 + (z : Int)) = 1 + (z : Int) := IntWalk.i64_in _ (by omega)
          clear hc5 ho5 own
          go_wp2_with (at_builtin; refine wpList_append_oneA own5 hz5 (.tmp 26) (.tmp 30) 26 Tryz.underlying26 info_int (by omega) (by unfold maxLen; omega) ⟨rfl, rfl, rfl, rfl, rfl, rfl⟩ rfl ?_; intro v6 w6 own6 gr6 at6)
          go_roundw
          case rel => exact ⟨xs ++ [1 + (z : Int)], q - 1, by omega, by simp; omega, by go_num, by rw [← ints_snocD, List.length_append]; exact own6, (cur_row HC5.out gr6 (fun b hb => by have := (own5.lt b hb).1; omega)).more (by omega), only_row HO5.out gr6 (fun b hb => (own5.lt b hb).1)⟩
          case measure => simp [intOf]; omega
        · obtain rfl : q = 0 := by omega
          have HD6 := Lib.hid (HD.out.move HC.out HO.out)
          clear HD HC HO
          have HD := HD6
          clear HD6
          have hSD : wr.drew.cell? ⟨w.heap.size, 0, none⟩ = some (.slice none 0 0) := HD.out.res.cell
          have HCB := Lib.hid HD.out.box.cell
          have HOF := Lib.hid (of_new g _ fours wr.drew HD.out.drew.cur (by omega) (by decide) (by decide) 10 fours_size)
          have HDA := Lib.hid (HD.out.drew.alloc (.cells #[.string ⟨#[97]⟩, .string ⟨#[98]⟩, .string ⟨#[116, 104, 101]⟩, .string ⟨#[123, 94, 115, 125]⟩] 9))
          have HOW := Lib.hid own
          clear own
          go_wp2
          first | refine wp_region_noPanic ?_ | skip
          refine wp_region_held_drew (S := fun w' => w'.cell? ⟨w.heap.size, 0, none⟩ = some (.slice none 0 0)) (by kernel_rfl) (by exact hSD) (fun hHeld => ?_)
          (refine wpAnyH_take (i := 1) (v := ?_) rfl (by kernel_rfl) (by kernel_rfl) (by kernel_rfl) (fun _ _ _ h => h) (Or.inl ⟨by rfl, ?_⟩) (by assumption) ?_; rotate_left; focus (intro w hSw; (try dsimp only at hSw); go_simp; try with_reducible rfl))
          (try simp only [List.getElem_toArray, List.getElem_cons_succ, List.getElem_cons_zero, Act.put, List.setIfInBounds_toArray, List.set_cons_zero, List.set_cons_succ])
          (refine wpAnyH_take (i := 2) (v := ?_) rfl (by kernel_rfl) (by kernel_rfl) (by kernel_rfl) (fun _ _ _ h => h) (Or.inl ⟨by rfl, ?_⟩) (by assumption) ?_; rotate_left; focus (intro w hSw; (try dsimp only at hSw); go_simp; try with_reducible rfl))
          (try simp only [List.getElem_toArray, List.getElem_cons_succ, List.getElem_cons_zero, Act.put, List.setIfInBounds_toArray, List.set_cons_zero, List.set_cons_succ])
          refine wpAnyH_ready (rs := [0, 3]) (by kernel_rfl) (by simp) ?_
          refine AllReadyH.cons rfl (fun K hK => ?_) (AllReadyH.cons rfl (fun K hK => ?_) AllReadyH.nil)
          · have cBD : wr.drew.cell? ⟨w2.heap.size, 0, none⟩ = some (.slice Av l.length kv) := HCB.out
            go_simp
            refine hK.out _ _ (hSD) (fun hHeld => ?_)
            clear hK K
            (try simp only [List.getElem_toArray, List.getElem_cons_succ, List.getElem_cons_zero, Act.put, List.setIfInBounds_toArray, List.set_cons_zero, List.set_cons_succ])
            clear cBD
            refine wpAnyH_ready (rs := [3]) (by kernel_rfl) (by simp) ?_
            refine AllReadyH.cons rfl (fun K hK => ?_) AllReadyH.nil
            go_simp
            refine hK.out _ _ (HDA.out.res.cell) (fun hHeld => ?_)
            clear hK K
            (try simp only [List.getElem_toArray, List.getElem_cons_succ, List.getElem_cons_zero, Act.put, List.setIfInBounds_toArray, List.set_cons_zero, List.set_cons_succ])
            refine wpAnyH_ready (rs := [4]) (by kernel_rfl) (by simp) ?_
            refine AllReadyH.cons rfl (fun K hK => ?_) AllReadyH.nil
            go_simp
            refine HOF.out.mono ?_
            rintro e w5 ⟨t, rfl, ht, hc5, ho5⟩
            have HD5 := Lib.hid (HD.out.drew.move hc5 ho5)
            have own5 := ownsRow_only (show wr.drew.ownsRow W5.heap.size 3 1 (.slice Au xs.length ku) xs.length (ints xs) from HOW.out) ho5 (fun g' hg' => by have := (HOW.out.lt g' hg').1; omega)
            have cR5 := HD5.out.res.cell
            clear hc5 ho5
            refine hK.out _ _ (cR5) (fun hHeld => ?_)
            clear hK K
            (try simp only [List.getElem_toArray, List.getElem_cons_succ, List.getElem_cons_zero, Act.put, List.setIfInBounds_toArray, List.set_cons_zero, List.set_cons_succ])
            (refine wpAnyH_take (i := 5) (v := ?_) rfl (by kernel_rfl) (by kernel_rfl) (by kernel_rfl) (fun _ _ _ h => h) (Or.inl ⟨by rfl, ?_⟩) (by assumption) ?_; rotate_left; focus (intro w hSw; (try dsimp only at hSw); go_simp; try with_reducible rfl))
            (try simp only [List.getElem_toArray, List.getElem_cons_succ, List.getElem_cons_zero, Act.put, List.setIfInBounds_toArray, List.set_cons_zero, List.set_cons_succ])
            refine wpAnyH_ready (rs := [6]) (by kernel_rfl) (by simp) ?_
            refine AllReadyH.cons rfl (fun K hK => ?_) AllReadyH.nil
            go_simp
            obtain ⟨A9, k9, hv9, hr9, -, -⟩ := HD5.out.dict.slice
            injection hv9 with q1 _ q3
            subst q1 q3
            refine (spec_l6Put Av kv l Au ku xs t _ hr9 (by omega) (HE.out.short (by omega)) (Reads.of_own own5) (by omega)).mono ?_
            rintro e w6 ⟨v6, l6, rfl, hd6, hl6, hp6, hm6, b6⟩
            obtain ⟨A6, k6, rfl, -, -, -⟩ := hd6.slice
            have HD6 := Lib.hid (HD5.out.far b6)
            have z5 := HD5.out.only.size
            have d6 := hd6.low (lo' := w.heap.size) (lo2' := w.heap.size) z5 z5
            have cR6 := HD6.out.res.cell
            have cB6 := HD6.out.box.cell
            have fB6 := HD6.out.box.free
            have HDS := Lib.hid (HD6.out.store d6)
            refine hK.out _ _ (cR6) (fun hHeld => ?_)
            clear hK K
            (try simp only [List.getElem_toArray, List.getElem_cons_succ, List.getElem_cons_zero, Act.put, List.setIfInBounds_toArray, List.set_cons_zero, List.set_cons_succ])
            refine wpAnyH_ready (rs := [7]) (by kernel_rfl) (by simp) ?_
            refine AllReadyH.cons rfl (fun K hK => ?_) AllReadyH.nil
            go_simp
            refine hK.out _ _ (HDS.out.res.cell) (fun hHeld => ?_)
            clear hK K
            (try simp only [List.getElem_toArray, List.getElem_cons_succ, List.getElem_cons_zero, Act.put, List.setIfInBounds_toArray, List.set_cons_zero, List.set_cons_succ])
            refine wpAnyH_done (by kernel_rfl) ?_ _
            first | refine NoPanic.normal ?_ | skip
            clear hHeld cR6 cB6 fB6 cR5 hSD
            go_wp2
            go_roundw
            case rel => exact ⟨n - 1, _, l6, by omega, by omega, by go_num, HE.out.put (by omega) (by omega) (by omega) hm6, HDS.out.more (by omega)⟩
            case measure => simp [intOf]; omega
          · go_simp
            refine hK.out _ _ (HDA.out.res.cell) (fun hHeld => ?_)
            clear hK K
            (try simp only [List.getElem_toArray, List.getElem_cons_succ, List.getElem_cons_zero, Act.put, List.setIfInBounds_toArray, List.set_cons_zero, List.set_cons_succ])
            refine wpAnyH_ready (rs := [0, 4]) (by kernel_rfl) (by simp) ?_
            refine AllReadyH.cons rfl (fun K hK => ?_) (AllReadyH.cons rfl (fun K hK => ?_) AllReadyH.nil)
            · have cBA : (wr.alloc (.cells #[.string ⟨#[97]⟩, .string ⟨#[98]⟩, .string ⟨#[116, 104, 101]⟩, .string ⟨#[123, 94, 115, 125]⟩] 9)).cell? ⟨w2.heap.size, 0, none⟩ = some (.slice Av l.length kv) := (HD.out.box.alloc _).cell
              go_simp
              refine hK.out _ _ (HDA.out.res.cell) (fun hHeld => ?_)
              clear hK K
              (try simp only [List.getElem_toArray, List.getElem_cons_succ, List.getElem_cons_zero, Act.put, List.setIfInBounds_toArray, List.set_cons_zero, List.set_cons_succ])
              clear cBA
              refine wpAnyH_ready (rs := [4]) (by kernel_rfl) (by simp) ?_
              refine AllReadyH.cons rfl (fun K hK => ?_) AllReadyH.nil
              go_simp
              refine HOF.out.mono ?_
              rintro e w5 ⟨t, rfl, ht, hc5, ho5⟩
              have HD5 := Lib.hid (HD.out.drew.move hc5 ho5)
              have own5 := ownsRow_only (show wr.drew.ownsRow W5.heap.size 3 1 (.slice Au xs.length ku) xs.length (ints xs) from HOW.out) ho5 (fun g' hg' => by have := (HOW.out.lt g' hg').1; omega)
              have cR5 := HD5.out.res.cell
              clear hc5 ho5
              refine hK.out _ _ (cR5) (fun hHeld => ?_)
              clear hK K
              (try simp only [List.getElem_toArray, List.getElem_cons_succ, List.getElem_cons_zero, Act.put, List.setIfInBounds_toArray, List.set_cons_zero, List.set_cons_succ])
              (refine wpAnyH_take (i := 5) (v := ?_) rfl (by kernel_rfl) (by kernel_rfl) (by kernel_rfl) (fun _ _ _ h => h) (Or.inl ⟨by rfl, ?_⟩) (by assumption) ?_; rotate_left; focus (intro w hSw; (try dsimp only at hSw); go_simp; try with_reducible rfl))
              (try simp only [List.getElem_toArray, List.getElem_cons_succ, List.getElem_cons_zero, Act.put, List.setIfInBounds_toArray, List.set_cons_zero, List.set_cons_succ])
              refine wpAnyH_ready (rs := [6]) (by kernel_rfl) (by simp) ?_
              refine AllReadyH.cons rfl (fun K hK => ?_) AllReadyH.nil
              go_simp
              obtain ⟨A9, k9, hv9, hr9, -, -⟩ := HD5.out.dict.slice
              injection hv9 with q1 _ q3
              subst q1 q3
              refine (spec_l6Put Av kv l Au ku xs t _ hr9 (by omega) (HE.out.short (by omega)) (Reads.of_own own5) (by omega)).mono ?_
              rintro e w6 ⟨v6, l6, rfl, hd6, hl6, hp6, hm6, b6⟩
              obtain ⟨A6, k6, rfl, -, -, -⟩ := hd6.slice
              have HD6 := Lib.hid (HD5.out.far b6)
              have z5 := HD5.out.only.size
              have d6 := hd6.low (lo' := w.heap.size) (lo2' := w.heap.size) z5 z5
              have cR6 := HD6.out.res.cell
              have cB6 := HD6.out.box.cell
              have fB6 := HD6.out.box.free
              have HDS := Lib.hid (HD6.out.store d6)
              refine hK.out _ _ (cR6) (fun hHeld => ?_)
              clear hK K
              (try simp only [List.getElem_toArray, List.getElem_cons_succ, List.getElem_cons_zero, Act.put, List.setIfInBounds_toArray, List.set_cons_zero, List.set_cons_succ])
              refine wpAnyH_ready (rs := [7]) (by kernel_rfl) (by simp) ?_
              refine AllReadyH.cons rfl (fun K hK => ?_) AllReadyH.nil
              go_simp
              refine hK.out _ _ (HDS.out.res.cell) (fun hHeld => ?_)
              clear hK K
              (try simp only [List.getElem_toArray, List.getElem_cons_succ, List.getElem_cons_zero, Act.put, List.setIfInBounds_toArray, List.set_cons_zero, List.set_cons_succ])
              refine wpAnyH_done (by kernel_rfl) ?_ _
              first | refine NoPanic.normal ?_ | skip
              clear hHeld cR6 cB6 fB6 cR5 hSD
              go_wp2
              go_roundw
              case rel => exact ⟨n - 1, _, l6, by omega, by omega, by go_num, HE.out.put (by omega) (by omega) (by omega) hm6, HDS.out.more (by omega)⟩
              case measure => simp [intOf]; omega
            · go_simp
              refine HOF.out.mono ?_
              rintro e w5 ⟨t, rfl, ht, hc5, ho5⟩
              have HD5 := Lib.hid (HD.out.drew.move hc5 ho5)
              have own5 := ownsRow_only (show wr.drew.ownsRow W5.heap.size 3 1 (.slice Au xs.length ku) xs.length (ints xs) from HOW.out) ho5 (fun g' hg' => by have := (HOW.out.lt g' hg').1; omega)
              have cR5 := HD5.out.res.cell
              clear hc5 ho5
              refine hK.out _ _ (cR5) (fun hHeld => ?_)
              clear hK K
              (try simp only [List.getElem_toArray, List.getElem_cons_succ, List.getElem_cons_zero, Act.put, List.setIfInBounds_toArray, List.set_cons_zero, List.set_cons_succ])
              (refine wpAnyH_take (i := 5) (v := ?_) rfl (by kernel_rfl) (by kernel_rfl) (by kernel_rfl) (fun _ _ _ h => h) (Or.inl ⟨by rfl, ?_⟩) (by assumption) ?_; rotate_left; focus (intro w hSw; (try dsimp only at hSw); go_simp; try with_reducible rfl))
              (try simp only [List.getElem_toArray, List.getElem_cons_succ, List.getElem_cons_zero, Act.put, List.setIfInBounds_toArray, List.set_cons_zero, List.set_cons_succ])
              refine wpAnyH_ready (rs := [0]) (by kernel_rfl) (by simp) ?_
              refine AllReadyH.cons rfl (fun K hK => ?_) AllReadyH.nil
              have cB5 := HD5.out.box.cell
              go_simp
              refine hK.out _ _ (cR5) (fun hHeld => ?_)
              clear hK K
              (try simp only [List.getElem_toArray, List.getElem_cons_succ, List.getElem_cons_zero, Act.put, List.setIfInBounds_toArray, List.set_cons_zero, List.set_cons_succ])
              clear cB5
              refine wpAnyH_ready (rs := [6]) (by kernel_rfl) (by simp) ?_
              refine AllReadyH.cons rfl (fun K hK => ?_) AllReadyH.nil
              go_simp
              obtain ⟨A9, k9, hv9, hr9, -, -⟩ := HD5.out.dict.slice
              injection hv9 with q1 _ q3
              subst q1 q3
              refine (spec_l6Put Av kv l Au ku xs t _ hr9 (by omega) (HE.out.short (by omega)) (Reads.of_own own5) (by omega)).mono ?_
              rintro e w6 ⟨v6, l6, rfl, hd6, hl6, hp6, hm6, b6⟩
              obtain ⟨A6, k6, rfl, -, -, -⟩ := hd6.slice
              have HD6 := Lib.hid (HD5.out.far b6)
              have z5 := HD5.out.only.size
              have d6 := hd6.low (lo' := w.heap.size) (lo2' := w.heap.size) z5 z5
              have cR6 := HD6.out.res.cell
              have cB6 := HD6.out.box.cell
              have fB6 := HD6.out.box.free
              have HDS := Lib.hid (HD6.out.store d6)
              refine hK.out _ _ (cR6) (fun hHeld => ?_)
              clear hK K
              (try simp only [List.getElem_toArray, List.getElem_cons_succ, List.getElem_cons_zero, Act.put, List.setIfInBounds_toArray, List.set_cons_zero, List.set_cons_succ])
              refine wpAnyH_ready (rs := [7]) (by kernel_rfl) (by simp) ?_
              refine AllReadyH.cons rfl (fun K hK => ?_) AllReadyH.nil
              go_simp
              refine hK.out _ _ (HDS.out.res.cell) (fun hHeld => ?_)
              clear hK K
              (try simp only [List.getElem_toArray, List.getElem_cons_succ, List.getElem_cons_zero, Act.put, List.setIfInBounds_toArray, List.set_cons_zero, List.set_cons_succ])
              refine wpAnyH_done (by kernel_rfl) ?_ _
              first | refine NoPanic.normal ?_ | skip
              clear hHeld cR6 cB6 fB6 cR5 hSD
              go_wp2
              go_roundw
              case rel => exact ⟨n - 1, _, l6, by omega, by omega, by go_num, HE.out.put (by omega) (by omega) (by omega) hm6, HDS.out.more (by omega)⟩
              case measure => simp [intOf]; omega
    · obtain rfl : n = 0 := by omega
      have cB := HD.out.box.cell
      have cR := HD.out.res.cell
      have fR := HD.out.res.free
      go_wp2
      refine bodyPost_ret (v := .agg #[.slice Av l.length kv]) (by simp [results, go_sem, (HD.out.res.set_ (.slice Av l.length kv)).cell]) rfl ?_
      exact ⟨_, l, rfl, HD.out.ret.1, HE.out.more (by omega) (by omega), (fun h => by cases h), HD.out.ret.2.1.more (by omega), HD.out.ret.2.2⟩
end Go.Proofs.YtekidodfcanjaaaGreatDoor
namespace Go.Proofs.YtekidodfcanjaaaGreatDoor
open Go.RowKit
set_option linter.unusedVariables false
set_option linter.unusedSimpArgs false
set_option maxRecDepth 100000

theorem cur_newD {w : World} {A : Option Addr} {n cap : Nat} {zs : List Int} (h : Ints .u8 w A n cap zs) (ty : TypeId) : Cur (w.alloc (.cells #[.slice A n cap, .int .i64 0, .int .u64 0] ty)) w.heap.size 0 := by
  obtain ⟨h1, h2, h3, h4, h5⟩ := h
  refine ⟨by simp, fun j => World.frozen?_alloc_at _ _ _ _ rfl, A, n, cap, zs, 0, 0, by simp [World.cell?_alloc_at], by simp [World.cell?_alloc_at], by simp [World.cell?_alloc_at], Nat.le_refl _, Nat.le_trans h2 h3, h4, h1.alloc (Nat.le_refl _) _, fun z hz => ?_⟩
  have := h5 z hz
  simpa [Lit.wf, IntKind.min, IntKind.max, IntKind.signed, IntKind.bits] using this
/-- Some dictionary drawn from a code. -/
def DrewDC (w : World) (e : Ending) (w' : World) : Prop := ∃ (v : Value) (l : List EntD), e = .returned (.agg #[v]) ∧ DictT w' w.heap.size w.heap.size v l ∧ EntsB 41 8 l ∧ Below w.heap.size w w'
theorem drawPrefixPairs_calls (A : Option Addr) (n cap : Nat) (zs : List Int) (w : World) (h : Ints .u8 w A n cap zs) : Calls Tryz.prog 48 #[.slice A n cap] w (DrewDC w) := by
  obtain ⟨W1, hW1⟩ : ∃ W1, W1 = w.alloc (.cells #[.slice none 0 0] 31) := ⟨_, rfl⟩
  have hs1 : W1.heap.size = w.heap.size + 1 := by rw [hW1]; simp
  have hb1 : Below w.heap.size w W1 := by rw [hW1]; exact (Below.refl _ _).alloc (Nat.le_refl _) _
  have hr1 : Box W1 w.heap.size 31 (.slice none 0 0) := by rw [hW1]; exact Box.new w _ _
  have hi1 : Ints .u8 W1 A n cap zs := ⟨(h.1.below hb1).more hb1.size, h.2⟩
  obtain ⟨W2, hW2⟩ : ∃ W2, W2 = W1.alloc (.cells #[.slice A n cap, .int .i64 0, .int .u64 0] 107) := ⟨_, rfl⟩
  have hs2 : W2.heap.size = w.heap.size + 2 := by rw [hW2]; simp [hs1]
  have hc2 : Cur W2 (w.heap.size + 1) 0 := by rw [hW2, ← hs1]; exact cur_newD hi1 _
  have hb2 : Below w.heap.size w W2 := by rw [hW2]; exact hb1.alloc hb1.size _
  have hr2 : Box W2 w.heap.size 31 (.slice none 0 0) := by rw [hW2]; exact hr1.alloc _
  have HC := Lib.hid hc2
  have HB := Lib.hid hb2
  have HR := Lib.hid hr2
  have HZ := Lib.hid hs2
  have HW : W2 = (w.alloc (.cells #[.slice none 0 0] 31)).alloc (.cells #[.slice A n cap, .int .i64 0, .int .u64 0] 107) := by rw [hW2, hW1]
  clear h hs1 hb1 hr1 hi1 hW2 hs2 hc2 hb2 hr2 hW1 W1
  go_enter Tryz.func48, Tryz.ntmps48
  go_wp2_with fail
  rw [← HW]
  clear HW
  refine (l22Draw_calls (w.heap.size + 1) 0 _ HC.out (by omega)).mono ?_
  rintro e w1 ⟨v, l, rfl, hd, he, -, hc1, ho1⟩
  obtain ⟨Al, cl, rfl, -, -, -⟩ := hd.slice
  have hz := HZ.out
  have bR := HR.out.only ho1 (.inl (by omega))
  have HD := Lib.hid ((hd.low (lo' := w.heap.size) (lo2' := w.heap.size) (by omega) (by omega)).setBox bR (.slice Al l.length cl))
  have hb : Below w.heap.size w w1 := HB.out.trans (ho1.below (by omega) (by omega))
  have HB1 := Lib.hid (hb.setCell (p := ⟨w.heap.size, 0, none⟩) (Nat.le_refl _) (.slice Al l.length cl))
  have cR := bR.cell
  have fR := bR.free
  have HR1 := Lib.hid (bR.set_ (.slice Al l.length cl))
  clear hz bR hb hd hc1 ho1
  go_wp2
  refine bodyPost_ret (v := .agg #[.slice Al l.length cl]) (by simp [results, go_sem, HR1.out.cell]) rfl ?_
  exact ⟨_, l, rfl, HD.out, he, HB1.out⟩
theorem drawSegmentationErrors_calls (A : Option Addr) (n cap : Nat) (zs : List Int) (w : World) (h : Ints .u8 w A n cap zs) : Calls Tryz.prog 35 #[.slice A n cap] w (DrewDC w) := by
  obtain ⟨W1, hW1⟩ : ∃ W1, W1 = w.alloc (.cells #[.slice none 0 0] 31) := ⟨_, rfl⟩
  have hs1 : W1.heap.size = w.heap.size + 1 := by rw [hW1]; simp
  have hb1 : Below w.heap.size w W1 := by rw [hW1]; exact (Below.refl _ _).alloc (Nat.le_refl _) _
  have HR := Lib.hid (show Box W1 w.heap.size 31 (.slice none 0 0) by rw [hW1]; exact Box.new w _ _)
  have HI := Lib.hid (show Ints .u8 W1 A n cap zs from ⟨(h.1.below hb1).more hb1.size, h.2⟩)
  have HB := Lib.hid hb1
  have HZ := Lib.hid hs1
  clear h hs1 hb1
  go_enter Tryz.func35, Tryz.ntmps35
  go_wp2_with fail
  rw [← hW1]
  clear hW1
  refine (drawPrefixPairs_calls A n cap zs _ HI.out).mono ?_
  rintro e w1 ⟨v, l, rfl, hd, he, b1⟩
  obtain ⟨Al, cl, rfl, -, -, -⟩ := hd.slice
  have hz := HZ.out
  have bR := HR.out.far b1
  have HD := Lib.hid ((hd.low (lo' := w.heap.size) (lo2' := w.heap.size) (by omega) (by omega)).setBox bR (.slice Al l.length cl))
  have HB1 := Lib.hid ((HB.out.trans (b1.mono HB.out.size)).setCell (p := ⟨w.heap.size, 0, none⟩) (Nat.le_refl _) (.slice Al l.length cl))
  have cR := bR.cell
  have fR := bR.free
  have HR1 := Lib.hid (bR.set_ (.slice Al l.length cl))
  clear hz bR hd b1
  go_wp2
  refine bodyPost_ret (v := .agg #[.slice Al l.length cl]) (by simp [results, go_sem, HR1.out.cell]) rfl ?_
  exact ⟨_, l, rfl, HD.out, he, HB1.out⟩
theorem drawBoundaryConflicts_calls (A : Option Addr) (n cap : Nat) (zs : List Int) (w : World) (h : Ints .u8 w A n cap zs) : Calls Tryz.prog 18 #[.slice A n cap] w (DrewDC w) := by
  obtain ⟨W1, hW1⟩ : ∃ W1, W1 = w.alloc (.cells #[.slice none 0 0] 31) := ⟨_, rfl⟩
  have hs1 : W1.heap.size = w.heap.size + 1 := by rw [hW1]; simp
  have hb1 : Below w.heap.size w W1 := by rw [hW1]; exact (Below.refl _ _).alloc (Nat.le_refl _) _
  have HR := Lib.hid (show Box W1 w.heap.size 31 (.slice none 0 0) by rw [hW1]; exact Box.new w _ _)
  have HI := Lib.hid (show Ints .u8 W1 A n cap zs from ⟨(h.1.below hb1).more hb1.size, h.2⟩)
  have HB := Lib.hid hb1
  have HZ := Lib.hid hs1
  clear h hs1 hb1
  go_enter Tryz.func18, Tryz.ntmps18
  go_wp2_with fail
  rw [← hW1]
  clear hW1
  refine (drawPrefixPairs_calls A n cap zs _ HI.out).mono ?_
  rintro e w1 ⟨v, l, rfl, hd, he, b1⟩
  obtain ⟨Al, cl, rfl, -, -, -⟩ := hd.slice
  have hz := HZ.out
  have bR := HR.out.far b1
  have HD := Lib.hid ((hd.low (lo' := w.heap.size) (lo2' := w.heap.size) (by omega) (by omega)).setBox bR (.slice Al l.length cl))
  have HB1 := Lib.hid ((HB.out.trans (b1.mono HB.out.size)).setCell (p := ⟨w.heap.size, 0, none⟩) (Nat.le_refl _) (.slice Al l.length cl))
  have cR := bR.cell
  have fR := bR.free
  have HR1 := Lib.hid (bR.set_ (.slice Al l.length cl))
  clear hz bR hd b1
  go_wp2
  refine bodyPost_ret (v := .agg #[.slice Al l.length cl]) (by simp [results, go_sem, HR1.out.cell]) rfl ?_
  exact ⟨_, l, rfl, HD.out, he, HB1.out⟩
theorem drawAmbiguousStrokes_calls (A : Option Addr) (n cap : Nat) (zs : List Int) (w : World) (h : Ints .u8 w A n cap zs) : Calls Tryz.prog 26 #[.slice A n cap] w (DrewDC w) := by
  obtain ⟨W1, hW1⟩ : ∃ W1, W1 = w.alloc (.cells #[.slice none 0 0] 31) := ⟨_, rfl⟩
  have hs1 : W1.heap.size = w.heap.size + 1 := by rw [hW1]; simp
  have hb1 : Below w.heap.size w W1 := by rw [hW1]; exact (Below.refl _ _).alloc (Nat.le_refl _) _
  have HR := Lib.hid (show Box W1 w.heap.size 31 (.slice none 0 0) by rw [hW1]; exact Box.new w _ _)
  have HI := Lib.hid (show Ints .u8 W1 A n cap zs from ⟨(h.1.below hb1).more hb1.size, h.2⟩)
  have HB := Lib.hid hb1
  have HZ := Lib.hid hs1
  clear h hs1 hb1
  go_enter Tryz.func26, Tryz.ntmps26
  go_wp2_with fail
  rw [← hW1]
  clear hW1
  refine (drawPrefixPairs_calls A n cap zs _ HI.out).mono ?_
  rintro e w1 ⟨v, l, rfl, hd, he, b1⟩
  obtain ⟨Al, cl, rfl, -, -, -⟩ := hd.slice
  have hz := HZ.out
  have bR := HR.out.far b1
  have HD := Lib.hid ((hd.low (lo' := w.heap.size) (lo2' := w.heap.size) (by omega) (by omega)).setBox bR (.slice Al l.length cl))
  have HB1 := Lib.hid ((HB.out.trans (b1.mono HB.out.size)).setCell (p := ⟨w.heap.size, 0, none⟩) (Nat.le_refl _) (.slice Al l.length cl))
  have cR := bR.cell
  have fR := bR.free
  have HR1 := Lib.hid (bR.set_ (.slice Al l.length cl))
  clear hz bR hd b1
  go_wp2
  refine bodyPost_ret (v := .agg #[.slice Al l.length cl]) (by simp [results, go_sem, HR1.out.cell]) rfl ?_
  exact ⟨_, l, rfl, HD.out, he, HB1.out⟩
end Go.Proofs.YtekidodfcanjaaaGreatDoor
