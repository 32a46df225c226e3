/-
  The reference's draw of a dictionary with a list of strokes.
-/
import Derived.Test.YtekidodfcanjaaaGreatDoorPutS
import Derived.Test.YtekidodfcanjaaaGreatDoorAtS
namespace Go.Proofs.YtekidodfcanjaaaGreatDoor
open Go.RowKit
set_option linter.unusedVariables false
set_option linter.unusedSimpArgs false
set_option maxRecDepth 100000

/-- The state: result cell, the dictionary's cell (block B), the cursor in block w.heap.size + 1. -/
structure StkS (w wr : World) (B p : Nat) (v : Value) (l : List EntD) : Prop where
  res : Box wr w.heap.size 31 (.slice none 0 0)
  box : Box wr B 31 v
  bw : w.heap.size + 2 ≤ B
  dict : DictT wr (w.heap.size + 2) (w.heap.size + 2) v l
  cur : Cur wr (w.heap.size + 1) p
  bel : Below w.heap.size w wr
section
variable {w wr w' : World} {B p q : Nat} {v : Value} {l : List EntD}
theorem StkS.far (h : StkS w wr B p v l) (hb : Below wr.heap.size wr w') : StkS w w' B p v l := ⟨h.res.far hb, h.box.far hb, h.bw, h.dict.below hb, h.cur.below (hb.mono (by have := h.cur.1; omega)), h.bel.trans (hb.mono h.bel.size)⟩
theorem StkS.drew (h : StkS w wr B p v l) : StkS w wr.drew B p v l := h.far (Below.refl wr.heap.size wr).drew
theorem StkS.alloc (h : StkS w wr B p v l) (o : Obj) : StkS w (wr.alloc o) B p v l := h.far ((Below.refl _ _).alloc (Nat.le_refl _) o)
theorem StkS.move (h : StkS w wr B p v l) (hc : Cur w' (w.heap.size + 1) q) (ho : Only (w.heap.size + 1) (w.heap.size + 1 + 1) wr w') : StkS w w' B q v l := by
  have hB := h.bw
  have hz := h.cur.1
  exact ⟨h.res.only ho (.inl (by omega)), h.box.only ho (.inr (by omega)), h.bw, h.dict.only ho (by omega) (by omega), hc, h.bel.trans (ho.below (by omega) (by omega))⟩
theorem StkS.more (h : StkS w wr B p v l) (hq : p ≤ q) : StkS w wr B q v l := ⟨h.res, h.box, h.bw, h.dict, h.cur.more hq, h.bel⟩
theorem StkS.store (h : StkS w wr B p v l) {v2 : Value} {l2 : List EntD} (hd : DictT wr (w.heap.size + 2) (w.heap.size + 2) v2 l2) : StkS w (wr.setCell ⟨B, 0, none⟩ v2) B p v2 l2 :=
  ⟨h.res.setOther (show B ≠ w.heap.size by have := h.bw; omega) v2, h.box.set_ v2, h.bw, hd.setBox h.box v2, cur_new h.cur (show w.heap.size + 1 + 1 ≤ B by have := h.bw; omega) v2, h.bel.setCell (show w.heap.size ≤ B by have := h.bw; omega) v2⟩
end
/-- A single cell that holds no byte is written: the cursor's code does not lie there. -/
theorem cur_setBox {g m B : Nat} {T : TypeId} {v0 : Value} {w : World} (h : Cur w g m) (hb : Box w B T v0) (hne : B ≠ g) (hv : ∀ z, v0 ≠ .int .u8 z) (u : Value) : Cur (w.setCell ⟨B, 0, none⟩ u) g m := by
  obtain ⟨h1, h2, A, n, cap, zs, a, s, c0, c1, c2, ha, hn, hz, hr, hy⟩ := h
  have hk : ∀ k, k ≠ B → (w.setCell ⟨B, 0, none⟩ u).heap[k]? = w.heap[k]? := fun k hk => Below.heap_setCell _ _ _ _ hk
  have hg := hk g (fun e => hne e.symm)
  refine ⟨by simp [World.setCell]; exact h1, fun j => (World.frozen?_of_block (a := ⟨g, j, none⟩) hg).trans (h2 j), A, n, cap, zs, a, s, (World.cell?_of_block (a := ⟨g, 0, none⟩) hg).trans c0, (World.cell?_of_block (a := ⟨g, 1, none⟩) hg).trans c1, (World.cell?_of_block (a := ⟨g, 2, none⟩) hg).trans c2, ha, hn, hz, ⟨hr.1, fun hp => ?_⟩, hy⟩
  obtain ⟨b, off, hA, hbg, hc⟩ := hr.2 hp
  refine ⟨b, off, hA, hbg, fun j x hx => ?_⟩
  have hbB : b ≠ B := by
    intro e
    subst e
    obtain ⟨z, hzz⟩ := some_at zs (show 0 < zs.length by omega)
    have h0 := hc 0 (.int .u8 z) (by simp [hzz])
    unfold Box at hb
    simp only [World.cell?, hb, Nat.add_zero, Option.isSome_none, Bool.false_eq_true, if_false] at h0
    cases off with
    | zero => simp at h0; exact hv z h0
    | succ k => simp at h0
  exact (World.cell?_of_block (a := ⟨b, off + j, none⟩) (hk b hbB)).trans (hc j x hx)
/-- A dictionary and strokes were drawn; the cursor goes on. -/
def DrewStk (w : World) (e : Ending) (w' : World) : Prop := ∃ (v : Value) (l : List EntD) (A : Option Addr) (c : Nat) (xs : List Int), e = .returned (.tuple #[.pointer (some ⟨w.heap.size + 1, 0, none⟩), .agg #[v], .slice A xs.length c]) ∧
  DictT w' (w.heap.size + 2) (w.heap.size + 2) v l ∧ EntsB 41 8 l ∧ Reads w' w'.heap.size 1 A xs.length (ints xs) ∧ xs.length ≤ 61 ∧ xs.length ≤ c ∧ c ≤ maxLen ∧ Cur w' (w.heap.size + 1) 3000 ∧ (∀ b off, A = some ⟨b, off, none⟩ → w.heap.size + 2 ≤ b) ∧ Below w.heap.size w w'

def ones : List Int := [29, 30, 60, 61]
theorem ones_size : ∀ t ∈ ones, 0 ≤ t ∧ t ≤ 61 := by decide
theorem litD (w : World) (lo : Nat) (hlo : lo ≤ w.heap.size) : DictT (((w.alloc (.cells #[.int .i64 1] 3)).alloc (.cells #[.int .i64 1, .int .i64 1] 3)).alloc (.cells #[.slice (some ⟨w.heap.size, 0, none⟩) 1 1, .string ⟨#[97]⟩, .slice (some ⟨w.heap.size + 1, 0, none⟩) 2 2, .string ⟨#[98]⟩] 50)) lo lo (.slice (some ⟨w.heap.size + 2, 0, none⟩) 2 2) [([1], ⟨#[97]⟩), ([1, 1], ⟨#[98]⟩)] := by
  obtain ⟨w1, hw1⟩ : ∃ w1, w1 = w.alloc (.cells #[.int .i64 1] 3) := ⟨_, rfl⟩
  have s1 : w1.heap.size = w.heap.size + 1 := by rw [hw1]; simp
  have r1 : w1.ownsRow lo 3 1 (.slice (some ⟨w.heap.size, 0, none⟩) 1 1) 1 (ints [1]) := by rw [hw1]; exact World.ownsRow_lit (base := lo) (e := 3) (size := 1) w #[.int .i64 1] 1 hlo (by unfold maxLen; omega) (by simp)
  rw [← hw1]
  obtain ⟨w2, hw2⟩ : ∃ w2, w2 = w1.alloc (.cells #[.int .i64 1, .int .i64 1] 3) := ⟨_, rfl⟩
  have s2 : w2.heap.size = w.heap.size + 2 := by rw [hw2]; simp [s1]
  have r2 : w2.ownsRow lo 3 1 (.slice (some ⟨w.heap.size + 1, 0, none⟩) 2 2) 2 (ints [1, 1]) := by rw [hw2, ← s1]; exact World.ownsRow_lit (base := lo) (e := 3) (size := 1) w1 #[.int .i64 1, .int .i64 1] 2 (by omega) (by unfold maxLen; omega) (by simp)
  rw [← hw2]
  refine ⟨[.slice (some ⟨w.heap.size, 0, none⟩) 1 1, .slice (some ⟨w.heap.size + 1, 0, none⟩) 2 2], rfl, ?_, fun j u c hu hc => ?_⟩
  · have := World.ownsRow_lit (base := lo) (e := 50) (size := 2) w2 #[.slice (some ⟨w.heap.size, 0, none⟩) 1 1, .string ⟨#[97]⟩, .slice (some ⟨w.heap.size + 1, 0, none⟩) 2 2, .string ⟨#[98]⟩] 2 (by omega) (by unfold maxLen; omega) (by simp)
    rw [s2] at this
    exact this
  · have k1 : RowN 3 lo w2 (some ⟨w.heap.size, 0, none⟩) 1 (ints [1]) := (RowN.of_own r1 (Nat.le_refl _)).keep (by rw [hw2]; exact KeepN.alloc _ _)
    have k2 : RowN 3 lo w2 (some ⟨w.heap.size + 1, 0, none⟩) 2 (ints [1, 1]) := RowN.of_own r2 (Nat.le_refl _)
    match j, hu, hc with
    | 0, hu, hc =>
      simp only [List.getElem?_cons_zero, Option.some.injEq] at hu hc
      subst hu hc
      exact ⟨_, 1, rfl, k1.keep (KeepN.alloc _ _), Nat.le_refl _, by unfold maxLen; omega⟩
    | 1, hu, hc =>
      simp only [List.getElem?_cons_succ, List.getElem?_cons_zero, Option.some.injEq] at hu hc
      subst hu hc
      exact ⟨_, 2, rfl, k2.keep (KeepN.alloc _ _), Nat.le_refl _, by unfold maxLen; omega⟩
    | j + 2, hu, hc => simp at hu

set_option maxHeartbeats 8000000 in
theorem l22DrawStrokes_calls (A : Option Addr) (n cap : Nat) (zs : List Int) (w : World) (h : Ints .u8 w A n cap zs) : Calls Tryz.prog 59 #[.slice A n cap] w (DrewStk w) := by
  obtain ⟨W1, hW1⟩ : ∃ W1, W1 = w.alloc (.cells #[.slice none 0 0] 31) := ⟨_, rfl⟩
  have hs1 : W1.heap.size = w.heap.size + 1 := by rw [hW1]; simp
  have hb1 : Below w.heap.size w W1 := by rw [hW1]; exact (Below.refl _ _).alloc (Nat.le_refl _) _
  have hr1 : Box W1 w.heap.size 31 (.slice none 0 0) := by rw [hW1]; exact Box.new w _ _
  have hi1 : Ints .u8 W1 A n cap zs := ⟨(h.1.below hb1).more hb1.size, h.2⟩
  obtain ⟨W2, hW2⟩ : ∃ W2, W2 = W1.alloc (.cells #[.slice A n cap, .int .i64 0, .int .u64 0] 107) := ⟨_, rfl⟩
  have hs2 : W2.heap.size = w.heap.size + 2 := by rw [hW2]; simp [hs1]
  have hc2 : Cur W2 (w.heap.size + 1) 0 := by rw [hW2, ← hs1]; exact cur_newD hi1 _
  have hb2 : Below w.heap.size w W2 := by rw [hW2]; exact hb1.alloc hb1.size _
  have hr2 : Box W2 w.heap.size 31 (.slice none 0 0) := by rw [hW2]; exact hr1.alloc _
  have HC := Lib.hid hc2
  have HB := Lib.hid hb2
  have HR := Lib.hid hr2
  have HZ := Lib.hid hs2
  have HW : W2 = (w.alloc (.cells #[.slice none 0 0] 31)).alloc (.cells #[.slice A n cap, .int .i64 0, .int .u64 0] 107) := by rw [hW2, hW1]
  clear h hs1 hb1 hr1 hi1 hW2 hs2 hc2 hb2 hr2 hW1 W1
  go_enter Tryz.func59, Tryz.ntmps59
  go_wp2_with fail
  rw [← HW]
  clear HW
  refine (l22Draw_calls (w.heap.size + 1) 0 _ HC.out (by omega)).mono ?_
  rintro e w1 ⟨v, l, rfl, hd, he, -, hc1, ho1⟩
  obtain ⟨Al, cl, rfl, -, -, -⟩ := hd.slice
  have hz := HZ.out
  have hz1 := ho1.size
  have HD := Lib.hid (show StkS w (w1.alloc (.cells #[.slice Al l.length cl] 31)) w1.heap.size 1100 (.slice Al l.length cl) l from
    ⟨(HR.out.only ho1 (.inl (by omega))).alloc _, Box.new w1 _ _, by omega, (hd.low (by omega) (by omega)).below ((Below.refl _ _).alloc (Nat.le_refl _) _), (hc1.more (by omega)).alloc _, (HB.out.trans (ho1.below (by omega) (by omega))).alloc (by omega) _⟩)
  have HE := Lib.hid he
  clear hd he hc1 ho1 hz HC HB HR HZ
  go_wp2_with fail
  obtain ⟨x1, hx1⟩ : ∃ x1, x1 = w1.alloc (.cells #[.slice Al l.length cl] 31) := ⟨_, rfl⟩
  obtain ⟨B, hB⟩ : ∃ B, B = w1.heap.size := ⟨_, rfl⟩
  rw [← hx1, ← hB] at HD
  rw [← hx1]
  have hxs : x1.heap.size = B + 1 := by rw [hx1, hB]; simp
  have own0 : (x1.alloc (.cells #[] 3)).ownsRow x1.heap.size 3 1 (.slice (some ⟨B + 1, 0, none⟩) 0 0) 0 [] := by
    have := World.ownsRow_made (base := x1.heap.size) (e := 3) (size := 1) x1 #[] 0 (Nat.le_refl _) (by simp) rfl
    rw [hxs] at this ⊢
    exact this
  have HXS := Lib.hid hxs
  clear hxs
  refine (pick_calls (w.heap.size + 1) 1100 4 _ (HD.out.cur.alloc _) (by omega) (by omega) (by omega)).mono ?_
  rintro e w3 ⟨x, rfl, hx, hc3, ho3⟩
  have HC3 := Lib.hid hc3
  have ho3' : Only (w.heap.size + 1) (w.heap.size + 1 + 1) x1 w3 := (only_alloc (Only.refl x1) _).trans ho3
  have own3 := ownsRow_only own0 ho3 (fun g' hg' => by have h1 := (own0.lt g' hg').1; have h2 := HD.out.cur.1; omega)
  have HO3 := Lib.hid ho3'
  have HBB := Lib.hid hB
  have hbb := HD.out.bw
  clear hc3 ho3 ho3' own0 hx1 hz1
  go_upto_block 0 with fail
  rw [← hB]
  clear hB
  go_cut [7] from 10 to 69 (fun u wx => ∃ (xs : List Int) (p : Nat) (wa : World), xs.length ≤ 24 ∧ p ≤ 1110 ∧ wx.ownsRow wa.heap.size 3 1 u xs.length (ints xs) ∧ StkS w wa B p (.slice Al l.length cl) l ∧ Cur wx (w.heap.size + 1) p ∧ Only (w.heap.size + 1) (w.heap.size + 1 + 1) wa wx)
  case first =>
    go_wp2
    go_loopw [7, 8] (fun u i wr => ∃ (xs : List Int) (q p : Nat) (wa : World), q ≤ 3 ∧ xs.length + 8 * q ≤ 24 ∧ i = .int .i64 q ∧ p + 2 * q ≤ 1110 ∧ wr.ownsRow wa.heap.size 3 1 u xs.length (ints xs) ∧ StkS w wa B p (.slice Al l.length cl) l ∧ Cur wr (w.heap.size + 1) p ∧ Only (w.heap.size + 1) (w.heap.size + 1 + 1) wa wr) (fun _ i _ => (intOf i).toNat)
    case atStart => exact ⟨[], x, 1102, x1, by omega, by simp; omega, rfl, by omega, own3, HD.out.more (by omega), HC3.out, HO3.out⟩
    case round =>
      clear own3 HD HC3 HO3
      obtain ⟨xs, q, p, wa, hq, hxq, rfl, hpq, own, hS, hc, ho⟩ := hrel
      have HS := Lib.hid (hS.move hc ho)
      have HA := Lib.hid hS
      have HO := Lib.hid ho
      have HCU := Lib.hid hc
      clear hS hc ho
      obtain ⟨Au, ku, rfl, hrU, hku, hkm⟩ := (Own.of_row own).slice
      have cB := HS.out.box.cell
      clear hrU
      by_cases hq0 : 0 < q
      · have q0 : (0 : Int) < (q : Int) := by omega
        by_cases hl0 : 0 < l.length
        · have l0 : (0 : Int) < (l.length : Int) := by omega
          obtain ⟨A9, k9, hv9, hr9, -, -⟩ := HS.out.dict.slice
          injection hv9 with hv1 _ hv2
          subst hv1 hv2
          obtain ⟨bD, oD, hAD, -, -⟩ := hr9 hl0
          subst hAD
          clear hr9
          have hl41 := HE.out.1
          have cBD : wr.drew.cell? ⟨B, 0, none⟩ = some (.slice (some ⟨bD, oD, none⟩) l.length cl) := cB
          have HPK := Lib.hid (pick_calls (w.heap.size + 1) p (l.length : Int) wr.drew HS.out.drew.cur (by omega) (by omega) (by omega))
          go_wp2
          first | refine wp_region_noPanic ?_ | skip
          refine wp_region_held_drew (S := fun w' => w'.cell? ⟨B, 0, none⟩ = some (.slice (some ⟨bD, oD, none⟩) l.length cl)) (by kernel_rfl) (by exact cBD) (fun hHeld => ?_)
          (refine wpAnyH_take (i := 0) (v := ?_) rfl (by kernel_rfl) (by kernel_rfl) (by kernel_rfl) (fun _ _ _ h => h) (Or.inl ⟨by rfl, ?_⟩) (by assumption) ?_; rotate_left; focus (intro w hSw; (try dsimp only at hSw); go_simp; try with_reducible rfl))
          (try simp only [List.getElem_toArray, List.getElem_cons_succ, List.getElem_cons_zero, Act.put, List.setIfInBounds_toArray, List.set_cons_zero, List.set_cons_succ])
          (refine wpAnyH_take (i := 1) (v := ?_) rfl (by kernel_rfl) (by kernel_rfl) (by kernel_rfl) (fun _ _ _ h => h) (Or.inl ⟨by rfl, ?_⟩) (by assumption) ?_; rotate_left; focus (intro w hSw; (try dsimp only at hSw); go_simp; try with_reducible rfl))
          (try simp only [List.getElem_toArray, List.getElem_cons_succ, List.getElem_cons_zero, Act.put, List.setIfInBounds_toArray, List.set_cons_zero, List.set_cons_succ])
          (refine wpAnyH_take (i := 2) (v := ?_) rfl (by kernel_rfl) (by kernel_rfl) (by kernel_rfl) (fun _ _ _ h => h) (Or.inl ⟨by rfl, ?_⟩) (by assumption) ?_; rotate_left; focus (intro w hSw; (try dsimp only at hSw); go_simp; try with_reducible rfl))
          (try simp only [List.getElem_toArray, List.getElem_cons_succ, List.getElem_cons_zero, Act.put, List.setIfInBounds_toArray, List.set_cons_zero, List.set_cons_succ])
          (refine wpAnyH_take (i := 3) (v := ?_) rfl (by kernel_rfl) (by kernel_rfl) (by kernel_rfl) (fun _ _ _ h => h) (Or.inl ⟨by rfl, ?_⟩) (by assumption) ?_; rotate_left; focus (intro w hSw; (try dsimp only at hSw); go_simp; try with_reducible rfl))
          (try simp only [List.getElem_toArray, List.getElem_cons_succ, List.getElem_cons_zero, Act.put, List.setIfInBounds_toArray, List.set_cons_zero, List.set_cons_succ])
          (refine wpAnyH_take (i := 4) (v := ?_) rfl (by kernel_rfl) (by kernel_rfl) (by kernel_rfl) (fun _ _ _ h => h) (Or.inl ⟨by rfl, ?_⟩) (by assumption) ?_; rotate_left; focus (intro w hSw; (try dsimp only at hSw); go_simp; try with_reducible rfl))
          (try simp only [List.getElem_toArray, List.getElem_cons_succ, List.getElem_cons_zero, Act.put, List.setIfInBounds_toArray, List.set_cons_zero, List.set_cons_succ])
          (refine wpAnyH_take (i := 5) (v := ?_) rfl (by kernel_rfl) (by kernel_rfl) (by kernel_rfl) (fun _ _ _ h => h) (Or.inl ⟨by rfl, ?_⟩) (by assumption) ?_; rotate_left; focus (intro w hSw; (try dsimp only at hSw); go_simp; try with_reducible rfl))
          (try simp only [List.getElem_toArray, List.getElem_cons_succ, List.getElem_cons_zero, Act.put, List.setIfInBounds_toArray, List.set_cons_zero, List.set_cons_succ])
          (refine wpAnyH_take (i := 6) (v := ?_) rfl (by kernel_rfl) (by kernel_rfl) (by kernel_rfl) (fun _ _ _ h => h) (Or.inl ⟨by rfl, ?_⟩) (by assumption) ?_; rotate_left; focus (intro w hSw; (try dsimp only at hSw); go_simp; try with_reducible rfl))
          (try simp only [List.getElem_toArray, List.getElem_cons_succ, List.getElem_cons_zero, Act.put, List.setIfInBounds_toArray, List.set_cons_zero, List.set_cons_succ])
          refine wpAnyH_ready (rs := [7]) (by kernel_rfl) (by simp) ?_
          refine AllReadyH.cons rfl (fun K hK => ?_) AllReadyH.nil
          go_simp
          refine HPK.out.mono ?_
          rintro e w5 ⟨x5, rfl, hx5, hc5, ho5⟩
          have hx5' : x5 < l.length := by omega
          have HS5 := Lib.hid (HS.out.drew.move hc5 ho5)
          have own5 := ownsRow_only (show wr.drew.ownsRow wa.heap.size 3 1 (.slice Au xs.length ku) xs.length (ints xs) from own) ho5 (fun g' hg' => by have h1 := (own.lt g' hg').1; have h2 := HA.out.cur.1; omega)
          obtain ⟨A8, k8, hv8, hr8, -, -⟩ := HS5.out.dict.slice
          injection hv8 with hw1 _ hw2
          subst hw1 hw2
          obtain ⟨b8, o8, hA8, -, hc8⟩ := hr8 hl0
          injection hA8 with hA8
          injection hA8 with e1 e2 _
          subst e1 e2
          obtain ⟨⟨ox, tx⟩, hox⟩ := some_at l hx5'
          obtain ⟨ai, ci, cD, -, rI, -, -⟩ := DictR.at_ hc8 hox
          have hol := (HE.out.2 _ (List.mem_of_getElem? hox)).1
          simp only at hol
          have j0 : (0 : Int) ≤ (x5 : Int) := by omega
          have j1 : (x5 : Int) < (l.length : Int) := by omega
          have cB5 := HS5.out.box.cell
          clear hox hc8 hr8 hc5
          refine hK.out _ _ (cB5) (fun hHeld => ?_)
          clear hK K
          (try simp only [List.getElem_toArray, List.getElem_cons_succ, List.getElem_cons_zero, Act.put, List.setIfInBounds_toArray, List.set_cons_zero, List.set_cons_succ])
          (refine wpAnyH_take (i := 8) (v := ?_) rfl (by kernel_rfl) (by kernel_rfl) (by kernel_rfl) (fun _ _ _ h => h) (Or.inl ⟨by rfl, ?_⟩) (by assumption) ?_; rotate_left; focus (intro w hSw; (try dsimp only at hSw); go_simp; try with_reducible rfl))
          (try simp only [List.getElem_toArray, List.getElem_cons_succ, List.getElem_cons_zero, Act.put, List.setIfInBounds_toArray, List.set_cons_zero, List.set_cons_succ])
          (refine wpAnyH_take (i := 9) (v := ?_) rfl (by kernel_rfl) (by kernel_rfl) (by kernel_rfl) (fun _ _ _ h => h) (Or.inl ⟨by rfl, ?_⟩) (by assumption) ?_; rotate_left; focus (intro w hSw; (try dsimp only at hSw); go_simp; try with_reducible rfl))
          (try simp only [List.getElem_toArray, List.getElem_cons_succ, List.getElem_cons_zero, Act.put, List.setIfInBounds_toArray, List.set_cons_zero, List.set_cons_succ])
          refine wpAnyH_ready (rs := [10]) (by kernel_rfl) (by simp) ?_
          refine AllReadyH.cons rfl (fun K hK => ?_) AllReadyH.nil
          go_simp
          refine hK.out _ _ (cB5) (fun hHeld => ?_)
          clear hK K
          (try simp only [List.getElem_toArray, List.getElem_cons_succ, List.getElem_cons_zero, Act.put, List.setIfInBounds_toArray, List.set_cons_zero, List.set_cons_succ])
          refine wpAnyH_ready (rs := [11]) (by kernel_rfl) (by simp) ?_
          refine AllReadyH.cons rfl (fun K hK => ?_) AllReadyH.nil
          go_simp
          refine (spec_l22Join Au ai ku ci xs ox _ (Reads.of_own own5) rI (by omega) (by omega)).mono ?_
          rintro e w6 ⟨v6, rfl, o6, b6⟩
          have HS6 := Lib.hid (HS5.out.far b6)
          have cB6 := HS6.out.box.cell
          refine hK.out _ _ (cB6) (fun hHeld => ?_)
          clear hK K
          (try simp only [List.getElem_toArray, List.getElem_cons_succ, List.getElem_cons_zero, Act.put, List.setIfInBounds_toArray, List.set_cons_zero, List.set_cons_succ])
          (refine wpAnyH_take (i := 12) (v := ?_) rfl (by kernel_rfl) (by kernel_rfl) (by kernel_rfl) (fun _ _ _ h => h) (Or.inl ⟨by rfl, ?_⟩) (by assumption) ?_; rotate_left; focus (intro w hSw; (try dsimp only at hSw); go_simp; try with_reducible rfl))
          (try simp only [List.getElem_toArray, List.getElem_cons_succ, List.getElem_cons_zero, Act.put, List.setIfInBounds_toArray, List.set_cons_zero, List.set_cons_succ])
          refine wpAnyH_done (by kernel_rfl) ?_ _
          first | refine NoPanic.normal ?_ | skip
          clear hHeld cB6 cB5 cBD cB cD j0 j1 rI l0
          go_wp2
          go_roundw
          case rel => exact ⟨xs ++ ox, q - 1, p + 2, w5, by omega, by simp; omega, by go_num, by omega, o6.1, HS5.out, HS6.out.cur, Only.of_below b6⟩
          case measure => simp [intOf]; omega
        · have l0 : ¬ (0 : Int) < (l.length : Int) := by omega
          go_wp2
          go_meet
          exact ⟨xs, p, wa, by omega, by omega, own, HA.out, HCU.out, HO.out⟩
      · obtain rfl : q = 0 := by omega
        go_wp2
        go_meet
        exact ⟨xs, p, wa, by omega, by omega, own, HA.out, HCU.out, HO.out⟩
  case rest =>
  clear own3 HD HC3 HO3
  obtain ⟨xs, p, wa, hxl, hp, own, hS, hc, ho⟩ := hcut
  have HA := Lib.hid hS
  have HO := Lib.hid ho
  obtain ⟨Au, ku, rfl, -, hku, hkm⟩ := (Own.of_row own).slice
  go_wp2_with fail
  refine (one_calls (w.heap.size + 1) p 5 _ hc (by omega) (by omega) (by omega)).mono ?_
  rintro e w5 ⟨b5, rfl, hc5, ho5⟩
  have own5 := ownsRow_only own ho5 (fun g' hg' => by have h1 := (own.lt g' hg').1; have h2 := HA.out.cur.1; omega)
  have HC5 := Lib.hid hc5
  have HO5 := Lib.hid (HO.out.trans ho5)
  have hgz := HA.out.cur.1
  clear hc5 ho5 own hS hc ho
  go_upto_if 41 with fail
  go_cut [7] from 10 to 69 (fun u wx => ∃ (xs : List Int) (p' : Nat), xs.length ≤ 25 ∧ p' ≤ 1116 ∧ p ≤ p' ∧ wx.ownsRow wa.heap.size 3 1 u xs.length (ints xs) ∧ Cur wx (w.heap.size + 1) p' ∧ Only (w.heap.size + 1) (w.heap.size + 1 + 1) wa wx)
  case first =>
    cases b5
    · go_wp2
      go_meet
      exact ⟨xs, p + 2, by omega, by omega, by omega, own5, HC5.out, HO5.out⟩
    · go_wp2_with fail
      refine (pick_calls (w.heap.size + 1) _ 3 _ HC5.out (by omega) (by omega) (by omega)).mono ?_
      rintro e w6 ⟨z, rfl, hz, hc6, ho6⟩
      have own6 := ownsRow_only own5 ho6 (fun g' hg' => by have h1 := (own5.lt g' hg').1; omega)
      have HC6 := Lib.hid hc6
      have HO6 := Lib.hid (HO5.out.trans ho6)
      have hz6 := HO6.out.size
      have z1 : IntKind.i64.wrap (1 + (z : Int)) = 1 + (z : Int) := IntWalk.i64_in _ (by omega)
      clear hc6 ho6 own5
      go_wp2_with (at_builtin; refine wpList_append_oneA own6 hz6 (.tmp 42) (.tmp 46) 26 Tryz.underlying26 info_int (by omega) (by unfold maxLen; omega) ⟨rfl, rfl, rfl, rfl, rfl, rfl⟩ rfl ?_; intro v7 w7 own7 gr7 at7)
      go_meet
      exact ⟨xs ++ [1 + (z : Int)], p + 4, by simp; omega, by omega, by omega, by rw [← ints_snocD, List.length_append]; exact own7, cur_row HC6.out gr7 (fun b hb => by have := (own6.lt b hb).1; omega), only_row HO6.out gr7 (fun b hb => (own6.lt b hb).1)⟩
  case rest =>
  obtain ⟨ys, p2, hyl, hp2, hpp2, own7, hc7, ho7⟩ := hcut
  have HO7 := Lib.hid ho7
  obtain ⟨Ay, ky, rfl, -, hky, hkym⟩ := (Own.of_row own7).slice
  clear own5 HC5 HO5 hku hkm
  go_wp2_with fail
  refine (one_calls (w.heap.size + 1) p2 40 _ hc7 (by omega) (by omega) (by omega)).mono ?_
  rintro e w8 ⟨b8, rfl, hc8, ho8⟩
  have own8 := ownsRow_only own7 ho8 (fun g' hg' => by have h1 := (own7.lt g' hg').1; omega)
  have HC8 := Lib.hid hc8
  have HO8 := Lib.hid (HO7.out.trans ho8)
  have HS8 := Lib.hid (HA.out.move HC8.out HO8.out)
  clear hc7 ho7 hc8 ho8 own7 HO7 HO
  go_upto_if 49 with fail
  go_cut [7] from 10 to 69 (fun u wx => ∃ (v : Value) (l : List EntD) (xs : List Int) (p : Nat) (wa : World), xs.length ≤ 61 ∧ p ≤ 1200 ∧ wx.ownsRow wa.heap.size 3 1 u xs.length (ints xs) ∧ EntsB 41 8 l ∧ StkS w wa B p v l ∧ Cur wx (w.heap.size + 1) p ∧ Only (w.heap.size + 1) (w.heap.size + 1 + 1) wa wx)
  case first =>
    cases b8
    · go_wp2
      go_meet
      exact ⟨_, l, ys, p2 + 2, wa, by omega, by omega, own8, HE.out, HA.out.more (by omega), HC8.out, HO8.out⟩
    · have cB8 := HS8.out.box.cell
      have fB8 := HS8.out.box.free
      have hz8 := HS8.out.cur.1
      have bX8 := ((HS8.out.box.alloc (.cells #[.int .i64 1] 3)).alloc (.cells #[.int .i64 1, .int .i64 1] 3)).alloc (.cells #[.slice (some ⟨w8.heap.size, 0, none⟩) 1 1, .string ⟨#[97]⟩, .slice (some ⟨w8.heap.size + 1, 0, none⟩) 2 2, .string ⟨#[98]⟩] 50)
      have cX8 := bX8.cell
      have fX8 := bX8.free
      clear bX8
      obtain ⟨XD, hXD⟩ : ∃ XD, XD = (((w8.alloc (.cells #[.int .i64 1] 3)).alloc (.cells #[.int .i64 1, .int .i64 1] 3)).alloc (.cells #[.slice (some ⟨w8.heap.size, 0, none⟩) 1 1, .string ⟨#[97]⟩, .slice (some ⟨w8.heap.size + 1, 0, none⟩) 2 2, .string ⟨#[98]⟩] 50)).setCell ⟨B, 0, none⟩ (.slice (some ⟨w8.heap.size + 2, 0, none⟩) 2 2) := ⟨_, rfl⟩
      have HXS := Lib.hid (show StkS w XD B (p2 + 2) (.slice (some ⟨w8.heap.size + 2, 0, none⟩) 2 2) [([1], ⟨#[97]⟩), ([1, 1], ⟨#[98]⟩)] by rw [hXD]; exact (((HS8.out.alloc _).alloc _).alloc _).store (litD w8 _ (by omega)))
      have hxz : XD.heap.size = w8.heap.size + 3 := by rw [hXD]; simp [World.setCell]
      have ownX : ((XD.alloc (.cells #[] 3)).alloc (.cells (ones.map (Value.int .i64)).toArray 3)).ownsRow XD.heap.size 3 1 (.slice (some ⟨w8.heap.size + 3, 0, none⟩) 0 0) 0 [] := by
        have := (World.ownsRow_made (base := XD.heap.size) (e := 3) (size := 1) XD #[] 0 (Nat.le_refl _) (by simp) rfl).alloc (.cells (ones.map (Value.int .i64)).toArray 3)
        rw [hxz] at this ⊢
        exact this
      have hs4 : (XD.alloc (.cells #[] 3)).heap.size = w8.heap.size + 4 := by simp [hxz]
      have HAM := Lib.hid (among_calls (w.heap.size + 1) (p2 + 2) (w8.heap.size + 4) 4 4 ones ((XD.alloc (.cells #[] 3)).alloc (.cells (ones.map (Value.int .i64)).toArray 3)) ((HXS.out.cur.alloc _).alloc _) (by omega) (by decide) (by decide) (by decide) (by omega) (by simp [hxz]) (fun j t ht => by rw [← hs4]; exact new_at (xs := ones.map (Value.int .i64)) (by simp [ht])))
      have HXD := Lib.hid hXD
      have HXZ := Lib.hid hxz
      have HOX := Lib.hid ownX
      clear hXD hxz ownX hs4
      go_wp2_with fail
      rw [← HXD.out]
      refine HAM.out.mono ?_
      rintro e w9 ⟨t, rfl, htm, hc9, ho9⟩
      have ht61 := ones_size t htm
      have own9 := ownsRow_only HOX.out ho9 (fun g' hg' => by have h1 := (HOX.out.lt g' hg').1; have h2 := HXS.out.cur.1; omega)
      have HC9 := Lib.hid hc9
      have HO9 := Lib.hid (show Only (w.heap.size + 1) (w.heap.size + 1 + 1) XD w9 from (only_alloc (only_alloc (Only.refl XD) _) _).trans ho9)
      obtain ⟨tq, rfl⟩ : ∃ tq : Nat, t = tq := ⟨t.toNat, by omega⟩
      clear hc9 ho9 htm cB8 fB8 cX8 fX8
      go_wp2
      go_loopw [7, 9] (fun u i wr => ∃ (xs : List Int) (q : Nat), q ≤ 61 ∧ xs.length + q ≤ 61 ∧ i = .int .i64 q ∧ wr.ownsRow XD.heap.size 3 1 u xs.length (ints xs) ∧ Cur wr (w.heap.size + 1) (p2 + 4) ∧ Only (w.heap.size + 1) (w.heap.size + 1 + 1) XD wr) (fun _ i _ => (intOf i).toNat)
      case atStart => exact ⟨[], tq, by omega, by simp; omega, rfl, own9, HC9.out, HO9.out⟩
      case round =>
        clear own9 HC9 HO9
        obtain ⟨xs, q, hq, hxq, rfl, own, hc, ho⟩ := hrel
        have HC := Lib.hid hc
        have HO := Lib.hid ho
        obtain ⟨Au, ku, rfl, -, -, -⟩ := (Own.of_row own).slice
        have hz := ho.size
        clear hc ho
        by_cases hq0 : 0 < q
        · have q0 : (0 : Int) < (q : Int) := by omega
          go_wp2_with (at_builtin; refine wpList_append_oneA own hz (.tmp 64) (.tmp 65) 26 Tryz.underlying26 info_int (by omega) (by unfold maxLen; omega) ⟨rfl, rfl, rfl, rfl, rfl, rfl⟩ rfl ?_; intro v7 w7 own7 gr7 at7)
          go_roundw
          case rel => exact ⟨xs ++ [1], q - 1, by omega, by simp; omega, by go_num, by rw [← ints_snocD, List.length_append]; exact own7, cur_row HC.out gr7 (fun b hb => by have h1 := (own.lt b hb).1; have h2 := HXS.out.cur.1; omega), only_row HO.out gr7 (fun b hb => (own.lt b hb).1)⟩
          case measure => simp [intOf]; omega
        · obtain rfl : q = 0 := by omega
          go_wp2
          go_meet
          exact ⟨_, _, xs, p2 + 4, XD, by omega, by omega, own, ⟨by simp, fun c hc => by
            simp only [List.mem_cons, List.not_mem_nil, or_false] at hc
            rcases hc with rfl | rfl
            · exact ⟨by simp, by show (⟨#[97]⟩ : ByteArray).size ≤ 400; decide⟩
            · exact ⟨by simp, by show (⟨#[98]⟩ : ByteArray).size ≤ 400; decide⟩⟩, HXS.out.more (by omega), HC.out, HO.out⟩
  case rest =>
  obtain ⟨v, l2, zz, p3, wb, hzl, hp3, own9, he9, hS9, hc9, ho9⟩ := hcut
  obtain ⟨Av, kv, rfl, -, -, -⟩ := hS9.dict.slice
  obtain ⟨Az, kz, rfl, -, hkz, hkzm⟩ := (Own.of_row own9).slice
  have HE9 := Lib.hid he9
  have hgb := hS9.cur.1
  have HS9 := Lib.hid (hS9.move hc9 ho9)
  have cB9 := HS9.out.box.cell
  have fR9 := HS9.out.res.free
  have cR9 := HS9.out.res.cell
  have hBw := HS9.out.bw
  have HOW := Lib.hid own9
  have cBD : wc.drew.cell? ⟨B, 0, none⟩ = some (.slice Av l2.length kv) := cB9
  have cRD : wc.drew.cell? ⟨w.heap.size, 0, none⟩ = some (.slice none 0 0) := cR9
  have fRD : wc.drew.frozen? ⟨w.heap.size, 0, none⟩ = false := fR9
  clear own8 HC8 HO8 HS8 HA HE he9 hS9 hc9 ho9 own9 cB9 fR9 cR9
  go_wp2
  first | refine wp_region_noPanic ?_ | skip
  refine wp_region_held_drew (S := fun w' => w'.cell? ⟨B, 0, none⟩ = some (.slice Av l2.length kv)) (by kernel_rfl) (by exact cBD) (fun hHeld => ?_)
  (refine wpAnyH_take (i := 0) (v := ?_) rfl (by kernel_rfl) (by kernel_rfl) (by kernel_rfl) (fun _ _ _ h => h) (Or.inl ⟨by rfl, ?_⟩) (by assumption) ?_; rotate_left; focus (intro w hSw; (try dsimp only at hSw); go_simp; try with_reducible rfl))
  (try simp only [List.getElem_toArray, List.getElem_cons_succ, List.getElem_cons_zero, Act.put, List.setIfInBounds_toArray, List.set_cons_zero, List.set_cons_succ])
  (refine wpAnyH_take (i := 1) (v := ?_) rfl (by kernel_rfl) (by kernel_rfl) (by kernel_rfl) (fun _ _ _ h => h) (Or.inl ⟨by rfl, ?_⟩) (by assumption) ?_; rotate_left; focus (intro w hSw; (try dsimp only at hSw); go_simp; try with_reducible rfl))
  (try simp only [List.getElem_toArray, List.getElem_cons_succ, List.getElem_cons_zero, Act.put, List.setIfInBounds_toArray, List.set_cons_zero, List.set_cons_succ])
  (refine wpAnyH_take (i := 2) (v := ?_) rfl (by kernel_rfl) (by kernel_rfl) (by kernel_rfl) (fun _ _ _ h => h) (Or.inl ⟨by rfl, ?_⟩) (by assumption) ?_; rotate_left; focus (intro w hSw; (try dsimp only at hSw); go_simp; try with_reducible rfl))
  (try simp only [List.getElem_toArray, List.getElem_cons_succ, List.getElem_cons_zero, Act.put, List.setIfInBounds_toArray, List.set_cons_zero, List.set_cons_succ])
  (refine wpAnyH_take (i := 3) (v := ?_) rfl (by kernel_rfl) (by kernel_rfl) (by kernel_rfl) (fun _ _ _ h => h) (Or.inl ⟨by rfl, ?_⟩) (by assumption) ?_; rotate_left; focus (intro w hSw; (try dsimp only at hSw); go_simp; try with_reducible rfl))
  (try simp only [List.getElem_toArray, List.getElem_cons_succ, List.getElem_cons_zero, Act.put, List.setIfInBounds_toArray, List.set_cons_zero, List.set_cons_succ])
  refine wpAnyH_ready (rs := [4]) (by kernel_rfl) (by simp) ?_
  refine AllReadyH.cons rfl (fun K hK => ?_) AllReadyH.nil
  go_simp
  refine hK.out _ _ ((World.cell?_setCell_other _ _ _ _ (fun e => absurd (congrArg Addr.block e) (show w.heap.size ≠ B by omega))).trans cBD) (fun hHeld => ?_)
  clear hK K
  (try simp only [List.getElem_toArray, List.getElem_cons_succ, List.getElem_cons_zero, Act.put, List.setIfInBounds_toArray, List.set_cons_zero, List.set_cons_succ])
  (refine wpAnyH_take (i := 5) (v := ?_) rfl (by kernel_rfl) (by kernel_rfl) (by kernel_rfl) (fun _ _ _ h => h) (Or.inl ⟨by rfl, ?_⟩) (by assumption) ?_; rotate_left; focus (intro w hSw; (try dsimp only at hSw); go_simp; try with_reducible rfl))
  (try simp only [List.getElem_toArray, List.getElem_cons_succ, List.getElem_cons_zero, Act.put, List.setIfInBounds_toArray, List.set_cons_zero, List.set_cons_succ])
  refine wpAnyH_done (by kernel_rfl) ?_ _
  first | refine NoPanic.normal ?_ | skip
  clear hHeld
  go_wp2
  refine bodyPost_ret (v := .tuple #[.pointer (some ⟨w.heap.size + 1, 0, none⟩), .agg #[.slice Av l2.length kv], .slice Az zz.length kz]) (by simp [results, go_sem, (HS9.out.res.set_ (.slice Av l2.length kv)).cell]) rfl ?_
  have HD := HS9.out.drew
  exact ⟨_, l2, Az, kz, zz, rfl, HD.dict.setBox HD.res _, HE9.out, Reads.of_own (ownsRow_setCell_below HOW.out (a := ⟨w.heap.size, 0, none⟩) (show w.heap.size < wb.heap.size by omega) (.slice Av l2.length kv)), by omega, hkz, hkzm, (cur_setBox HD.cur HD.res (by omega) (fun z h => by cases h) _).more (by omega), fun b off hA => by
    have := (HOW.out.lt b (by rw [hA]; rfl)).1
    omega, HD.bel.setCell (p := ⟨w.heap.size, 0, none⟩) (Nat.le_refl _) _⟩
end Go.Proofs.YtekidodfcanjaaaGreatDoor
namespace Go.Proofs.YtekidodfcanjaaaGreatDoor
open Go.RowKit
set_option linter.unusedVariables false
set_option linter.unusedSimpArgs false
set_option maxRecDepth 100000

/-- The drawn strokes, in a block of the draw's own. -/
def RowB (w : World) (lo : Nat) (A : Option Addr) (xs : List Int) : Prop := 0 < xs.length → ∃ b off, A = some ⟨b, off, none⟩ ∧ lo ≤ b ∧ b < w.heap.size ∧ ∀ j u, (ints xs)[j]? = some u → w.cell? ⟨b, off + j, none⟩ = some u
theorem RowB.reads {w : World} {lo : Nat} {A : Option Addr} {xs : List Int} (h : RowB w lo A xs) : Reads w w.heap.size 1 A xs.length (ints xs) := ⟨by simp [ints], fun hn => by
  obtain ⟨b, off, hA, -, hb, hc⟩ := h hn
  exact ⟨b, off, hA, hb, hc⟩⟩
theorem RowB.keep {w w' : World} {lo : Nat} {A : Option Addr} {xs : List Int} (h : RowB w lo A xs) (hs : w.heap.size ≤ w'.heap.size) (hk : ∀ p : Addr, lo ≤ p.block → p.block < w.heap.size → w'.cell? p = w.cell? p) : RowB w' lo A xs := fun hn => by
  obtain ⟨b, off, hA, hl, hb, hc⟩ := h hn
  exact ⟨b, off, hA, hl, by omega, fun j u hj => (hk ⟨b, off + j, none⟩ hl hb).trans (hc j u hj)⟩
structure ArS (w wr : World) (B p : Nat) (v : Value) (l : List EntD) (A : Option Addr) (xs : List Int) : Prop where
  res : Box wr w.heap.size 31 (.slice none 0 0)
  box : Box wr B 31 v
  bw : w.heap.size + 3 ≤ B
  dict : DictT wr (w.heap.size + 3) (w.heap.size + 3) v l
  row : RowB wr (w.heap.size + 3) A xs
  cur : Cur wr (w.heap.size + 2) p
  bel : Below w.heap.size w wr
section
variable {w wr w' : World} {B p q : Nat} {v : Value} {l : List EntD} {A : Option Addr} {xs : List Int}
theorem ArS.far (h : ArS w wr B p v l A xs) (hb : Below wr.heap.size wr w') : ArS w w' B p v l A xs := ⟨h.res.far hb, h.box.far hb, h.bw, h.dict.below hb, h.row.keep hb.size (fun p _ hp => hb.cell hp), h.cur.below (hb.mono (by have := h.cur.1; omega)), h.bel.trans (hb.mono h.bel.size)⟩
theorem ArS.drew (h : ArS w wr B p v l A xs) : ArS w wr.drew B p v l A xs := h.far (Below.refl wr.heap.size wr).drew
theorem ArS.alloc (h : ArS w wr B p v l A xs) (o : Obj) : ArS w (wr.alloc o) B p v l A xs := h.far ((Below.refl _ _).alloc (Nat.le_refl _) o)
theorem ArS.move (h : ArS w wr B p v l A xs) (hc : Cur w' (w.heap.size + 2) q) (ho : Only (w.heap.size + 2) (w.heap.size + 2 + 1) wr w') : ArS w w' B q v l A xs := by
  have hB := h.bw
  have hz := h.cur.1
  exact ⟨h.res.only ho (.inl (by omega)), h.box.only ho (.inr (by omega)), h.bw, h.dict.only ho (by omega) (by omega), h.row.keep ho.size (fun p h1 h2 => ho.cell h2 (.inr (by omega))), hc, h.bel.trans (ho.below (by omega) (by omega))⟩
theorem ArS.ret (h : ArS w wr B p v l A xs) (u : Value) : Box (wr.setCell ⟨w.heap.size, 0, none⟩ u) w.heap.size 31 u ∧ DictT (wr.setCell ⟨w.heap.size, 0, none⟩ u) (w.heap.size + 3) (w.heap.size + 3) v l ∧ RowB (wr.setCell ⟨w.heap.size, 0, none⟩ u) (w.heap.size + 3) A xs ∧ Below w.heap.size w (wr.setCell ⟨w.heap.size, 0, none⟩ u) ∧ (wr.setCell ⟨w.heap.size, 0, none⟩ u).cell? ⟨B, 0, none⟩ = some v :=
  ⟨h.res.set_ u, h.dict.setBox h.res u, h.row.keep (by simp [World.setCell]) (fun p h1 h2 => World.cell?_setCell_other _ _ _ _ (fun e => by have := congrArg Addr.block e; simp at this; omega)), h.bel.setCell (p := ⟨w.heap.size, 0, none⟩) (Nat.le_refl _) u, (h.box.setOther (a := ⟨w.heap.size, 0, none⟩) (show w.heap.size ≠ B by have := h.bw; omega) u).cell⟩
end
def DrewAR (w : World) (e : Ending) (w' : World) : Prop := ∃ (v : Value) (l : List EntD) (A : Option Addr) (c : Nat) (xs : List Int) (mo : Int), e = .returned (.tuple #[.agg #[v], .slice A xs.length c, .int .i64 mo]) ∧
  DictT w' w.heap.size w.heap.size v l ∧ EntsB 41 8 l ∧ Reads w' w'.heap.size 1 A xs.length (ints xs) ∧ xs.length ≤ 61 ∧ xs.length ≤ c ∧ c ≤ maxLen ∧ (-1 ≤ mo ∧ mo ≤ 51) ∧ Below w.heap.size w w'
def mosts : List Int := [1, 2, 5, 50, 0, 51, -1]
theorem mosts_size : ∀ t ∈ mosts, -1 ≤ t ∧ t ≤ 51 := by decide

set_option maxHeartbeats 8000000 in
theorem drawAllReadings_calls (A : Option Addr) (n cap : Nat) (zs : List Int) (w : World) (h : Ints .u8 w A n cap zs) : Calls Tryz.prog 31 #[.slice A n cap] w (DrewAR w) := by
  obtain ⟨W1, hW1⟩ : ∃ W1, W1 = w.alloc (.cells #[.slice none 0 0] 31) := ⟨_, rfl⟩
  have hs1 : W1.heap.size = w.heap.size + 1 := by rw [hW1]; simp
  have hb1 : Below w.heap.size w W1 := by rw [hW1]; exact (Below.refl _ _).alloc (Nat.le_refl _) _
  have HR := Lib.hid (show Box W1 w.heap.size 31 (.slice none 0 0) by rw [hW1]; exact Box.new w _ _)
  have HI := Lib.hid (show Ints .u8 W1 A n cap zs from ⟨(h.1.below hb1).more hb1.size, h.2⟩)
  have HB := Lib.hid hb1
  have HZ := Lib.hid hs1
  clear h hs1 hb1
  go_enter Tryz.func31, Tryz.ntmps31
  go_wp2_with fail
  rw [← hW1]
  clear hW1
  refine (l22DrawStrokes_calls A n cap zs _ HI.out).mono ?_
  rintro e w2 ⟨v, l, As, cs, xs, rfl, hd, he, hrs, hxl, hxc, hcm, hcu, hA, b2⟩
  obtain ⟨Al, cl, rfl, -, -, -⟩ := hd.slice
  have hz := HZ.out
  have HS := Lib.hid (show ArS w (w2.alloc (.cells #[.slice Al l.length cl] 31)) w2.heap.size 3000 (.slice Al l.length cl) l As xs from by
    have hz2 := b2.size
    have hg := hcu.1
    refine ⟨(HR.out.far b2).alloc _, Box.new w2 _ _, by omega, (hd.low (by omega) (by omega)).below ((Below.refl _ _).alloc (Nat.le_refl _) _), fun hn => ?_, by rw [show w.heap.size + 2 = W1.heap.size + 1 by omega]; exact hcu.alloc _, (HB.out.trans (b2.mono HB.out.size)).alloc (by omega) _⟩
    obtain ⟨b, off, hAb, hbl, hc⟩ := hrs.2 hn
    exact ⟨b, off, hAb, by have := hA b off hAb; omega, by simp; omega, fun j u hj => (World.cell?_alloc_lt _ _ _ (by show b < _; omega)).trans (hc j u hj)⟩)
  have HE := Lib.hid he
  rw [show W1.heap.size + 1 = w.heap.size + 2 by omega]
  clear hd he hrs hcu hA b2 hz HR HI HB HZ
  obtain ⟨W3, hW3⟩ : ∃ W3, W3 = w2.alloc (.cells #[.slice Al l.length cl] 31) := ⟨_, rfl⟩
  obtain ⟨B, hB⟩ : ∃ B, B = w2.heap.size := ⟨_, rfl⟩
  rw [← hW3, ← hB] at HS
  have cB := HS.out.box.cell
  have hBw := HS.out.bw
  go_upto_region 2 with fail
  rw [← hW3, ← hB]
  have HW3 := Lib.hid hW3
  have HBB := Lib.hid hB
  clear hW3 hB
  have cBD : W3.drew.cell? ⟨B, 0, none⟩ = some (.slice Al l.length cl) := cB
  have HP1 := Lib.hid (pick_calls (w.heap.size + 2) 3000 7 (W3.drew.alloc (.cells #[.int .i64 1, .int .i64 2, .int .i64 5, .int .i64 50, .int .i64 0, .int .i64 51, .int .i64 (-1)] 3)) (HS.out.drew.alloc _).cur (by omega) (by omega) (by omega))
  have HP2 := Lib.hid (pick_calls (w.heap.size + 2) 3000 7 W3.drew HS.out.drew.cur (by omega) (by omega) (by omega))
  first | refine wp_region_noPanic ?_ | skip
  refine wp_region_held_drew (S := fun w' => w'.cell? ⟨B, 0, none⟩ = some (.slice Al l.length cl)) (by kernel_rfl) (by exact cBD) (fun hHeld => ?_)
  (refine wpAnyH_take (i := 0) (v := ?_) rfl (by kernel_rfl) (by kernel_rfl) (by kernel_rfl) (fun _ _ _ h => h) (Or.inl ⟨by rfl, ?_⟩) (by assumption) ?_; rotate_left; focus (intro w hSw; (try dsimp only at hSw); go_simp; try with_reducible rfl))
  (try simp only [List.getElem_toArray, List.getElem_cons_succ, List.getElem_cons_zero, Act.put, List.setIfInBounds_toArray, List.set_cons_zero, List.set_cons_succ])
  (refine wpAnyH_take (i := 1) (v := ?_) rfl (by kernel_rfl) (by kernel_rfl) (by kernel_rfl) (fun _ _ _ h => h) (Or.inl ⟨by rfl, ?_⟩) (by assumption) ?_; rotate_left; focus (intro w hSw; (try dsimp only at hSw); go_simp; try with_reducible rfl))
  (try simp only [List.getElem_toArray, List.getElem_cons_succ, List.getElem_cons_zero, Act.put, List.setIfInBounds_toArray, List.set_cons_zero, List.set_cons_succ])
  (refine wpAnyH_take (i := 2) (v := ?_) rfl (by kernel_rfl) (by kernel_rfl) (by kernel_rfl) (fun _ _ _ h => h) (Or.inl ⟨by rfl, ?_⟩) (by assumption) ?_; rotate_left; focus (intro w hSw; (try dsimp only at hSw); go_simp; try with_reducible rfl))
  (try simp only [List.getElem_toArray, List.getElem_cons_succ, List.getElem_cons_zero, Act.put, List.setIfInBounds_toArray, List.set_cons_zero, List.set_cons_succ])
  (refine wpAnyH_take (i := 4) (v := ?_) rfl (by kernel_rfl) (by kernel_rfl) (by kernel_rfl) (fun _ _ _ h => h) (Or.inl ⟨by rfl, ?_⟩) (by assumption) ?_; rotate_left; focus (intro w hSw; (try dsimp only at hSw); go_simp; try with_reducible rfl))
  (try simp only [List.getElem_toArray, List.getElem_cons_succ, List.getElem_cons_zero, Act.put, List.setIfInBounds_toArray, List.set_cons_zero, List.set_cons_succ])
  refine wpAnyH_ready (rs := [3, 5]) (by kernel_rfl) (by simp) ?_
  refine AllReadyH.cons rfl (fun K hK => ?_) (AllReadyH.cons rfl (fun K hK => ?_) AllReadyH.nil)
  · go_simp
    refine hK.out _ _ ((HS.out.drew.alloc (.cells #[.int .i64 1, .int .i64 2, .int .i64 5, .int .i64 50, .int .i64 0, .int .i64 51, .int .i64 (-1)] 3)).box.cell) (fun hHeld => ?_)
    clear hK K
    (try simp only [List.getElem_toArray, List.getElem_cons_succ, List.getElem_cons_zero, Act.put, List.setIfInBounds_toArray, List.set_cons_zero, List.set_cons_succ])
    refine wpAnyH_ready (rs := [5]) (by kernel_rfl) (by simp) ?_
    refine AllReadyH.cons rfl (fun K hK => ?_) AllReadyH.nil
    go_simp
    refine HP1.out.mono ?_
    rintro e w5 ⟨x, rfl, hx, hc5, ho5⟩
    have HS5 := Lib.hid ((HS.out.drew.alloc (.cells #[.int .i64 1, .int .i64 2, .int .i64 5, .int .i64 50, .int .i64 0, .int .i64 51, .int .i64 (-1)] 3)).move hc5 ho5)
    have cB5 := HS5.out.box.cell
    have HCL := Lib.hid (show ∀ j t, mosts[j]? = some t → w5.cell? ⟨W3.heap.size, j, none⟩ = some (.int .i64 t) from fun j t ht => (ho5.cell (p := ⟨W3.heap.size, j, none⟩) (by simp) (.inr (by have := HS.out.cur.1; show w.heap.size + 2 + 1 ≤ W3.heap.size; omega))).trans (new_at (w := W3.drew) (xs := mosts.map (Value.int .i64)) (by simp [ht])))
    have hG5 : W3.heap.size < w5.heap.size := Nat.lt_of_lt_of_le (by simp) ho5.size
    have hGn := HS.out.cur.1
    clear hc5 ho5
    obtain ⟨q, hq⟩ : ∃ q, q = x / 2 := ⟨_, rfl⟩; have hq2 : q ≤ 3 := (by omega); have hq1 : Int.tdiv (x : Int) 2 = (q : Int) := (by rw [Int.tdiv_eq_ediv_of_nonneg (by omega)]; omega); have hw1 : IntKind.i64.wrap (q : Int) = (q : Int) := IntWalk.i64_in _ (by omega); have hw2 : IntKind.i64.wrap (4 + (q : Int)) = 4 + (q : Int) := IntWalk.i64_in _ (by omega); have h50 : (0 : Int) ≤ 4 + (q : Int) := (by omega); have h57 : 4 + (q : Int) ≤ 7 := (by omega); have h5n : (4 + (q : Int)).toNat = 4 + q := (by omega); clear hq
    refine hK.out _ _ (cB5) (fun hHeld => ?_)
    clear hK K
    (try simp only [List.getElem_toArray, List.getElem_cons_succ, List.getElem_cons_zero, Act.put, List.setIfInBounds_toArray, List.set_cons_zero, List.set_cons_succ])
    (refine wpAnyH_take (i := 6) (v := ?_) rfl (by kernel_rfl) (by kernel_rfl) (by kernel_rfl) (fun _ _ _ h => h) (Or.inl ⟨by rfl, ?_⟩) (by assumption) ?_; rotate_left; focus (intro w hSw; (try dsimp only at hSw); go_simp; try with_reducible rfl))
    (try simp only [List.getElem_toArray, List.getElem_cons_succ, List.getElem_cons_zero, Act.put, List.setIfInBounds_toArray, List.set_cons_zero, List.set_cons_succ])
    (refine wpAnyH_take (i := 7) (v := ?_) rfl (by kernel_rfl) (by kernel_rfl) (by kernel_rfl) (fun _ _ _ h => h) (Or.inl ⟨by rfl, ?_⟩) (by assumption) ?_; rotate_left; focus (intro w hSw; (try dsimp only at hSw); go_simp; try with_reducible rfl))
    (try simp only [List.getElem_toArray, List.getElem_cons_succ, List.getElem_cons_zero, Act.put, List.setIfInBounds_toArray, List.set_cons_zero, List.set_cons_succ])
    (refine wpAnyH_take (i := 8) (v := ?_) rfl (by kernel_rfl) (by kernel_rfl) (by kernel_rfl) (fun _ _ _ h => h) (Or.inl ⟨by rfl, ?_⟩) (by assumption) ?_; rotate_left; focus (intro w hSw; (try dsimp only at hSw); go_simp; try with_reducible rfl))
    (try simp only [List.getElem_toArray, List.getElem_cons_succ, List.getElem_cons_zero, Act.put, List.setIfInBounds_toArray, List.set_cons_zero, List.set_cons_succ])
    clear cB5
    refine wpAnyH_ready (rs := [9]) (by kernel_rfl) (by simp) ?_
    refine AllReadyH.cons rfl (fun K hK => ?_) AllReadyH.nil
    go_simp
    refine (among_calls (w.heap.size + 2) _ W3.heap.size (4 + q) _ mosts _ HS5.out.cur (by omega) (by omega) (by show 4 + q ≤ 7; omega) (by decide) (by omega) hG5 HCL.out).mono ?_
    rintro e w9 ⟨mo, rfl, hmo, hc9, ho9⟩
    have HS9 := Lib.hid (HS5.out.move hc9 ho9)
    have cB9 := HS9.out.box.cell
    have cR9 := HS9.out.res.cell
    have fR9 := HS9.out.res.free
    have HMO := Lib.hid (mosts_size mo hmo)
    clear hc9 ho9 hmo
    refine hK.out _ _ (cB9) (fun hHeld => ?_)
    clear hK K
    (try simp only [List.getElem_toArray, List.getElem_cons_succ, List.getElem_cons_zero, Act.put, List.setIfInBounds_toArray, List.set_cons_zero, List.set_cons_succ])
    refine wpAnyH_ready (rs := [10]) (by kernel_rfl) (by simp) ?_
    refine AllReadyH.cons rfl (fun K hK => ?_) AllReadyH.nil
    go_simp
    refine hK.out _ _ ((HS9.out.ret (.slice Al l.length cl)).2.2.2.2) (fun hHeld => ?_)
    clear hK K
    (try simp only [List.getElem_toArray, List.getElem_cons_succ, List.getElem_cons_zero, Act.put, List.setIfInBounds_toArray, List.set_cons_zero, List.set_cons_succ])
    (refine wpAnyH_take (i := 11) (v := ?_) rfl (by kernel_rfl) (by kernel_rfl) (by kernel_rfl) (fun _ _ _ h => h) (Or.inl ⟨by rfl, ?_⟩) (by assumption) ?_; rotate_left; focus (intro w hSw; (try dsimp only at hSw); go_simp; try with_reducible rfl))
    (try simp only [List.getElem_toArray, List.getElem_cons_succ, List.getElem_cons_zero, Act.put, List.setIfInBounds_toArray, List.set_cons_zero, List.set_cons_succ])
    (refine wpAnyH_take (i := 12) (v := ?_) rfl (by kernel_rfl) (by kernel_rfl) (by kernel_rfl) (fun _ _ _ h => h) (Or.inl ⟨by rfl, ?_⟩) (by assumption) ?_; rotate_left; focus (intro w hSw; (try dsimp only at hSw); go_simp; try with_reducible rfl))
    (try simp only [List.getElem_toArray, List.getElem_cons_succ, List.getElem_cons_zero, Act.put, List.setIfInBounds_toArray, List.set_cons_zero, List.set_cons_succ])
    refine wpAnyH_done (by kernel_rfl) ?_ _
    first | refine NoPanic.normal ?_ | skip
    clear hHeld cB9 cR9 fR9 hq1 hw1 hw2 h5n
    go_wp2
    refine bodyPost_ret (v := .tuple #[.agg #[.slice Al l.length cl], .slice As xs.length cs, .int .i64 mo]) (by simp [results, go_sem, (HS9.out.ret (.slice Al l.length cl)).1.cell]) rfl ?_
    have HF := HS9.out.ret (.slice Al l.length cl)
    exact ⟨_, l, As, cs, xs, mo, rfl, HF.2.1.low (by omega) (by omega), HE.out, HF.2.2.1.reads, hxl, hxc, hcm, HMO.out, HF.2.2.2.1⟩
  · go_simp
    refine HP2.out.mono ?_
    rintro e w5 ⟨x, rfl, hx, hc5, ho5⟩
    have HS5 := Lib.hid (HS.out.drew.move hc5 ho5)
    have cB5 := HS5.out.box.cell
    have hGn := HS5.out.cur.1
    clear hc5 ho5
    obtain ⟨q, hq⟩ : ∃ q, q = x / 2 := ⟨_, rfl⟩; have hq2 : q ≤ 3 := (by omega); have hq1 : Int.tdiv (x : Int) 2 = (q : Int) := (by rw [Int.tdiv_eq_ediv_of_nonneg (by omega)]; omega); have hw1 : IntKind.i64.wrap (q : Int) = (q : Int) := IntWalk.i64_in _ (by omega); have hw2 : IntKind.i64.wrap (4 + (q : Int)) = 4 + (q : Int) := IntWalk.i64_in _ (by omega); have h50 : (0 : Int) ≤ 4 + (q : Int) := (by omega); have h57 : 4 + (q : Int) ≤ 7 := (by omega); have h5n : (4 + (q : Int)).toNat = 4 + q := (by omega); clear hq
    refine hK.out _ _ (cB5) (fun hHeld => ?_)
    clear hK K
    (try simp only [List.getElem_toArray, List.getElem_cons_succ, List.getElem_cons_zero, Act.put, List.setIfInBounds_toArray, List.set_cons_zero, List.set_cons_succ])
    (refine wpAnyH_take (i := 6) (v := ?_) rfl (by kernel_rfl) (by kernel_rfl) (by kernel_rfl) (fun _ _ _ h => h) (Or.inl ⟨by rfl, ?_⟩) (by assumption) ?_; rotate_left; focus (intro w hSw; (try dsimp only at hSw); go_simp; try with_reducible rfl))
    (try simp only [List.getElem_toArray, List.getElem_cons_succ, List.getElem_cons_zero, Act.put, List.setIfInBounds_toArray, List.set_cons_zero, List.set_cons_succ])
    (refine wpAnyH_take (i := 7) (v := ?_) rfl (by kernel_rfl) (by kernel_rfl) (by kernel_rfl) (fun _ _ _ h => h) (Or.inl ⟨by rfl, ?_⟩) (by assumption) ?_; rotate_left; focus (intro w hSw; (try dsimp only at hSw); go_simp; try with_reducible rfl))
    (try simp only [List.getElem_toArray, List.getElem_cons_succ, List.getElem_cons_zero, Act.put, List.setIfInBounds_toArray, List.set_cons_zero, List.set_cons_succ])
    refine wpAnyH_ready (rs := [3]) (by kernel_rfl) (by simp) ?_
    refine AllReadyH.cons rfl (fun K hK => ?_) AllReadyH.nil
    go_simp
    have HS6 := Lib.hid (HS5.out.alloc (.cells #[.int .i64 1, .int .i64 2, .int .i64 5, .int .i64 50, .int .i64 0, .int .i64 51, .int .i64 (-1)] 3))
    have HCL := Lib.hid (show ∀ j t, mosts[j]? = some t → (w5.alloc (.cells #[.int .i64 1, .int .i64 2, .int .i64 5, .int .i64 50, .int .i64 0, .int .i64 51, .int .i64 (-1)] 3)).cell? ⟨w5.heap.size, j, none⟩ = some (.int .i64 t) from fun j t ht => new_at (w := w5) (xs := mosts.map (Value.int .i64)) (by simp [ht]))
    refine hK.out _ _ (HS6.out.box.cell) (fun hHeld => ?_)
    clear hK K
    (try simp only [List.getElem_toArray, List.getElem_cons_succ, List.getElem_cons_zero, Act.put, List.setIfInBounds_toArray, List.set_cons_zero, List.set_cons_succ])
    (refine wpAnyH_take (i := 8) (v := ?_) rfl (by kernel_rfl) (by kernel_rfl) (by kernel_rfl) (fun _ _ _ h => h) (Or.inl ⟨by rfl, ?_⟩) (by assumption) ?_; rotate_left; focus (intro w hSw; (try dsimp only at hSw); go_simp; try with_reducible rfl))
    (try simp only [List.getElem_toArray, List.getElem_cons_succ, List.getElem_cons_zero, Act.put, List.setIfInBounds_toArray, List.set_cons_zero, List.set_cons_succ])
    clear cB5
    refine wpAnyH_ready (rs := [9]) (by kernel_rfl) (by simp) ?_
    refine AllReadyH.cons rfl (fun K hK => ?_) AllReadyH.nil
    go_simp
    refine (among_calls (w.heap.size + 2) _ w5.heap.size (4 + q) _ mosts _ HS6.out.cur (by omega) (by omega) (by show 4 + q ≤ 7; omega) (by decide) (by omega) (by simp) HCL.out).mono ?_
    rintro e w9 ⟨mo, rfl, hmo, hc9, ho9⟩
    have HS9 := Lib.hid (HS6.out.move hc9 ho9)
    have cB9 := HS9.out.box.cell
    have cR9 := HS9.out.res.cell
    have fR9 := HS9.out.res.free
    have HMO := Lib.hid (mosts_size mo hmo)
    clear hc9 ho9 hmo
    refine hK.out _ _ (cB9) (fun hHeld => ?_)
    clear hK K
    (try simp only [List.getElem_toArray, List.getElem_cons_succ, List.getElem_cons_zero, Act.put, List.setIfInBounds_toArray, List.set_cons_zero, List.set_cons_succ])
    refine wpAnyH_ready (rs := [10]) (by kernel_rfl) (by simp) ?_
    refine AllReadyH.cons rfl (fun K hK => ?_) AllReadyH.nil
    go_simp
    refine hK.out _ _ ((HS9.out.ret (.slice Al l.length cl)).2.2.2.2) (fun hHeld => ?_)
    clear hK K
    (try simp only [List.getElem_toArray, List.getElem_cons_succ, List.getElem_cons_zero, Act.put, List.setIfInBounds_toArray, List.set_cons_zero, List.set_cons_succ])
    (refine wpAnyH_take (i := 11) (v := ?_) rfl (by kernel_rfl) (by kernel_rfl) (by kernel_rfl) (fun _ _ _ h => h) (Or.inl ⟨by rfl, ?_⟩) (by assumption) ?_; rotate_left; focus (intro w hSw; (try dsimp only at hSw); go_simp; try with_reducible rfl))
    (try simp only [List.getElem_toArray, List.getElem_cons_succ, List.getElem_cons_zero, Act.put, List.setIfInBounds_toArray, List.set_cons_zero, List.set_cons_succ])
    (refine wpAnyH_take (i := 12) (v := ?_) rfl (by kernel_rfl) (by kernel_rfl) (by kernel_rfl) (fun _ _ _ h => h) (Or.inl ⟨by rfl, ?_⟩) (by assumption) ?_; rotate_left; focus (intro w hSw; (try dsimp only at hSw); go_simp; try with_reducible rfl))
    (try simp only [List.getElem_toArray, List.getElem_cons_succ, List.getElem_cons_zero, Act.put, List.setIfInBounds_toArray, List.set_cons_zero, List.set_cons_succ])
    refine wpAnyH_done (by kernel_rfl) ?_ _
    first | refine NoPanic.normal ?_ | skip
    clear hHeld cB9 cR9 fR9 hq1 hw1 hw2 h5n
    go_wp2
    refine bodyPost_ret (v := .tuple #[.agg #[.slice Al l.length cl], .slice As xs.length cs, .int .i64 mo]) (by simp [results, go_sem, (HS9.out.ret (.slice Al l.length cl)).1.cell]) rfl ?_
    have HF := HS9.out.ret (.slice Al l.length cl)
    exact ⟨_, l, As, cs, xs, mo, rfl, HF.2.1.low (by omega) (by omega), HE.out, HF.2.2.1.reads, hxl, hxc, hcm, HMO.out, HF.2.2.2.1⟩
end Go.Proofs.YtekidodfcanjaaaGreatDoor
namespace Go.Proofs.YtekidodfcanjaaaGreatDoor
open Go.RowKit
set_option linter.unusedVariables false
set_option linter.unusedSimpArgs false
set_option maxRecDepth 100000

def DrewDS (w : World) (e : Ending) (w' : World) : Prop := ∃ (v : Value) (l : List EntD) (A : Option Addr) (c : Nat) (xs : List Int), e = .returned (.tuple #[.agg #[v], .slice A xs.length c]) ∧
  DictT w' w.heap.size w.heap.size v l ∧ EntsB 41 8 l ∧ Reads w' w'.heap.size 1 A xs.length (ints xs) ∧ xs.length ≤ 61 ∧ xs.length ≤ c ∧ c ≤ maxLen ∧ Below w.heap.size w w'

set_option maxHeartbeats 4000000 in
theorem drawCountReadings_calls (A : Option Addr) (n cap : Nat) (zs : List Int) (w : World) (h : Ints .u8 w A n cap zs) : Calls Tryz.prog 29 #[.slice A n cap] w (DrewDS w) := by
  obtain ⟨W1, hW1⟩ : ∃ W1, W1 = w.alloc (.cells #[.slice none 0 0] 31) := ⟨_, rfl⟩
  have hs1 : W1.heap.size = w.heap.size + 1 := by rw [hW1]; simp
  have hb1 : Below w.heap.size w W1 := by rw [hW1]; exact (Below.refl _ _).alloc (Nat.le_refl _) _
  have HR := Lib.hid (show Box W1 w.heap.size 31 (.slice none 0 0) by rw [hW1]; exact Box.new w _ _)
  have HI := Lib.hid (show Ints .u8 W1 A n cap zs from ⟨(h.1.below hb1).more hb1.size, h.2⟩)
  have HB := Lib.hid hb1
  have HZ := Lib.hid hs1
  clear h hs1 hb1
  go_enter Tryz.func29, Tryz.ntmps29
  go_wp2_with fail
  rw [← hW1]
  clear hW1
  refine (l22DrawStrokes_calls A n cap zs _ HI.out).mono ?_
  rintro e w2 ⟨v, l, As, cs, xs, rfl, hd, he, hrs, hxl, hxc, hcm, hcu, hA, b2⟩
  obtain ⟨Al, cl, rfl, -, -, -⟩ := hd.slice
  have hz := HZ.out
  have HS := Lib.hid (show ArS w (w2.alloc (.cells #[.slice Al l.length cl] 31)) w2.heap.size 3000 (.slice Al l.length cl) l As xs from by
    have hz2 := b2.size
    have hg := hcu.1
    refine ⟨(HR.out.far b2).alloc _, Box.new w2 _ _, by omega, (hd.low (by omega) (by omega)).below ((Below.refl _ _).alloc (Nat.le_refl _) _), fun hn => ?_, by rw [show w.heap.size + 2 = W1.heap.size + 1 by omega]; exact hcu.alloc _, (HB.out.trans (b2.mono HB.out.size)).alloc (by omega) _⟩
    obtain ⟨b, off, hAb, hbl, hc⟩ := hrs.2 hn
    exact ⟨b, off, hAb, by have := hA b off hAb; omega, by simp; omega, fun j u hj => (World.cell?_alloc_lt _ _ _ (by show b < _; omega)).trans (hc j u hj)⟩)
  have HE := Lib.hid he
  rw [show W1.heap.size + 1 = w.heap.size + 2 by omega]
  clear hd he hrs hcu hA b2 hz HR HI HB HZ
  obtain ⟨W3, hW3⟩ : ∃ W3, W3 = w2.alloc (.cells #[.slice Al l.length cl] 31) := ⟨_, rfl⟩
  obtain ⟨B, hB⟩ : ∃ B, B = w2.heap.size := ⟨_, rfl⟩
  rw [← hW3, ← hB] at HS
  have cB := HS.out.box.cell
  have hBw := HS.out.bw
  go_upto_region 2 with fail
  rw [← hW3, ← hB]
  have HW3 := Lib.hid hW3
  have HBB := Lib.hid hB
  clear hW3 hB
  have HSD := HS
  have cR9 := HSD.out.res.cell
  have fR9 := HSD.out.res.free
  go_wp2
  refine bodyPost_ret (v := .tuple #[.agg #[.slice Al l.length cl], .slice As xs.length cs]) (by simp [results, go_sem, (HSD.out.ret (.slice Al l.length cl)).1.cell]) rfl ?_
  have HF := HSD.out.ret (.slice Al l.length cl)
  exact ⟨_, l, As, cs, xs, rfl, HF.2.1.low (by omega) (by omega), HE.out, HF.2.2.1.reads, hxl, hxc, hcm, HF.2.2.2.1⟩
end Go.Proofs.YtekidodfcanjaaaGreatDoor
