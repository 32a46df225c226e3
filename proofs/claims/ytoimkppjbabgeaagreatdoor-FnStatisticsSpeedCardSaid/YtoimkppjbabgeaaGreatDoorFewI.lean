/-
  The program's FewestPieces, as far as its length goes, and PieceExcess.
-/
import Derived.Test.YtoimkppjbabgeaaGreatDoorFewS
import Derived.RegionTactic
namespace Go.Proofs.YtoimkppjbabgeaaGreatDoor
open Go.RowKit
set_option linter.unusedVariables false
set_option linter.unusedSimpArgs false
set_option maxRecDepth 100000

def FirstOk (l : List EntD) (zs : List Int) (fs : List CueD) (r : Nat) : Prop := fs.length = zs.length ∧ ∀ (j : Nat) c, zs.length - r ≤ j → fs[j]? = some c → c.2.1 = ((stepF (costAt (costT l zs r) (j - (zs.length - r))) : Nat) : Int)
def FirstAt (l : List EntD) (zs : List Int) (fs : List CueD) (r k : Nat) : Prop := fs.length = zs.length ∧ (∀ c, fs[zs.length - (r + 1)]? = some c → c.2.1 = ((stepF (bestD l zs r k) : Nat) : Int)) ∧ ∀ (j : Nat) c, zs.length - (r + 1) < j → fs[j]? = some c → c.2.1 = ((stepF (costAt (costT l zs r) (j - (zs.length - (r + 1) + 1))) : Nat) : Int)
section
variable {l : List EntD} {zs : List Int} {fs : List CueD} {r k : Nat}
theorem first_start (hr : r < zs.length) (h : FirstOk l zs fs r) (a : Int) (t : ByteArray) : FirstAt l zs (fs.set (zs.length - (r + 1)) (a, ((stepF (bestD l zs r 0) : Nat) : Int), t)) r 0 := by
  refine ⟨by rw [List.length_set]; exact h.1, fun c hc => ?_, fun j c hj hc => ?_⟩
  · rw [List.getElem?_set_self (by have := h.1; omega)] at hc
    obtain rfl := Option.some.inj hc
    rfl
  · rw [List.getElem?_set_ne (by omega)] at hc
    have h1 := h.2 j c (by omega) hc
    rwa [show zs.length - r = zs.length - (r + 1) + 1 by omega] at h1
theorem first_set (hr : r < zs.length) (h : FirstAt l zs fs r k) (m : Nat) (a : Int) (t : ByteArray) : FirstAt l zs (fs.set (zs.length - (r + 1)) (a, ((stepF (bestD l zs r m) : Nat) : Int), t)) r m := by
  refine ⟨by rw [List.length_set]; exact h.1, fun c hc => ?_, fun j c hj hc => ?_⟩
  · rw [List.getElem?_set_self (by have := h.1; omega)] at hc
    obtain rfl := Option.some.inj hc
    rfl
  · rw [List.getElem?_set_ne (by omega)] at hc
    exact h.2.2 j c hj hc
theorem first_keep {m : Nat} (h : FirstAt l zs fs r k) (e : bestD l zs r m = bestD l zs r k) : FirstAt l zs fs r m := by
  unfold FirstAt
  rw [e]
  exact h
theorem first_last (hr : r < zs.length) (h : FirstAt l zs fs r (min 6 (r + 1))) : FirstOk l zs fs (r + 1) := by
  refine ⟨h.1, fun j c hj hc => ?_⟩
  rcases Nat.lt_or_ge (zs.length - (r + 1)) j with h1 | h1
  · have h2 := h.2.2 j c h1 hc
    rw [h2, costT]
    obtain ⟨d, hd⟩ : ∃ d, j - (zs.length - (r + 1)) = d + 1 := ⟨j - (zs.length - (r + 1)) - 1, by omega⟩
    rw [hd, show j - (zs.length - (r + 1) + 1) = d by omega]
    rfl
  · obtain rfl : j = zs.length - (r + 1) := by omega
    rw [h.2.1 c hc, costT, Nat.sub_self]
    rfl
theorem first_end (h : FirstOk l zs fs zs.length) {j : Nat} {c : CueD} (hc : fs[j]? = some c) : c.2.1 = ((stepF (costAt (costT l zs zs.length) j) : Nat) : Int) := by
  have h1 := h.2 j c (by omega) hc
  rwa [Nat.sub_self, Nat.sub_zero] at h1
end
theorem cost1_best0 (l : List EntD) (zs : List Int) (r : Nat) : cost1 (bestD l zs r 0) = cost1 (costAt (costT l zs r) 0) + 1001 := by
  rw [best_zero]
  simp only [cost1]
  omega
theorem cost1_range {m : Nat} {c : CostD} (h : CostOk m c) (hm : m ≤ 60) : 0 ≤ cost1 c ∧ cost1 c ≤ 60060 := by
  unfold CostOk at h
  unfold cost1
  omega

/-- The two tables, freshly made, in whichever order. -/
structure Made (w3 wM : World) (gc gf n : Nat) : Prop where
  ne : gc ≠ gf
  c0 : w3.heap.size ≤ gc
  c1 : gc < w3.heap.size + 2
  f0 : w3.heap.size ≤ gf
  f1 : gf < w3.heap.size + 2
  size : wM.heap.size = w3.heap.size + 2
  cost : Own wM gc (gc + 1) 3 1 (.slice (some ⟨gc, 0, none⟩) (n + 1) (n + 1)) (n + 1) (ints (List.replicate (n + 1) 0))
  first : Own wM gf (gf + 1) 58 3 (.slice (some ⟨gf, 0, none⟩) n n) n (cuesV (List.replicate n zeroCue))
  below : Below w3.heap.size w3 wM
theorem made_one (w : World) (n : Nat) (hn : n ≤ 60) : Own (w.alloc (.cells (madeCells #[Value.int .i64 0] (n + 1)) 3)) w.heap.size (w.heap.size + 1) 3 1 (.slice (some ⟨w.heap.size, 0, none⟩) (n + 1) (n + 1)) (n + 1) (ints (List.replicate (n + 1) 0)) := by
  have h := World.ownsRow_lit (base := w.heap.size) (e := 3) (size := 1) w (madeCells #[Value.int .i64 0] (n + 1)) (n + 1) (Nat.le_refl _) (by unfold maxLen; omega) (by simp [madeCells])
  have e : ints (List.replicate (n + 1) 0) = (madeCells #[Value.int .i64 0] (n + 1)).toList := by rw [toList_madeCells_one]; simp [ints]
  rw [e]
  exact ⟨h, fun g hg => by simp [Value.ownBlock] at hg; omega⟩
theorem made_two (w : World) (n : Nat) (hn : n ≤ 60) : Own (w.alloc (.cells (madeCells #[Value.int .i64 0, .int .i64 0, .string ⟨#[]⟩] (n * 3)) 58)) w.heap.size (w.heap.size + 1) 58 3 (.slice (some ⟨w.heap.size, 0, none⟩) n n) n (cuesV (List.replicate n zeroCue)) := by
  have h := World.ownsRow_lit (base := w.heap.size) (e := 58) (size := 3) w (madeCells #[Value.int .i64 0, .int .i64 0, .string ⟨#[]⟩] (n * 3)) n (Nat.le_refl _) (by unfold maxLen; omega) (by simp [madeCells])
  rw [← made_cues]
  exact ⟨h, fun g hg => by simp [Value.ownBlock] at hg; omega⟩
theorem made_cf (w : World) (n : Nat) (hn : n ≤ 60) : Made w ((w.alloc (.cells (madeCells #[Value.int .i64 0] (n + 1)) 3)).alloc (.cells (madeCells #[Value.int .i64 0, .int .i64 0, .string ⟨#[]⟩] (n * 3)) 58)).drew w.heap.size (w.heap.size + 1) n := by
  obtain ⟨w1, hw1⟩ : ∃ w1, w1 = w.alloc (.cells (madeCells #[Value.int .i64 0] (n + 1)) 3) := ⟨_, rfl⟩
  have b1 : Below w.heap.size w w1 := by rw [hw1]; exact (Below.refl _ _).alloc (Nat.le_refl _) _
  have s1 : w1.heap.size = w.heap.size + 1 := by rw [hw1]; simp
  have o1 := made_one w n hn
  rw [← hw1] at o1 ⊢
  have o2 := made_two w1 n hn
  rw [s1] at o2
  have b2 : Below w1.heap.size w1 (w1.alloc (.cells (madeCells #[Value.int .i64 0, .int .i64 0, .string ⟨#[]⟩] (n * 3)) 58)) := (Below.refl _ _).alloc (Nat.le_refl _) _
  exact ⟨by omega, by omega, by omega, by omega, by omega, by show (w1.alloc _).heap.size = _; simp [s1], o1.below b2.drew, o2, (b1.trans (b2.mono b1.size)).drew⟩
theorem made_fc (w : World) (n : Nat) (hn : n ≤ 60) : Made w ((w.alloc (.cells (madeCells #[Value.int .i64 0, .int .i64 0, .string ⟨#[]⟩] (n * 3)) 58)).alloc (.cells (madeCells #[Value.int .i64 0] (n + 1)) 3)).drew (w.heap.size + 1) w.heap.size n := by
  obtain ⟨w1, hw1⟩ : ∃ w1, w1 = w.alloc (.cells (madeCells #[Value.int .i64 0, .int .i64 0, .string ⟨#[]⟩] (n * 3)) 58) := ⟨_, rfl⟩
  have b1 : Below w.heap.size w w1 := by rw [hw1]; exact (Below.refl _ _).alloc (Nat.le_refl _) _
  have s1 : w1.heap.size = w.heap.size + 1 := by rw [hw1]; simp
  have o1 := made_two w n hn
  rw [← hw1] at o1 ⊢
  have o2 := made_one w1 n hn
  rw [s1] at o2
  have b2 : Below w1.heap.size w1 (w1.alloc (.cells (madeCells #[Value.int .i64 0] (n + 1)) 3)) := (Below.refl _ _).alloc (Nat.le_refl _) _
  exact ⟨by omega, by omega, by omega, by omega, by omega, by show (w1.alloc _).heap.size = _; simp [s1], o2, o1.below b2.drew, (b1.trans (b2.mono b1.size)).drew⟩
theorem first_zero (l : List EntD) (zs : List Int) : FirstOk l zs (List.replicate zs.length zeroCue) 0 := by
  refine ⟨by simp, fun j c hj hc => ?_⟩
  have := (List.getElem?_eq_some_iff.1 hc).1
  simp at this
  omega

set_option maxHeartbeats 16000000 in
theorem impl_FewestPieces (A B : Option Addr) (cap cb : Nat) (l : List EntD) (zs : List Int) (w : World) (hr : DictR w w.heap.size A l) (hn : l.length ≤ 1048576) (hs : ShortD l) (hmx : MaxOk w) (hz : Reads w w.heap.size 1 B zs.length (ints zs)) (hzn : zs.length ≤ 1048576) (hcb : zs.length ≤ cb) (hcm : cb ≤ maxLen) :
    Calls Tryz.prog 35 #[.agg #[.slice A l.length cap], .slice B zs.length cb] w (FewRes l zs w) := by
  obtain ⟨W1, hW1⟩ : ∃ W1, W1 = w.alloc (.cells #[.slice A l.length cap] 26) := ⟨_, rfl⟩
  have hb1 : Below w.heap.size w W1 := by rw [hW1]; exact (Below.refl _ _).alloc (Nat.le_refl _) _
  have bP : Box W1 w.heap.size 26 (.slice A l.length cap) := by rw [hW1]; exact Box.new w _ _
  have HM := Lib.hid (impl_isMatched A B cap cb l zs W1 ((hr.below hb1).more hb1.size) hn hs (hmx.below hb1) ((hz.below hb1).more hb1.size) hzn)
  have cP := bP.cell
  have HCM := Lib.hid hcm
  unfold maxLen at hcm
  clear hs hmx
  cases hm : (dictB l && strokesB zs)
  · have HR := Lib.hid hm
    have HRO := Lib.hid (show okD l zs = false from hm)
    clear hm
    go_enter Tryz.func35, Tryz.ntmps35
    go_wp2_with fail
    rw [← hW1]
    clear hW1
    refine HM.out.mono ?_
    rw [HR.out]
    rintro e w3 ⟨rfl, b3⟩
    go_wp2
    go_ret2
    exact few_no HRO.out (hb1.trans (b3.mono hb1.size))
  have HR := Lib.hid hm
  have HRO := Lib.hid (show okD l zs = true from hm)
  rw [Bool.and_eq_true] at hm
  have HV := Lib.hid hm.1
  have h60 := strokes60 hm.2
  have hmkC := run_make_rowN (P := Tryz.prog) 27 3 Tryz.underlying27 info_int .i64 .i64 (zs.length + 1) (zs.length + 1) (Nat.le_refl _) (by omega) (by omega)
  have hmkF := run_make_rowN (P := Tryz.prog) 55 58 Tryz.underlying55 info_piece .i64 .i64 zs.length zs.length (Nat.le_refl _) (by omega) (by omega)
  have hcast : ((zs.length + 1 : Nat) : Int) = (zs.length : Int) + 1 := by omega
  rw [hcast] at hmkC
  have x0 : IntKind.i64.wrap ((zs.length : Int) + 1) = (zs.length : Int) + 1 := IntWalk.i64_in _ (by omega)
  clear hm hcast
  go_enter Tryz.func35, Tryz.ntmps35
  go_wp2_with fail
  rw [← hW1]
  clear hW1
  refine HM.out.mono ?_
  rw [HR.out]
  rintro e w3 ⟨rfl, b3⟩
  have B3 := hb1.trans (b3.mono hb1.size)
  have bP3 := bP.far b3
  clear cP HM
  go_wp2
  go_region
  all_goals first
    | (have M := made_cf w3 zs.length h60; obtain ⟨wM, hwM⟩ : ∃ wM, wM = ((w3.alloc (.cells (madeCells #[Value.int .i64 0] (zs.length + 1)) 3)).alloc (.cells (madeCells #[Value.int .i64 0, .int .i64 0, .string ⟨#[]⟩] (zs.length * 3)) 58)).drew := ⟨_, rfl⟩; obtain ⟨gf, hgf⟩ : ∃ gf, gf = w3.heap.size + 1 := ⟨_, rfl⟩; obtain ⟨gc, hgc⟩ : ∃ gc, gc = w3.heap.size := ⟨_, rfl⟩; have M2 : Made w3 wM gc gf zs.length := (by rw [hwM, hgf, hgc]; exact M); rw [← hwM, ← hgf, ← hgc]; clear M hwM hgf hgc)
    | (have M := made_fc w3 zs.length h60; obtain ⟨wM, hwM⟩ : ∃ wM, wM = ((w3.alloc (.cells (madeCells #[Value.int .i64 0, .int .i64 0, .string ⟨#[]⟩] (zs.length * 3)) 58)).alloc (.cells (madeCells #[Value.int .i64 0] (zs.length + 1)) 3)).drew := ⟨_, rfl⟩; obtain ⟨gc, hgc⟩ : ∃ gc, gc = w3.heap.size + 1 := ⟨_, rfl⟩; obtain ⟨gf, hgf⟩ : ∃ gf, gf = w3.heap.size := ⟨_, rfl⟩; have M2 : Made w3 wM gc gf zs.length := (by rw [hwM, hgf, hgc]; exact M); rw [← hwM, ← hgc, ← hgf]; clear M hwM hgf hgc)
  all_goals
    have hne := M2.ne
    have hc0 := M2.c0
    have hc1 := M2.c1
    have hf0 := M2.f0
    have hf1 := M2.f1
    have HSM := Lib.hid M2.size
    have ownCM := M2.cost
    have ownFM := M2.first
    have BM := B3.trans (M2.below.mono B3.size)
    have bPM := bP3.far M2.below
    have hs3 : w.heap.size < w3.heap.size := bP3.lt
    rw [← fewRow_zero (f := cost1) rfl l zs] at ownCM
    clear M2 hmkC hmkF x0 bP3 B3 b3
    go_wp2
    go_loopw [9] (fun i wr => ∃ (r : Nat) (fs : List CueD), r ≤ zs.length ∧ i = .int .i64 ((zs.length : Int) - 1 - (r : Int)) ∧ Own wr gc (gc + 1) 3 1 (.slice (some ⟨gc, 0, none⟩) (zs.length + 1) (zs.length + 1)) (zs.length + 1) (ints (fewRow cost1 l zs r)) ∧ Own wr gf (gf + 1) 58 3 (.slice (some ⟨gf, 0, none⟩) zs.length zs.length) zs.length (cuesV fs) ∧ FirstOk l zs fs r ∧ Only w3.heap.size (w3.heap.size + 2) wM wr) (fun i _ => Int.toNat (intOf i + (1 : Int)))
    case atStart => exact ⟨0, _, Nat.zero_le _, by go_num, ownCM, ownFM, first_zero l zs, Only.refl _⟩
    case round =>
      obtain ⟨r, fs, hrn, rfl, hC, hF, hfo, hO⟩ := hrel
      have HFO := Lib.hid hfo
      have hfl := hfo.1
      clear ownCM ownFM hfo
      by_cases hlt : r < zs.length
      · obtain ⟨q, hq⟩ : ∃ q, q = zs.length - (r + 1) := ⟨_, rfl⟩
        have hqi : (zs.length : Int) - 1 - (r : Int) = (q : Int) := by omega
        rw [hqi]
        have hql : q < zs.length := by omega
        have i0 : (0 : Int) ≤ (q : Int) := by omega
        have i1 : (q : Int) + 1 < (zs.length : Int) + 1 := by omega
        have i2 : (q : Int) < (zs.length : Int) + 1 := by omega
        have i3 : (q : Int) < (zs.length : Int) := by omega
        have hlc : (fewRow cost1 l zs r).length = zs.length + 1 := fewRow_length hrn
        have hn1 := few_next (f := cost1) (l := l) hlt
        have hn2 := few_cell (f := cost1) (l := l) hlt
        have hx := cost1_range (costT_ok l zs r 0 (Nat.zero_le _)) (by omega)
        have hb0 := cost1_best0 l zs r
        obtain ⟨x, hxe⟩ : ∃ x, x = cost1 (costAt (costT l zs r) 0) := ⟨_, rfl⟩
        rw [← hq] at hn1 hn2
        rw [← hxe] at hn1 hx hb0
        have e1 := (hC.1.cellAt (q + 1) (by omega)).trans (ints_at _ hn1)
        have e2 := (hC.1.cellAt q (by omega)).trans (ints_at _ hn2)
        have f2 := hC.1.frozenAt q
        obtain ⟨⟨z0, z1, z2⟩, hz1⟩ := some_at fs (show q < fs.length by omega)
        obtain ⟨k0, k1, k2⟩ := hF.cue hz1
        have kf := hF.1.frozenAt
        simp only at k0 k1 k2
        have hC1 : Own (wr.setCell ⟨gc, q, none⟩ (.int .i64 (x + 1001))) gc (gc + 1) 3 1 (.slice (some ⟨gc, 0, none⟩) (zs.length + 1) (zs.length + 1)) (zs.length + 1) (ints (fewTab cost1 l zs r 0)) := by
          have h := hC.set_ q (.int .i64 (x + 1001))
          have e : (fewRow cost1 l zs r).set q (x + 1001) = fewTab cost1 l zs r 0 := by rw [hq, ← hb0, few_start hlt]
          rw [ints_set2, e] at h
          exact h
        have oC : Only gc (gc + 1) wr (wr.setCell ⟨gc, q, none⟩ (.int .i64 (x + 1001))) := (Only.refl wr).setCell (by show gc ≤ gc; omega) (by show gc < gc + 1; omega) _
        have hF1 := hF.only oC (by omega)
        obtain ⟨p0, p1, p2⟩ := hF1.cue hz1
        have pf := hF1.1.frozenAt
        simp only at p0 p1 p2
        have hF2 := hF1.setCue (show q < fs.length by omega) ((q : Int), 1, ⟨#[]⟩)
        have HFA := Lib.hid (show FirstAt l zs (fs.set q ((q : Int), 1, ⟨#[]⟩)) r 0 by rw [hq]; exact first_start hlt HFO.out _ _)
        obtain ⟨wX, hwX⟩ : ∃ wX, wX = wr.setCell ⟨gc, q, none⟩ (.int .i64 (x + 1001)) := ⟨_, rfl⟩
        have hO1 := hO.trans ((Only.refl wr).setCell (lo := w3.heap.size) (hi := w3.heap.size + 2) (p := ⟨gc, q, none⟩) (by show w3.heap.size ≤ gc; omega) (by show gc < w3.heap.size + 2; omega) (.int .i64 (x + 1001)))
        have oF : Only gf (gf + 1) wX (((wX.setCell ⟨gf, q * 3, none⟩ (.int .i64 (q : Int))).setCell ⟨gf, q * 3 + 1, none⟩ (.int .i64 1)).setCell ⟨gf, q * 3 + 2, none⟩ (.string ⟨#[]⟩)) := ((((Only.refl wX).setCell (lo := gf) (hi := (gf + 1)) (p := ⟨gf, q * 3, none⟩) (by show gf ≤ gf; omega) (by show gf < (gf + 1); omega) _).setCell (p := ⟨gf, q * 3 + 1, none⟩) (by show gf ≤ gf; omega) (by show gf < (gf + 1); omega) _).setCell (p := ⟨gf, q * 3 + 2, none⟩) (by show gf ≤ gf; omega) (by show gf < (gf + 1); omega) _)
        have oS : Only w3.heap.size (w3.heap.size + 2) wX (((wX.setCell ⟨gf, q * 3, none⟩ (.int .i64 (q : Int))).setCell ⟨gf, q * 3 + 1, none⟩ (.int .i64 1)).setCell ⟨gf, q * 3 + 2, none⟩ (.string ⟨#[]⟩)) := ((((Only.refl wX).setCell (lo := w3.heap.size) (hi := (w3.heap.size + 2)) (p := ⟨gf, q * 3, none⟩) (by show w3.heap.size ≤ gf; omega) (by show gf < (w3.heap.size + 2); omega) _).setCell (p := ⟨gf, q * 3 + 1, none⟩) (by show w3.heap.size ≤ gf; omega) (by show gf < (w3.heap.size + 2); omega) _).setCell (p := ⟨gf, q * 3 + 2, none⟩) (by show w3.heap.size ≤ gf; omega) (by show gf < (w3.heap.size + 2); omega) _)
        rw [hwX] at oF oS
        have hC2 := hC1.only oF (by omega)
        have hO2 := hO1.trans oS
        have HXE := Lib.hid hxe
        have HQ := Lib.hid hq
        have hnf : ¬ gc = gf := hne
        have hnf2 : ¬ gf = gc := fun h => hne h.symm
        simp only at hF2
        clear hn1 hn2 hlc hb0 hxe hq hqi hC hF hO hwX hz1 oF oS oC hO1 hC1 hF1
        go_upto_region 9 with (fail)
        generalize hX : ((((wr.setCell ⟨gc, q, none⟩ (.int .i64 (x + 1001))).setCell ⟨gf, q * 3, none⟩ (.int .i64 (q : Int))).setCell ⟨gf, q * 3 + 1, none⟩ (.int .i64 1)).setCell ⟨gf, q * 3 + 2, none⟩ (.string ⟨#[]⟩)) = yr at *
        clear hX e1 e2 f2 k0 k1 k2 kf p0 p1 p2 pf
        go_wp2
        go_loopw [10] (fun j wr => ∃ (n : Nat) (fs : List CueD), 1 ≤ n ∧ n ≤ min 6 (r + 1) + 1 ∧ j = .int .i64 n ∧ Own wr gc (gc + 1) 3 1 (.slice (some ⟨gc, 0, none⟩) (zs.length + 1) (zs.length + 1)) (zs.length + 1) (ints (fewTab cost1 l zs r (n - 1))) ∧ Own wr gf (gf + 1) 58 3 (.slice (some ⟨gf, 0, none⟩) zs.length zs.length) zs.length (cuesV fs) ∧ FirstAt l zs fs r (n - 1) ∧ Only w3.heap.size (w3.heap.size + 2) wM wr) (fun j _ => 8 - (intOf j).toNat)
        case atStart => exact ⟨1, _, Nat.le_refl _, by omega, rfl, hC2, hF2, HFA.out, hO2⟩
        case round =>
          obtain ⟨n, fs, hn1, hn7, rfl, hC, hF, hfa, hO⟩ := hrel
          have HFT := Lib.hid hfa
          have hfl := hfa.1
          clear hC2 hF2 hO2 hfa
          have hb : Below w.heap.size w wr := BM.trans (hO.below (by omega) BM.size)
          have bP := bPM.only hO (.inl (by omega))
          have cP := bP.cell
          have hsw : w3.heap.size + 2 ≤ wr.heap.size := by have := hO.size; have := HSM.out; omega
          by_cases hle : n ≤ min 6 (r + 1)
          · obtain ⟨bz, oz, hBe, hz0, hzc⟩ := (hz.below hb).2 (by omega)
            have hqn : q + n ≤ zs.length := by have := HQ.out; omega
            have hpl := part_length hqn
            subst hBe
            have HB := Lib.hid (show ∀ W, Below wr.heap.size wr W → Calls Tryz.prog 57 #[.agg #[.slice A l.length cap], .slice (some ⟨bz, oz + q, none⟩) n (cb - q)] W fun e w' => e = .returned (lookV l (part zs q n)) ∧ Below W.heap.size W w' from fun W hW => by
              have h := impl_lookup A (some ⟨bz, oz + q, none⟩) cap (cb - q) l (part zs q n) W (((((hr.below hb).more hb.size)).below hW).more hW.size) HV.out (((((hz.below hb).part hqn).more hb.size).below hW).more hW.size) (by rw [hpl]; omega)
              rw [hpl] at h
              exact h)
            have hp1 : (⟨w.heap.size, 0, none⟩ : Addr).block < wr.heap.size := bP.lt
            have x1 : IntKind.i64.wrap ((q : Int) + (n : Int)) = (q : Int) + (n : Int) := IntWalk.i64_in _ (by omega)
            have x2 : (0 : Int) ≤ (q : Int) + (n : Int) := by omega
            have x3 : ((q : Int) + (n : Int)).toNat = q + n := by omega
            have x4' : (q : Int) + (n : Int) < (zs.length : Int) + 1 := by omega
            have x6 : q + n ≤ cb := by omega
            have x7 : q ≤ q + n := by omega
            have x8 : ¬ cb = q := by omega
            have x9 : q + n - q = n := by omega
            have xm : (n : Int) ≤ min 6 ((zs.length : Int) - (q : Int)) := by omega
            have xb : (q : Int) ≤ (q : Int) + (n : Int) := by omega
            have xc : (q : Int) + (n : Int) ≤ (cb : Int) := by omega
            have hlc : (fewTab cost1 l zs r (n - 1)).length = zs.length + 1 := fewTab_length hlt
            have hco := costT_ok l zs r (n - 1) (by omega)
            have hbo := best_ok l zs r (n - 1) (by omega) (by omega)
            have hxr := cost1_range hco (by omega)
            have hyr := cost1_range hbo (by omega)
            have hc1' := few_there (f := cost1) (l := l) (zs := zs) (r := r) (k := n - 1) (m := n) (by omega) (by omega)
            have hc2' := few_here (f := cost1) (l := l) (zs := zs) (r := r) (k := n - 1)
            rw [← HQ.out] at hc1' hc2'
            obtain ⟨c, hce⟩ : ∃ c, c = costAt (costT l zs r) (n - 1) := ⟨_, rfl⟩
            obtain ⟨bd, hbd⟩ : ∃ bd, bd = bestD l zs r (n - 1) := ⟨_, rfl⟩
            rw [← hce] at hc1' hxr hco
            rw [← hbd] at hc2' hyr hbo
            have HBT := Lib.hid (show decide (cost1 (c.1, c.2.1 + 1, n) ≤ cost1 bd) = better (c.1, c.2.1 + 1, n) bd from better_cost1 (by unfold CostOk at hco; show c.2.1 + 1 ≤ 60; omega) (by unfold CostOk at hbo; omega))
            have HC1 := Lib.hid (show cost1 (c.1, c.2.1 + 1, n) = cost1 c + 1 by simp only [cost1]; omega)
            have HBY := Lib.hid (fun t (ht : lookD l (part zs q n) = some t) (hbt : better (c.1, c.2.1 + 1, n) bd = true) => show bestD l zs r n = (c.1, c.2.1 + 1, n) by
              have e : n - 1 + 1 = n := by omega
              have h := best_yes (l := l) (zs := zs) (r := r) (k := n - 1) (t := t) (by rw [e, ← HQ.out]; exact ht) (by rw [e, ← hce, ← hbd]; exact hbt)
              rw [e, ← hce] at h
              exact h)
            have HBN := Lib.hid (fun (ht : lookD l (part zs q n) = none) => show bestD l zs r n = bestD l zs r (n - 1) by
              have e : n - 1 + 1 = n := by omega
              have h := best_none (l := l) (zs := zs) (r := r) (k := n - 1) (by rw [e, ← HQ.out]; exact ht)
              rwa [e] at h)
            have HBW := Lib.hid (fun (hbt : better (c.1, c.2.1 + 1, n) bd = false) => show bestD l zs r n = bestD l zs r (n - 1) by
              have e : n - 1 + 1 = n := by omega
              have h := best_worse (l := l) (zs := zs) (r := r) (k := n - 1) (by rw [e, ← hce, ← hbd]; exact hbt)
              rwa [e] at h)
            obtain ⟨x, hxe⟩ : ∃ x, x = cost1 c := ⟨_, rfl⟩
            obtain ⟨y, hye⟩ : ∃ y, y = cost1 bd := ⟨_, rfl⟩
            rw [← hxe] at hc1' hxr HC1
            rw [← hye] at hc2' hyr HBT
            have e1 := (hC.1.cellAt (q + n) (by omega)).trans (ints_at _ hc1')
            have e2 := (hC.1.cellAt q (by omega)).trans (ints_at _ hc2')
            have hp2 : (⟨gc, q + n, none⟩ : Addr).block < wr.heap.size := by show gc < _; omega
            clear hpl hc1' hc2' hlc hce hbd hxe hye hco hbo hzc
            cases hl : lookD l (part zs q n) with
            | none =>
              have HN := Lib.hid (HBN.out hl)
              have HL := Lib.hid (lookV_none hl)
              clear hl
              go_wp2
              have S0 : wr.cell? ⟨w.heap.size, 0, none⟩ = some (.slice A l.length cap) ∧ Below wr.heap.size wr wr := ⟨by assumption, Below.refl _ _⟩
              first | refine wp_region_noPanic ?_ | skip
              refine wp_region_held_drew (S := fun w' => w'.cell? ⟨w.heap.size, 0, none⟩ = some (.slice A l.length cap) ∧ Below wr.heap.size wr w') (by kernel_rfl) (by first | exact S0 | exact held1_drew S0 | assumption | exact held1_step hp1 S0 (by assumption) | exact held1_step hp1 (by assumption) (by assumption) | exact held1_drew (by assumption)) (fun hHeld => ?_)
              (refine wpAnyH_take (i := 0) (v := ?_) rfl (by kernel_rfl) (by kernel_rfl) (by kernel_rfl) (fun _ _ _ h => h) (Or.inl ⟨by rfl, ?_⟩) (by assumption) ?_; rotate_left; focus (intro w hSw; (try dsimp only at hSw); go_simp; try with_reducible rfl))
              (try simp only [List.getElem_toArray, List.getElem_cons_succ, List.getElem_cons_zero, Act.put, List.setIfInBounds_toArray, List.set_cons_zero, List.set_cons_succ])
              (refine wpAnyH_take (i := 1) (v := ?_) rfl (by kernel_rfl) (by kernel_rfl) (by kernel_rfl) (fun _ _ _ h => h) (Or.inl ⟨by rfl, ?_⟩) (by assumption) ?_; rotate_left; focus (intro w hSw; (try dsimp only at hSw); go_simp; try with_reducible rfl))
              (try simp only [List.getElem_toArray, List.getElem_cons_succ, List.getElem_cons_zero, Act.put, List.setIfInBounds_toArray, List.set_cons_zero, List.set_cons_succ])
              (refine wpAnyH_take (i := 2) (v := ?_) rfl (by kernel_rfl) (by kernel_rfl) (by kernel_rfl) (fun _ _ _ h => h) (Or.inl ⟨by rfl, ?_⟩) (by assumption) ?_; rotate_left; focus (intro w hSw; (try dsimp only at hSw); go_simp; try with_reducible rfl))
              (try simp only [List.getElem_toArray, List.getElem_cons_succ, List.getElem_cons_zero, Act.put, List.setIfInBounds_toArray, List.set_cons_zero, List.set_cons_succ])
              (refine wpAnyH_take (i := 3) (v := ?_) rfl (by kernel_rfl) (by kernel_rfl) (by kernel_rfl) (fun _ _ _ h => h) (Or.inl ⟨by rfl, ?_⟩) (by assumption) ?_; rotate_left; focus (intro w hSw; (try dsimp only at hSw); go_simp; try with_reducible rfl))
              (try simp only [List.getElem_toArray, List.getElem_cons_succ, List.getElem_cons_zero, Act.put, List.setIfInBounds_toArray, List.set_cons_zero, List.set_cons_succ])
              (refine wpAnyH_take (i := 4) (v := ?_) rfl (by kernel_rfl) (by kernel_rfl) (by kernel_rfl) (fun _ _ _ h => h) (Or.inl ⟨by rfl, ?_⟩) (by assumption) ?_; rotate_left; focus (intro w hSw; (try dsimp only at hSw); go_simp; try with_reducible rfl))
              (try simp only [List.getElem_toArray, List.getElem_cons_succ, List.getElem_cons_zero, Act.put, List.setIfInBounds_toArray, List.set_cons_zero, List.set_cons_succ])
              (refine wpAnyH_take (i := 5) (v := ?_) rfl (by kernel_rfl) (by kernel_rfl) (by kernel_rfl) (fun _ _ _ h => h) (Or.inl ⟨by rfl, ?_⟩) (by assumption) ?_; rotate_left; focus (intro w hSw; (try dsimp only at hSw); go_simp; try with_reducible rfl))
              (try simp only [List.getElem_toArray, List.getElem_cons_succ, List.getElem_cons_zero, Act.put, List.setIfInBounds_toArray, List.set_cons_zero, List.set_cons_succ])
              (refine wpAnyH_take (i := 6) (v := ?_) rfl (by kernel_rfl) (by kernel_rfl) (by kernel_rfl) (fun _ _ _ h => h) (Or.inl ⟨by rfl, ?_⟩) (by assumption) ?_; rotate_left; focus (intro w hSw; (try dsimp only at hSw); go_simp; try with_reducible rfl))
              (try simp only [List.getElem_toArray, List.getElem_cons_succ, List.getElem_cons_zero, Act.put, List.setIfInBounds_toArray, List.set_cons_zero, List.set_cons_succ])
              refine wpAnyH_ready (rs := [7]) (by kernel_rfl) (by simp) ?_
              refine AllReadyH.cons rfl (fun K hK => ?_) AllReadyH.nil
              go_simp
              refine (HB.out _ (held1_below (by assumption))).mono ?_; rw [HL.out]; rintro e w9 ⟨rfl, b9⟩; go_wp2_with fail
              refine hK.out _ _ (by first | exact S0 | exact held1_drew S0 | assumption | exact held1_step hp1 S0 (by assumption) | exact held1_step hp1 (by assumption) (by assumption) | exact held1_drew (by assumption)) (fun hHeld => ?_)
              clear hK K
              (try simp only [List.getElem_toArray, List.getElem_cons_succ, List.getElem_cons_zero, Act.put, List.setIfInBounds_toArray, List.set_cons_zero, List.set_cons_succ])
              (refine wpAnyH_take (i := 8) (v := ?_) rfl (by kernel_rfl) (by kernel_rfl) (by kernel_rfl) (fun _ _ _ h => h) (Or.inl ⟨by rfl, ?_⟩) (by assumption) ?_; rotate_left; focus (intro w hSw; (try dsimp only at hSw); go_simp; try with_reducible rfl))
              (try simp only [List.getElem_toArray, List.getElem_cons_succ, List.getElem_cons_zero, Act.put, List.setIfInBounds_toArray, List.set_cons_zero, List.set_cons_succ])
              (refine wpAnyH_take (i := 9) (v := ?_) rfl (by kernel_rfl) (by kernel_rfl) (by kernel_rfl) (fun _ _ _ h => h) (Or.inl ⟨by rfl, ?_⟩) (by assumption) ?_; rotate_left; focus (intro w hSw; (try dsimp only at hSw); go_simp; try with_reducible rfl))
              (try simp only [List.getElem_toArray, List.getElem_cons_succ, List.getElem_cons_zero, Act.put, List.setIfInBounds_toArray, List.set_cons_zero, List.set_cons_succ])
              (refine wpAnyH_take (i := 10) (v := ?_) rfl (by kernel_rfl) (by kernel_rfl) (by kernel_rfl) (fun _ _ _ h => h) (Or.inl ⟨by rfl, ?_⟩) (by assumption) ?_; rotate_left; focus (intro w hSw; (try dsimp only at hSw); go_simp; try with_reducible rfl))
              (try simp only [List.getElem_toArray, List.getElem_cons_succ, List.getElem_cons_zero, Act.put, List.setIfInBounds_toArray, List.set_cons_zero, List.set_cons_succ])
              (refine wpAnyH_take (i := 11) (v := ?_) rfl (by kernel_rfl) (by kernel_rfl) (by kernel_rfl) (fun _ _ _ h => h) (Or.inl ⟨by rfl, ?_⟩) (by assumption) ?_; rotate_left; focus (intro w hSw; (try dsimp only at hSw); go_simp; try with_reducible rfl))
              (try simp only [List.getElem_toArray, List.getElem_cons_succ, List.getElem_cons_zero, Act.put, List.setIfInBounds_toArray, List.set_cons_zero, List.set_cons_succ])
              (refine wpAnyH_take (i := 12) (v := ?_) rfl (by kernel_rfl) (by kernel_rfl) (by kernel_rfl) (fun _ _ _ h => h) (Or.inl ⟨by rfl, ?_⟩) (by assumption) ?_; rotate_left; focus (intro w hSw; (try dsimp only at hSw); go_simp; try with_reducible rfl))
              (try simp only [List.getElem_toArray, List.getElem_cons_succ, List.getElem_cons_zero, Act.put, List.setIfInBounds_toArray, List.set_cons_zero, List.set_cons_succ])
              refine wpAnyH_done (by kernel_rfl) ?_ _
              first | refine NoPanic.normal ?_ | skip
              have SZ : w9.cell? ⟨w.heap.size, 0, none⟩ = some (.slice A l.length cap) ∧ Below wr.heap.size wr w9 := by assumption
              have b9' := held1_below SZ
              have hC9 := hC.below b9'
              have hF9 := hF.below b9'
              have hO9 := hO.trans (Only.of_below b9')
              have g1 := (b9'.cell (p := ⟨gc, q + n, none⟩) hp2).trans e1
              clear S0 SZ hHeld x1 cP e1 e2
              go_wp2
              go_roundw
              case rel => exact ⟨n + 1, fs, by omega, by omega, by go_num, by rw [Nat.add_sub_cancel, few_keep HN.out]; exact hC9, hF9, by rw [Nat.add_sub_cancel]; exact first_keep HFT.out HN.out, hO9⟩
              case measure => simp [intOf]; omega
            | some t =>
              have HL := Lib.hid (lookV_some hl)
              by_cases hxy : x + 1 ≤ y
              · have HN := Lib.hid (HBY.out t hl (by rw [← HBT.out, HC1.out]; exact decide_eq_true hxy))
                clear hl
                go_wp2
                have S0 : wr.cell? ⟨w.heap.size, 0, none⟩ = some (.slice A l.length cap) ∧ Below wr.heap.size wr wr := ⟨by assumption, Below.refl _ _⟩
                first | refine wp_region_noPanic ?_ | skip
                refine wp_region_held_drew (S := fun w' => w'.cell? ⟨w.heap.size, 0, none⟩ = some (.slice A l.length cap) ∧ Below wr.heap.size wr w') (by kernel_rfl) (by first | exact S0 | exact held1_drew S0 | assumption | exact held1_step hp1 S0 (by assumption) | exact held1_step hp1 (by assumption) (by assumption) | exact held1_drew (by assumption)) (fun hHeld => ?_)
                (refine wpAnyH_take (i := 0) (v := ?_) rfl (by kernel_rfl) (by kernel_rfl) (by kernel_rfl) (fun _ _ _ h => h) (Or.inl ⟨by rfl, ?_⟩) (by assumption) ?_; rotate_left; focus (intro w hSw; (try dsimp only at hSw); go_simp; try with_reducible rfl))
                (try simp only [List.getElem_toArray, List.getElem_cons_succ, List.getElem_cons_zero, Act.put, List.setIfInBounds_toArray, List.set_cons_zero, List.set_cons_succ])
                (refine wpAnyH_take (i := 1) (v := ?_) rfl (by kernel_rfl) (by kernel_rfl) (by kernel_rfl) (fun _ _ _ h => h) (Or.inl ⟨by rfl, ?_⟩) (by assumption) ?_; rotate_left; focus (intro w hSw; (try dsimp only at hSw); go_simp; try with_reducible rfl))
                (try simp only [List.getElem_toArray, List.getElem_cons_succ, List.getElem_cons_zero, Act.put, List.setIfInBounds_toArray, List.set_cons_zero, List.set_cons_succ])
                (refine wpAnyH_take (i := 2) (v := ?_) rfl (by kernel_rfl) (by kernel_rfl) (by kernel_rfl) (fun _ _ _ h => h) (Or.inl ⟨by rfl, ?_⟩) (by assumption) ?_; rotate_left; focus (intro w hSw; (try dsimp only at hSw); go_simp; try with_reducible rfl))
                (try simp only [List.getElem_toArray, List.getElem_cons_succ, List.getElem_cons_zero, Act.put, List.setIfInBounds_toArray, List.set_cons_zero, List.set_cons_succ])
                (refine wpAnyH_take (i := 3) (v := ?_) rfl (by kernel_rfl) (by kernel_rfl) (by kernel_rfl) (fun _ _ _ h => h) (Or.inl ⟨by rfl, ?_⟩) (by assumption) ?_; rotate_left; focus (intro w hSw; (try dsimp only at hSw); go_simp; try with_reducible rfl))
                (try simp only [List.getElem_toArray, List.getElem_cons_succ, List.getElem_cons_zero, Act.put, List.setIfInBounds_toArray, List.set_cons_zero, List.set_cons_succ])
                (refine wpAnyH_take (i := 4) (v := ?_) rfl (by kernel_rfl) (by kernel_rfl) (by kernel_rfl) (fun _ _ _ h => h) (Or.inl ⟨by rfl, ?_⟩) (by assumption) ?_; rotate_left; focus (intro w hSw; (try dsimp only at hSw); go_simp; try with_reducible rfl))
                (try simp only [List.getElem_toArray, List.getElem_cons_succ, List.getElem_cons_zero, Act.put, List.setIfInBounds_toArray, List.set_cons_zero, List.set_cons_succ])
                (refine wpAnyH_take (i := 5) (v := ?_) rfl (by kernel_rfl) (by kernel_rfl) (by kernel_rfl) (fun _ _ _ h => h) (Or.inl ⟨by rfl, ?_⟩) (by assumption) ?_; rotate_left; focus (intro w hSw; (try dsimp only at hSw); go_simp; try with_reducible rfl))
                (try simp only [List.getElem_toArray, List.getElem_cons_succ, List.getElem_cons_zero, Act.put, List.setIfInBounds_toArray, List.set_cons_zero, List.set_cons_succ])
                (refine wpAnyH_take (i := 6) (v := ?_) rfl (by kernel_rfl) (by kernel_rfl) (by kernel_rfl) (fun _ _ _ h => h) (Or.inl ⟨by rfl, ?_⟩) (by assumption) ?_; rotate_left; focus (intro w hSw; (try dsimp only at hSw); go_simp; try with_reducible rfl))
                (try simp only [List.getElem_toArray, List.getElem_cons_succ, List.getElem_cons_zero, Act.put, List.setIfInBounds_toArray, List.set_cons_zero, List.set_cons_succ])
                refine wpAnyH_ready (rs := [7]) (by kernel_rfl) (by simp) ?_
                refine AllReadyH.cons rfl (fun K hK => ?_) AllReadyH.nil
                go_simp
                refine (HB.out _ (held1_below (by assumption))).mono ?_; rw [HL.out]; rintro e w9 ⟨rfl, b9⟩; go_wp2_with fail
                refine hK.out _ _ (by first | exact S0 | exact held1_drew S0 | assumption | exact held1_step hp1 S0 (by assumption) | exact held1_step hp1 (by assumption) (by assumption) | exact held1_drew (by assumption)) (fun hHeld => ?_)
                clear hK K
                (try simp only [List.getElem_toArray, List.getElem_cons_succ, List.getElem_cons_zero, Act.put, List.setIfInBounds_toArray, List.set_cons_zero, List.set_cons_succ])
                (refine wpAnyH_take (i := 8) (v := ?_) rfl (by kernel_rfl) (by kernel_rfl) (by kernel_rfl) (fun _ _ _ h => h) (Or.inl ⟨by rfl, ?_⟩) (by assumption) ?_; rotate_left; focus (intro w hSw; (try dsimp only at hSw); go_simp; try with_reducible rfl))
                (try simp only [List.getElem_toArray, List.getElem_cons_succ, List.getElem_cons_zero, Act.put, List.setIfInBounds_toArray, List.set_cons_zero, List.set_cons_succ])
                (refine wpAnyH_take (i := 9) (v := ?_) rfl (by kernel_rfl) (by kernel_rfl) (by kernel_rfl) (fun _ _ _ h => h) (Or.inl ⟨by rfl, ?_⟩) (by assumption) ?_; rotate_left; focus (intro w hSw; (try dsimp only at hSw); go_simp; try with_reducible rfl))
                (try simp only [List.getElem_toArray, List.getElem_cons_succ, List.getElem_cons_zero, Act.put, List.setIfInBounds_toArray, List.set_cons_zero, List.set_cons_succ])
                (refine wpAnyH_take (i := 10) (v := ?_) rfl (by kernel_rfl) (by kernel_rfl) (by kernel_rfl) (fun _ _ _ h => h) (Or.inl ⟨by rfl, ?_⟩) (by assumption) ?_; rotate_left; focus (intro w hSw; (try dsimp only at hSw); go_simp; try with_reducible rfl))
                (try simp only [List.getElem_toArray, List.getElem_cons_succ, List.getElem_cons_zero, Act.put, List.setIfInBounds_toArray, List.set_cons_zero, List.set_cons_succ])
                (refine wpAnyH_take (i := 11) (v := ?_) rfl (by kernel_rfl) (by kernel_rfl) (by kernel_rfl) (fun _ _ _ h => h) (Or.inl ⟨by rfl, ?_⟩) (by assumption) ?_; rotate_left; focus (intro w hSw; (try dsimp only at hSw); go_simp; try with_reducible rfl))
                (try simp only [List.getElem_toArray, List.getElem_cons_succ, List.getElem_cons_zero, Act.put, List.setIfInBounds_toArray, List.set_cons_zero, List.set_cons_succ])
                (refine wpAnyH_take (i := 12) (v := ?_) rfl (by kernel_rfl) (by kernel_rfl) (by kernel_rfl) (fun _ _ _ h => h) (Or.inl ⟨by rfl, ?_⟩) (by assumption) ?_; rotate_left; focus (intro w hSw; (try dsimp only at hSw); go_simp; try with_reducible rfl))
                (try simp only [List.getElem_toArray, List.getElem_cons_succ, List.getElem_cons_zero, Act.put, List.setIfInBounds_toArray, List.set_cons_zero, List.set_cons_succ])
                refine wpAnyH_done (by kernel_rfl) ?_ _
                first | refine NoPanic.normal ?_ | skip
                have SZ : w9.cell? ⟨w.heap.size, 0, none⟩ = some (.slice A l.length cap) ∧ Below wr.heap.size wr w9 := by assumption
                have b9' := held1_below SZ
                have hC9 := hC.below b9'
                have hF9 := hF.below b9'
                have hO9 := hO.trans (Only.of_below b9')
                have g1 := (b9'.cell (p := ⟨gc, q + n, none⟩) hp2).trans e1
                have g2 := (b9'.cell (p := ⟨gc, q, none⟩) (by show gc < _; omega)).trans e2
                have f2 := hC9.1.frozenAt q
                obtain ⟨⟨z0, z1, z2⟩, hz1⟩ := some_at fs (show q < fs.length by omega)
                obtain ⟨k0, k1, k2⟩ := hF9.cue hz1
                have kf := hF9.1.frozenAt
                simp only at k0 k1 k2
                have hC1 : Own (w9.setCell ⟨gc, q, none⟩ (.int .i64 (x + 1))) gc (gc + 1) 3 1 (.slice (some ⟨gc, 0, none⟩) (zs.length + 1) (zs.length + 1)) (zs.length + 1) (ints (fewTab cost1 l zs r n)) := by
                  have h := hC9.set_ q (.int .i64 (x + 1))
                  have e := few_set (f := cost1) (l := l) (zs := zs) (r := r) (k := n - 1) n
                  rw [HN.out, HC1.out, ← HQ.out] at e
                  rw [ints_set2, e] at h
                  exact h
                have oC : Only gc (gc + 1) w9 (w9.setCell ⟨gc, q, none⟩ (.int .i64 (x + 1))) := (Only.refl w9).setCell (by show gc ≤ gc; omega) (by show gc < gc + 1; omega) _
                have hF1 := hF9.only oC (by omega)
                obtain ⟨p0, p1, p2⟩ := hF1.cue hz1
                have pf := hF1.1.frozenAt
                simp only at p0 p1 p2
                have hF2 := hF1.setCue (show q < fs.length by omega) ((q : Int), (n : Int), t)
                have HFA2 := Lib.hid (show FirstAt l zs (fs.set q ((q : Int), (n : Int), t)) r n by
                  have h := first_set hlt HFT.out n (q : Int) t
                  rw [HN.out, ← HQ.out] at h
                  have e : stepF (c.1, c.2.1 + 1, n) = n := by simp only [stepF]; omega
                  rw [e] at h
                  exact h)
                obtain ⟨wX, hwX⟩ : ∃ wX, wX = w9.setCell ⟨gc, q, none⟩ (.int .i64 (x + 1)) := ⟨_, rfl⟩
                have hO1 := hO9.trans ((Only.refl w9).setCell (lo := w3.heap.size) (hi := w3.heap.size + 2) (p := ⟨gc, q, none⟩) (by show w3.heap.size ≤ gc; omega) (by show gc < w3.heap.size + 2; omega) (.int .i64 (x + 1)))
                have oF : Only gf (gf + 1) wX (((wX.setCell ⟨gf, q * 3, none⟩ (.int .i64 (q : Int))).setCell ⟨gf, q * 3 + 1, none⟩ (.int .i64 (n : Int))).setCell ⟨gf, q * 3 + 2, none⟩ (.string t)) := ((((Only.refl wX).setCell (lo := gf) (hi := (gf + 1)) (p := ⟨gf, q * 3, none⟩) (by show gf ≤ gf; omega) (by show gf < (gf + 1); omega) _).setCell (p := ⟨gf, q * 3 + 1, none⟩) (by show gf ≤ gf; omega) (by show gf < (gf + 1); omega) _).setCell (p := ⟨gf, q * 3 + 2, none⟩) (by show gf ≤ gf; omega) (by show gf < (gf + 1); omega) _)
                have oS : Only w3.heap.size (w3.heap.size + 2) wX (((wX.setCell ⟨gf, q * 3, none⟩ (.int .i64 (q : Int))).setCell ⟨gf, q * 3 + 1, none⟩ (.int .i64 (n : Int))).setCell ⟨gf, q * 3 + 2, none⟩ (.string t)) := ((((Only.refl wX).setCell (lo := w3.heap.size) (hi := (w3.heap.size + 2)) (p := ⟨gf, q * 3, none⟩) (by show w3.heap.size ≤ gf; omega) (by show gf < (w3.heap.size + 2); omega) _).setCell (p := ⟨gf, q * 3 + 1, none⟩) (by show w3.heap.size ≤ gf; omega) (by show gf < (w3.heap.size + 2); omega) _).setCell (p := ⟨gf, q * 3 + 2, none⟩) (by show w3.heap.size ≤ gf; omega) (by show gf < (w3.heap.size + 2); omega) _)
                rw [hwX] at oF oS
                have hC2 := hC1.only oF (by omega)
                have hO2 := hO1.trans oS
                simp only at hF2
                clear S0 SZ hHeld x1 cP e1 e2 hwX hz1 oF oS oC hO1 hC1 hF1 hC9 hF9 hO9
                go_wp2
                go_roundw
                case rel => exact ⟨n + 1, _, by omega, by omega, by go_num, by rw [Nat.add_sub_cancel]; exact hC2, hF2, by rw [Nat.add_sub_cancel]; exact HFA2.out, hO2⟩
                case measure => simp [intOf]; omega
              · have HN := Lib.hid (HBW.out (by rw [← HBT.out, HC1.out]; exact decide_eq_false hxy))
                clear hl
                go_wp2
                have S0 : wr.cell? ⟨w.heap.size, 0, none⟩ = some (.slice A l.length cap) ∧ Below wr.heap.size wr wr := ⟨by assumption, Below.refl _ _⟩
                first | refine wp_region_noPanic ?_ | skip
                refine wp_region_held_drew (S := fun w' => w'.cell? ⟨w.heap.size, 0, none⟩ = some (.slice A l.length cap) ∧ Below wr.heap.size wr w') (by kernel_rfl) (by first | exact S0 | exact held1_drew S0 | assumption | exact held1_step hp1 S0 (by assumption) | exact held1_step hp1 (by assumption) (by assumption) | exact held1_drew (by assumption)) (fun hHeld => ?_)
                (refine wpAnyH_take (i := 0) (v := ?_) rfl (by kernel_rfl) (by kernel_rfl) (by kernel_rfl) (fun _ _ _ h => h) (Or.inl ⟨by rfl, ?_⟩) (by assumption) ?_; rotate_left; focus (intro w hSw; (try dsimp only at hSw); go_simp; try with_reducible rfl))
                (try simp only [List.getElem_toArray, List.getElem_cons_succ, List.getElem_cons_zero, Act.put, List.setIfInBounds_toArray, List.set_cons_zero, List.set_cons_succ])
                (refine wpAnyH_take (i := 1) (v := ?_) rfl (by kernel_rfl) (by kernel_rfl) (by kernel_rfl) (fun _ _ _ h => h) (Or.inl ⟨by rfl, ?_⟩) (by assumption) ?_; rotate_left; focus (intro w hSw; (try dsimp only at hSw); go_simp; try with_reducible rfl))
                (try simp only [List.getElem_toArray, List.getElem_cons_succ, List.getElem_cons_zero, Act.put, List.setIfInBounds_toArray, List.set_cons_zero, List.set_cons_succ])
                (refine wpAnyH_take (i := 2) (v := ?_) rfl (by kernel_rfl) (by kernel_rfl) (by kernel_rfl) (fun _ _ _ h => h) (Or.inl ⟨by rfl, ?_⟩) (by assumption) ?_; rotate_left; focus (intro w hSw; (try dsimp only at hSw); go_simp; try with_reducible rfl))
                (try simp only [List.getElem_toArray, List.getElem_cons_succ, List.getElem_cons_zero, Act.put, List.setIfInBounds_toArray, List.set_cons_zero, List.set_cons_succ])
                (refine wpAnyH_take (i := 3) (v := ?_) rfl (by kernel_rfl) (by kernel_rfl) (by kernel_rfl) (fun _ _ _ h => h) (Or.inl ⟨by rfl, ?_⟩) (by assumption) ?_; rotate_left; focus (intro w hSw; (try dsimp only at hSw); go_simp; try with_reducible rfl))
                (try simp only [List.getElem_toArray, List.getElem_cons_succ, List.getElem_cons_zero, Act.put, List.setIfInBounds_toArray, List.set_cons_zero, List.set_cons_succ])
                (refine wpAnyH_take (i := 4) (v := ?_) rfl (by kernel_rfl) (by kernel_rfl) (by kernel_rfl) (fun _ _ _ h => h) (Or.inl ⟨by rfl, ?_⟩) (by assumption) ?_; rotate_left; focus (intro w hSw; (try dsimp only at hSw); go_simp; try with_reducible rfl))
                (try simp only [List.getElem_toArray, List.getElem_cons_succ, List.getElem_cons_zero, Act.put, List.setIfInBounds_toArray, List.set_cons_zero, List.set_cons_succ])
                (refine wpAnyH_take (i := 5) (v := ?_) rfl (by kernel_rfl) (by kernel_rfl) (by kernel_rfl) (fun _ _ _ h => h) (Or.inl ⟨by rfl, ?_⟩) (by assumption) ?_; rotate_left; focus (intro w hSw; (try dsimp only at hSw); go_simp; try with_reducible rfl))
                (try simp only [List.getElem_toArray, List.getElem_cons_succ, List.getElem_cons_zero, Act.put, List.setIfInBounds_toArray, List.set_cons_zero, List.set_cons_succ])
                (refine wpAnyH_take (i := 6) (v := ?_) rfl (by kernel_rfl) (by kernel_rfl) (by kernel_rfl) (fun _ _ _ h => h) (Or.inl ⟨by rfl, ?_⟩) (by assumption) ?_; rotate_left; focus (intro w hSw; (try dsimp only at hSw); go_simp; try with_reducible rfl))
                (try simp only [List.getElem_toArray, List.getElem_cons_succ, List.getElem_cons_zero, Act.put, List.setIfInBounds_toArray, List.set_cons_zero, List.set_cons_succ])
                refine wpAnyH_ready (rs := [7]) (by kernel_rfl) (by simp) ?_
                refine AllReadyH.cons rfl (fun K hK => ?_) AllReadyH.nil
                go_simp
                refine (HB.out _ (held1_below (by assumption))).mono ?_; rw [HL.out]; rintro e w9 ⟨rfl, b9⟩; go_wp2_with fail
                refine hK.out _ _ (by first | exact S0 | exact held1_drew S0 | assumption | exact held1_step hp1 S0 (by assumption) | exact held1_step hp1 (by assumption) (by assumption) | exact held1_drew (by assumption)) (fun hHeld => ?_)
                clear hK K
                (try simp only [List.getElem_toArray, List.getElem_cons_succ, List.getElem_cons_zero, Act.put, List.setIfInBounds_toArray, List.set_cons_zero, List.set_cons_succ])
                (refine wpAnyH_take (i := 8) (v := ?_) rfl (by kernel_rfl) (by kernel_rfl) (by kernel_rfl) (fun _ _ _ h => h) (Or.inl ⟨by rfl, ?_⟩) (by assumption) ?_; rotate_left; focus (intro w hSw; (try dsimp only at hSw); go_simp; try with_reducible rfl))
                (try simp only [List.getElem_toArray, List.getElem_cons_succ, List.getElem_cons_zero, Act.put, List.setIfInBounds_toArray, List.set_cons_zero, List.set_cons_succ])
                (refine wpAnyH_take (i := 9) (v := ?_) rfl (by kernel_rfl) (by kernel_rfl) (by kernel_rfl) (fun _ _ _ h => h) (Or.inl ⟨by rfl, ?_⟩) (by assumption) ?_; rotate_left; focus (intro w hSw; (try dsimp only at hSw); go_simp; try with_reducible rfl))
                (try simp only [List.getElem_toArray, List.getElem_cons_succ, List.getElem_cons_zero, Act.put, List.setIfInBounds_toArray, List.set_cons_zero, List.set_cons_succ])
                (refine wpAnyH_take (i := 10) (v := ?_) rfl (by kernel_rfl) (by kernel_rfl) (by kernel_rfl) (fun _ _ _ h => h) (Or.inl ⟨by rfl, ?_⟩) (by assumption) ?_; rotate_left; focus (intro w hSw; (try dsimp only at hSw); go_simp; try with_reducible rfl))
                (try simp only [List.getElem_toArray, List.getElem_cons_succ, List.getElem_cons_zero, Act.put, List.setIfInBounds_toArray, List.set_cons_zero, List.set_cons_succ])
                (refine wpAnyH_take (i := 11) (v := ?_) rfl (by kernel_rfl) (by kernel_rfl) (by kernel_rfl) (fun _ _ _ h => h) (Or.inl ⟨by rfl, ?_⟩) (by assumption) ?_; rotate_left; focus (intro w hSw; (try dsimp only at hSw); go_simp; try with_reducible rfl))
                (try simp only [List.getElem_toArray, List.getElem_cons_succ, List.getElem_cons_zero, Act.put, List.setIfInBounds_toArray, List.set_cons_zero, List.set_cons_succ])
                (refine wpAnyH_take (i := 12) (v := ?_) rfl (by kernel_rfl) (by kernel_rfl) (by kernel_rfl) (fun _ _ _ h => h) (Or.inl ⟨by rfl, ?_⟩) (by assumption) ?_; rotate_left; focus (intro w hSw; (try dsimp only at hSw); go_simp; try with_reducible rfl))
                (try simp only [List.getElem_toArray, List.getElem_cons_succ, List.getElem_cons_zero, Act.put, List.setIfInBounds_toArray, List.set_cons_zero, List.set_cons_succ])
                refine wpAnyH_done (by kernel_rfl) ?_ _
                first | refine NoPanic.normal ?_ | skip
                have SZ : w9.cell? ⟨w.heap.size, 0, none⟩ = some (.slice A l.length cap) ∧ Below wr.heap.size wr w9 := by assumption
                have b9' := held1_below SZ
                have hC9 := hC.below b9'
                have hF9 := hF.below b9'
                have hO9 := hO.trans (Only.of_below b9')
                have g1 := (b9'.cell (p := ⟨gc, q + n, none⟩) hp2).trans e1
                have g2 := (b9'.cell (p := ⟨gc, q, none⟩) (by show gc < _; omega)).trans e2
                clear S0 SZ hHeld x1 cP e1 e2
                go_wp2
                go_roundw
                case rel => exact ⟨n + 1, fs, by omega, by omega, by go_num, by rw [Nat.add_sub_cancel, few_keep HN.out]; exact hC9, hF9, by rw [Nat.add_sub_cancel]; exact first_keep HFT.out HN.out, hO9⟩
                case measure => simp [intOf]; omega
          · have hq' := HQ.out
            have e : n - 1 = min 6 (r + 1) := by omega
            rw [e, few_last] at hC
            rw [e] at HFT
            have HE := Lib.hid (show (Value.int .i64 ((q : Int) - 1)) = .int .i64 ((zs.length : Int) - 1 - ((r + 1 : Nat) : Int)) by congr 1; omega)
            have xm : ¬ (n : Int) ≤ min 6 ((zs.length : Int) - (q : Int)) := by omega
            clear e hq'
            go_wp2
            go_roundw
            case rel => exact ⟨r + 1, fs, by omega, by first | exact HE.out | (rw [← HE.out]), hC, hF, first_last hlt HFT.out, hO⟩
            case measure => simp [intOf]; try omega
      · obtain rfl : r = zs.length := by omega
        have hqi : (zs.length : Int) - 1 - (zs.length : Int) = -1 := by omega
        rw [hqi]
        have hbO : Below w.heap.size w wr := BM.trans (hO.below (by omega) BM.size)
        have hsw : w3.heap.size + 2 ≤ wr.heap.size := by have := hO.size; have := HSM.out; omega
        have F0 := hF.1.base (Nat.zero_le gf)
        have ba := (Below.refl wr.heap.size wr).alloc (Nat.le_refl _) (.cells #[] 58)
        have own0 : (wr.alloc (.cells #[] 58)).ownsRow (w3.heap.size + 2) 58 3 (.slice (some ⟨wr.heap.size, 0, none⟩) 0 0) 0 [] := World.ownsRow_made _ _ _ hsw (by simp) rfl
        have F1 := row_below F0 ba
        have B1 := hbO.trans (ba.mono hbO.size)
        have szA : w3.heap.size + 2 ≤ (wr.alloc (.cells #[] 58)).heap.size := by simp; omega
        clear hO hC hF hqi F0 ba hbO bPM
        go_wp2
        go_loopw [14, 15] (fun v x wr => ∃ (i m : Nat) (xs : List Value), i ≤ zs.length ∧ x = .int .i64 i ∧ FewAt (costT l zs zs.length) zs.length m i ∧ wr.ownsRow (w3.heap.size + 2) 58 3 v m xs ∧ wr.ownsRow 0 58 3 (.slice (some ⟨gf, 0, none⟩) zs.length zs.length) zs.length (cuesV fs) ∧ Below w.heap.size w wr ∧ w3.heap.size + 2 ≤ wr.heap.size) (fun _ x _ => zs.length - (intOf x).toNat)
        case atStart => exact ⟨0, 0, [], Nat.zero_le _, rfl, fewAt_zero _ _, own0, F1, B1, szA⟩
        case round =>
          obtain ⟨i, m, xs, hi, rfl, hfa, hown, hF, hb, szx⟩ := hrel
          have HFA := Lib.hid hfa
          have hmn := fewAt_le hfa
          clear hfa own0 F1 B1
          by_cases hil : i < zs.length
          · have hst := step_le (l := l) hil
            have HNX := Lib.hid (few_step HFA.out hil)
            obtain ⟨⟨a, b, t⟩, hc⟩ := some_at fs (show i < fs.length by omega)
            have hcnt := first_end HFO.out hc
            obtain ⟨st, hste⟩ : ∃ st, st = stepF (costAt (costT l zs zs.length) i) := ⟨_, rfl⟩
            rw [← hste] at hst HNX hcnt
            simp only at hcnt
            subst hcnt
            have hcv := cuesV_at hc
            have hll : (cuesV fs).length = fs.length * 3 := cuesV_length fs
            have e0 := (hF.cellAt (i * 3) (by omega)).trans hcv.1
            have e1 := (hF.cellAt (i * 3 + 1) (by omega)).trans hcv.2.1
            have e2 := (hF.cellAt (i * 3 + 2) (by omega)).trans hcv.2.2
            have HCV := Lib.hid hcv.2.1
            have hvb : u14.ownBlock ≠ some gf := fun h => by have := (hown.lt gf h).1; omega
            have i0 : (0 : Int) ≤ (i : Int) := by omega
            have i2 : (i : Int) < (zs.length : Int) := by omega
            simp only at e0 e1 e2
            clear hste hc hcv hll
            go_wp2_with (at_builtin; refine wpList_append_threeG hown szx (.tmp 104) (.tmp 109) 55 Tryz.underlying55 info_piece (by omega) (by unfold maxLen; omega) ⟨rfl, rfl, rfl, rfl, rfl, rfl, rfl, rfl⟩ rfl ?_; intro v10 w10 hown10 gr10; have hF10 := hF.kept gr10 (.inr (fun h => hvb h.symm)); have k10 := (hF10.cellAt (i * 3 + 1) (by omega)).trans HCV.out; clear e0 e1 e2)
            go_roundw
            case rel => exact ⟨i + st, m + 1, _, by omega, by go_num, HNX.out, hown10, hF10, below_grown hb gr10 hb.size hown rfl (by omega), Nat.le_trans szx gr10.size⟩
            case measure => simp [intOf]; omega
          · obtain rfl : i = zs.length := by omega
            obtain ⟨Av, kv, rfl, -, -, -⟩ := (Own.of_row hown).slice
            have HE := Lib.hid (fewAt_end HFA.out (Nat.le_refl _))
            go_wp2
            go_ret2
            exact ⟨Av, m, kv, by rw [HRO.out] <;> rfl, fun _ => HE.out, hb⟩
set_option maxHeartbeats 2000000 in
theorem impl_PieceExcess (A B : Option Addr) (cap cb : Nat) (l : List EntD) (zs : List Int) (w : World) (hr : DictR w w.heap.size A l) (hn : l.length ≤ 1048576) (hs : ShortD l) (hmx : MaxOk w) (hz : Reads w w.heap.size 1 B zs.length (ints zs)) (hzn : zs.length ≤ 1048576) (hcb : zs.length ≤ cb) (hcm : cb ≤ maxLen) :
    Calls Tryz.prog 16 #[.agg #[.slice A l.length cap], .slice B zs.length cb] w (ExRes l zs w) := by
  obtain ⟨W1, hW1⟩ : ∃ W1, W1 = w.alloc (.cells #[.slice A l.length cap] 26) := ⟨_, rfl⟩
  have hb1 : Below w.heap.size w W1 := by rw [hW1]; exact (Below.refl _ _).alloc (Nat.le_refl _) _
  have bP : Box W1 w.heap.size 26 (.slice A l.length cap) := by rw [hW1]; exact Box.new w _ _
  have HF := Lib.hid (impl_FewestPieces A B cap cb l zs W1 ((hr.below hb1).more hb1.size) hn hs (hmx.below hb1) ((hz.below hb1).more hb1.size) hzn hcb hcm)
  have cP := bP.cell
  clear hs hmx
  go_enter Tryz.func16, Tryz.ntmps16
  go_wp2_with fail
  rw [← hW1]
  clear hW1
  refine HF.out.mono ?_
  rintro e w3 ⟨Av, n, c, rfl, hnf, b3⟩
  have B3 := hb1.trans (b3.mono hb1.size)
  have cP3 := (bP.far b3).cell
  have HNF := Lib.hid hnf
  clear cP hnf HF
  cases hok : okD l zs
  · have HO := Lib.hid hok
    clear hok
    go_wp2
    go_ret2
    exact ex_no HO.out B3
  have HO := Lib.hid hok
  have hfn := HNF.out hok
  have HV := Lib.hid (show dictB l = true by simp only [okD, Bool.and_eq_true] at hok; exact hok.1)
  have hsl := segD_len l zs
  have hfl := few_le (l := l) (zs := zs)
  clear hok
  subst hfn
  go_wp2_with fail
  refine (impl_segment A B cap cb l zs _ ((hr.below B3).more B3.size) HV.out ((hz.below B3).more B3.size) hzn hcb hcm).mono ?_
  rintro e w5 ⟨v5, rfl, o5, b5⟩
  have B5 := B3.trans (b5.mono B3.size)
  obtain ⟨A5, k5, rfl, -, -, -⟩ := o5.slice
  go_wp2
  go_ret2
  exact ex_yes HO.out B5
end Go.Proofs.YtoimkppjbabgeaaGreatDoor
