/-
  The reference's FewestPieces, as far as its length goes, and PieceExcess.
-/
import Derived.Test.YtoimkppjbabgeaaGreatDoorFewW
import Derived.Test.YtoimkppjbabgeaaGreatDoorPerS
import Derived.Test.YtoimkppjbabgeaaGreatDoorRowsSS
import Derived.Test.YtoimkppjbabgeaaGreatDoorHeldA
namespace Go.Proofs.YtoimkppjbabgeaaGreatDoor
open Go.RowKit
set_option linter.unusedVariables false
set_option linter.unusedSimpArgs false
set_option maxRecDepth 100000

set_option maxHeartbeats 1000000 in
theorem spec_l11Strokes (A : Option Addr) (cap : Nat) (zs : List Int) (w : World) (hr : Reads w w.heap.size 1 A zs.length (ints zs)) (hn : zs.length ≤ 1048576) :
    Calls Tryz.prog 58 #[.slice A zs.length cap] w fun e w' => e = .returned (.bool (strokesB zs)) ∧ w = w' := by
  go_enter Tryz.func58, Tryz.ntmps58
  go_wp2
  go_loop [3] (fun i => ∃ k : Nat, k ≤ zs.length ∧ k ≤ 61 ∧ i = .int .i64 k ∧ ∀ j x, j < k → zs[j]? = some x → inB x 1 8388607 = true)
    (fun i => zs.length - (intOf i).toNat)
  case atStart => exact ⟨0, Nat.zero_le _, by omega, rfl, fun j _ hj => absurd hj (Nat.not_lt_zero _)⟩
  case round =>
    obtain ⟨k, hk, hk61, rfl, hall⟩ := hrel
    have HA := Lib.hid hall
    clear hall
    by_cases hlt : k < zs.length
    · by_cases h60 : k ≤ 60
      · obtain ⟨b, off, rfl, hb0, hc⟩ := hr.2 (by omega)
        obtain ⟨x, hx⟩ := some_at zs hlt
        have cx : w.cell? ⟨b, off + k, none⟩ = some (.int .i64 x) := hc k _ (ints_at zs hx)
        have HX := Lib.hid hx
        have i6 : (k : Int) ≤ 60 := by omega
        clear hx hc
        by_cases hg : inB x 1 8388607 = true
        · go_wp2_with (go_at_call 52; refine (spec_l2Good _ _).mono ?_; rintro e w' ⟨rfl, rfl⟩)
          go_round
          case rel => exact ⟨k + 1, by omega, by omega, by go_num, fun j y hj hy => by
            rcases Nat.lt_or_ge j k with h | h
            · exact HA.out j y h hy
            · obtain rfl : j = k := by omega
              rw [HX.out] at hy
              rw [← Option.some.inj hy]; exact hg⟩
          case measure => simp [intOf]; omega
        · have hg' : inB x 1 8388607 = false := by simpa using hg
          clear hg
          go_wp2_with (go_at_call 52; refine (spec_l2Good _ _).mono ?_; rintro e w' ⟨rfl, rfl⟩)
          go_ret
          exact ⟨ret_bool (by simp [strokesB, good_false HX.out hg']), rfl⟩
      · have i6 : ¬ (k : Int) ≤ 60 := by omega
        go_wp2
        go_ret
        have h0 : strokesB zs = false := by simp [strokesB]; omega
        exact ⟨ret_bool (by rw [h0]; simp; omega), rfl⟩
    · obtain rfl : k = zs.length := by omega
      go_wp2
      go_ret
      have hg := good_true fun j x h => HA.out j x (List.getElem?_eq_some_iff.1 h).1 h
      exact ⟨ret_bool (by simp only [strokesB, hg, Bool.and_true]; exact decide_eq_decide.2 (by omega)), rfl⟩
theorem spec_most1 (a : Nat) (w : World) : Calls Tryz.prog 60 #[.int .i64 (a : Int), .int .i64 1] w fun e w' => e = .returned (.int .i64 ((max a 1 : Nat) : Int)) ∧ w = w' := by
  by_cases h : 1 < a
  · have h1 : max a 1 = a := by omega
    rw [h1]
    have h2 : (1 : Int) < (a : Int) := by omega
    go_enter Tryz.func60, Tryz.ntmps60
    go_wp2
    go_ret
    exact ⟨rfl, rfl⟩
  · have h1 : max a 1 = 1 := by omega
    rw [h1]
    have h2 : ¬ (1 : Int) < (a : Int) := by omega
    go_enter Tryz.func60, Tryz.ntmps60
    go_wp2
    go_ret
    exact ⟨rfl, rfl⟩

theorem three_set {w : World} {g : Nat} {T : TypeId} {u v x : Value} (h : Three w g T u v x) (a : Value) : Three (w.setCell ⟨g, 1, none⟩ a) g T u a x ∧ Three (w.setCell ⟨g, 2, none⟩ a) g T u v a := by
  have hlt := h.lt
  have h' : w.heap[g] = .cells #[u, v, x] T (0, 0) := by unfold Three at h; simpa [Array.getElem?_eq_getElem hlt] using h
  constructor
  · show (w.heap.modify g _)[g]? = _
    rw [Array.getElem?_eq_getElem (by simpa using hlt), Array.getElem_modify_self, h']
    rfl
  · show (w.heap.modify g _)[g]? = _
    rw [Array.getElem?_eq_getElem (by simpa using hlt), Array.getElem_modify_self, h']
    rfl
theorem apart_two {w : World} {b b' s s' n n' : Nat} {e e' : TypeId} {v v' : Value} {xs xs' : List Value} (h : w.ownsRow b e s v n xs) (h' : w.ownsRow b' e' s' v' n' xs') (he : e ≠ e') : v.ownBlock = none ∨ v.ownBlock ≠ v'.ownBlock := by
  cases hb : v.ownBlock with
  | none => exact .inl rfl
  | some g => exact .inr fun h2 => rows_apart h h' he g hb h2.symm
theorem blk_far {v : Value} {a g : Nat} (hgo : v.ownBlock ≠ some g) (ha : v.ownBlock = some a) : a < g ∨ g + 1 ≤ a := by
  rcases Nat.lt_trichotomy a g with h | h | h
  · exact .inl h
  · subst h; exact absurd ha hgo
  · exact .inr h
theorem lookV_form (l : List EntD) (o : List Int) : ∃ s b, lookV l o = .tuple #[.string s, .bool b] := by
  unfold lookV
  split
  · exact ⟨_, _, rfl⟩
  · exact ⟨_, _, rfl⟩
theorem ints_set2 (zs : List Int) (j : Nat) (x : Int) : (ints zs).set j (.int .i64 x) = ints (zs.set j x) := by simp [ints, List.map_set]
/-- A list of the fewest pieces: its length alone is told. -/
def FewRes (l : List EntD) (zs : List Int) (w : World) (e : Ending) (w' : World) : Prop := ∃ A n c, e = .returned (.tuple #[.slice A n c, .bool (okD l zs)]) ∧ (okD l zs = true → n = fewD l zs) ∧ Below w.heap.size w w'
theorem few_no {l : List EntD} {zs : List Int} {w w' : World} {A : Option Addr} {n c : Nat} (h : okD l zs = false) (hb : Below w.heap.size w w') : FewRes l zs w (.returned (.tuple #[.slice A n c, .bool false])) w' :=
  ⟨A, n, c, by rw [h], (fun h' => by rw [h] at h'; cases h'), hb⟩
theorem cost2_best0 (l : List EntD) (zs : List Int) (r : Nat) : cost2 (bestD l zs r 0) = 101 + cost2 (costAt (costT l zs r) 0) := by
  rw [best_zero]
  simp only [cost2]
  omega
theorem cost2_range {m : Nat} {c : CostD} (h : CostOk m c) (hm : m ≤ 60) : 0 ≤ cost2 c ∧ cost2 c ≤ 6060 := by
  unfold CostOk at h
  unfold cost2
  omega

set_option maxHeartbeats 16000000 in
theorem spec_FewestPieces (A B : Option Addr) (cap cb : Nat) (l : List EntD) (zs : List Int) (w : World) (hr : DictR w w.heap.size A l) (hn : l.length ≤ 1048576) (hs : ShortD l) (hz : Reads w w.heap.size 1 B zs.length (ints zs)) (hzn : zs.length ≤ 1048576) (hcb : zs.length ≤ cb) (hcm : cb ≤ maxLen) :
    Calls Tryz.prog 36 #[.agg #[.slice A l.length cap], .slice B zs.length cb] w (FewRes l zs w) := by
  obtain ⟨W1, hW1⟩ : ∃ W1, W1 = w.alloc (.cells #[.slice A l.length cap] 26) := ⟨_, rfl⟩
  have hb1 : Below w.heap.size w W1 := by rw [hW1]; exact (Below.refl _ _).alloc (Nat.le_refl _) _
  have bP1 : Box W1 w.heap.size 26 (.slice A l.length cap) := by rw [hW1]; exact Box.new w _ _
  have hs1 : W1.heap.size = w.heap.size + 1 := by rw [hW1]; simp
  obtain ⟨wO, hwO⟩ : ∃ wO, wO = W1.alloc (.cells #[] 58) := ⟨_, rfl⟩
  have bO1 : Below W1.heap.size W1 wO := by rw [hwO]; exact (Below.refl _ _).alloc (Nat.le_refl _) _
  have ownO : wO.ownsRow (w.heap.size + 1) 58 3 (.slice (some ⟨w.heap.size + 1, 0, none⟩) 0 0) 0 [] := by rw [hwO, ← hs1]; exact World.ownsRow_made _ _ _ (Nat.le_refl _) (by simp) rfl
  have BO := hb1.trans (bO1.mono hb1.size)
  have bP := bP1.far bO1
  have cP := bP.cell
  have HS := Lib.hid hs
  have HCM := Lib.hid hcm
  unfold maxLen at hcm
  clear hs hs1 bO1 bP1 hb1
  cases hv : dictB l
  · have HV := Lib.hid hv
    have HR := Lib.hid (show okD l zs = false by simp [okD, hv])
    clear hv
    go_enter Tryz.func36, Tryz.ntmps36
    go_upto_region 2 with (fail)
    rw [← hW1, ← hwO]
    clear hW1 hwO
    go_wp2_with fail
    refine (spec_l6Good A cap l _ ((hr.below BO).more BO.size) hn HS.out).mono ?_
    rw [HV.out]
    rintro e w3 ⟨rfl, b3⟩
    go_wp2
    go_ret2
    exact few_no HR.out (BO.trans (b3.mono BO.size))
  have HV := Lib.hid hv
  cases hst : strokesB zs
  · have HT := Lib.hid hst
    have HR := Lib.hid (show okD l zs = false by simp [okD, hst])
    clear hv hst
    go_enter Tryz.func36, Tryz.ntmps36
    go_upto_region 2 with (fail)
    rw [← hW1, ← hwO]
    clear hW1 hwO
    go_wp2_with fail
    refine (spec_l6Good A cap l _ ((hr.below BO).more BO.size) hn HS.out).mono ?_
    rw [HV.out]
    rintro e w3 ⟨rfl, b3⟩
    have B3 := BO.trans (b3.mono BO.size)
    go_wp2_with fail
    refine (spec_l11Strokes B cb zs _ ((hz.below B3).more B3.size) hzn).mono ?_
    rw [HT.out]
    rintro e w4 ⟨rfl, rfl⟩
    go_wp2
    go_ret2
    exact few_no HR.out B3
  have HT := Lib.hid hst
  have HR := Lib.hid (show okD l zs = true by simp [okD, hv, hst])
  have h60 := strokes60 hst
  have h40 := dict_len hv
  have hmk := run_make_rowN (P := Tryz.prog) 27 3 Tryz.underlying27 info_int .i64 .i64 (zs.length + 1) (zs.length + 1) (Nat.le_refl _) (by omega) (by omega)
  have hcast : ((zs.length + 1 : Nat) : Int) = (zs.length : Int) + 1 := by omega
  rw [hcast] at hmk
  clear hv hst hcast
  go_enter Tryz.func36, Tryz.ntmps36
  go_upto_region 2 with (fail)
  rw [← hW1, ← hwO]
  clear hW1 hwO
  go_wp2_with fail
  refine (spec_l6Good A cap l _ ((hr.below BO).more BO.size) hn HS.out).mono ?_
  rw [HV.out]
  rintro e w3 ⟨rfl, b3⟩
  have B3 := BO.trans (b3.mono BO.size)
  have bP3 := bP.far b3
  have own3 := row_below ownO b3
  clear cP
  go_wp2_with fail
  refine (spec_l11Strokes B cb zs _ ((hz.below B3).more B3.size) hzn).mono ?_
  rw [HT.out]
  rintro e w4 ⟨rfl, rfl⟩
  obtain ⟨gc, hgc⟩ : ∃ gc, gc = w3.heap.size := ⟨_, rfl⟩
  have hg0 : w.heap.size + 1 < gc := by have := own3.lt _ (by rfl); omega
  obtain ⟨wC, hwC⟩ : ∃ wC, wC = w3.alloc (.cells (madeCells #[Value.int .i64 0] (zs.length + 1)) 3) := ⟨_, rfl⟩
  have hsC : wC.heap.size = gc + 1 := by rw [hwC, hgc]; simp
  have bC : Below w3.heap.size w3 wC := by rw [hwC]; exact (Below.refl _ _).alloc (Nat.le_refl _) _
  obtain ⟨wM, hwM⟩ : ∃ wM, wM = wC.alloc (.cells (madeCells #[Value.int .i64 0] (zs.length + 1)) 3) := ⟨_, rfl⟩
  have hsM : wM.heap.size = gc + 2 := by rw [hwM]; simp [hsC]
  have bM : Below wC.heap.size wC wM := by rw [hwM]; exact (Below.refl _ _).alloc (Nat.le_refl _) _
  have hrow : ∀ (f : CostD → Int), f (0, 0, 0) = 0 → ints (fewRow f l zs 0) = (madeCells #[Value.int .i64 0] (zs.length + 1)).toList := fun f hf => by rw [toList_madeCells_one, fewRow_zero hf]; simp [ints]
  have ownC : Own wC gc (gc + 1) 3 1 (.slice (some ⟨gc, 0, none⟩) (zs.length + 1) (zs.length + 1)) (zs.length + 1) (ints (fewRow cost2 l zs 0)) := by
    have h := World.ownsRow_lit (base := w3.heap.size) (e := 3) (size := 1) w3 (madeCells #[Value.int .i64 0] (zs.length + 1)) (zs.length + 1) (Nat.le_refl _) (by unfold maxLen; omega) (by simp [madeCells])
    rw [hrow cost2 rfl, hwC, hgc]
    exact ⟨h, fun g hg => by simp [Value.ownBlock] at hg; omega⟩
  have ownT : Own wM (gc + 1) (gc + 2) 3 1 (.slice (some ⟨gc + 1, 0, none⟩) (zs.length + 1) (zs.length + 1)) (zs.length + 1) (ints (fewRow takeF l zs 0)) := by
    have h := World.ownsRow_lit (base := wC.heap.size) (e := 3) (size := 1) wC (madeCells #[Value.int .i64 0] (zs.length + 1)) (zs.length + 1) (Nat.le_refl _) (by unfold maxLen; omega) (by simp [madeCells])
    rw [hrow takeF rfl, hwM, ← hsC]
    exact ⟨h, fun g hg => by simp [Value.ownBlock] at hg; omega⟩
  have ownCM := ownC.below bM
  have bCM := bC.trans (bM.mono bC.size)
  have BM := B3.trans (bCM.mono B3.size)
  have bPM := bP3.far bCM
  have ownOM := row_below own3 bCM
  have HSM := Lib.hid hsM
  have HSC := Lib.hid hsC
  clear hsM hrow ownC bM bC
  go_upto_region 6 with (fail)
  try rw [← hwC]
  rw [← hgc]
  try rw [← hwM]
  clear hwC hgc hwM hmk own3 bP3 b3 B3
  have HG0 := Lib.hid hg0
  go_wp2
  go_loopw [9] (fun i wr => ∃ r : Nat, r ≤ zs.length ∧ i = .int .i64 ((zs.length : Int) - 1 - (r : Int)) ∧ Own wr gc (gc + 1) 3 1 (.slice (some ⟨gc, 0, none⟩) (zs.length + 1) (zs.length + 1)) (zs.length + 1) (ints (fewRow cost2 l zs r)) ∧ Own wr (gc + 1) (gc + 2) 3 1 (.slice (some ⟨gc + 1, 0, none⟩) (zs.length + 1) (zs.length + 1)) (zs.length + 1) (ints (fewRow takeF l zs r)) ∧ Only gc (gc + 2) wM wr) (fun i _ => Int.toNat (intOf i + (1 : Int)))
  case atStart => exact ⟨0, Nat.zero_le _, by go_num, ownCM, ownT, Only.refl _⟩
  case round =>
    obtain ⟨r, hrn, rfl, hC, hT, hO⟩ := hrel
    clear ownCM ownT
    by_cases hlt : r < zs.length
    · obtain ⟨q, hq⟩ : ∃ q, q = zs.length - (r + 1) := ⟨_, rfl⟩
      have hqi : (zs.length : Int) - 1 - (r : Int) = (q : Int) := by omega
      rw [hqi]
      have hql : q < zs.length := by omega
      have i0 : (0 : Int) ≤ (q : Int) := by omega
      have i1 : (q : Int) + 1 < (zs.length : Int) + 1 := by omega
      have i2 : (q : Int) < (zs.length : Int) + 1 := by omega
      have hlc : (fewRow cost2 l zs r).length = zs.length + 1 := fewRow_length hrn
      have hlt' : (fewRow takeF l zs r).length = zs.length + 1 := fewRow_length hrn
      have hn1 := few_next (f := cost2) (l := l) hlt
      have hn2 := few_cell (f := cost2) (l := l) hlt
      have hn3 := few_cell (f := takeF) (l := l) hlt
      have hx := cost2_range (costT_ok l zs r 0 (Nat.zero_le _)) (by omega)
      have hb0 := cost2_best0 l zs r
      obtain ⟨x, hxe⟩ : ∃ x, x = cost2 (costAt (costT l zs r) 0) := ⟨_, rfl⟩
      rw [← hq] at hn1 hn2 hn3
      rw [← hxe] at hn1 hx hb0
      have e1 := (hC.1.cellAt (q + 1) (by omega)).trans (ints_at _ hn1)
      have e2 := (hC.1.cellAt q (by omega)).trans (ints_at _ hn2)
      have e3 := (hT.1.cellAt q (by omega)).trans (ints_at _ hn3)
      have f2 := hC.1.frozenAt q
      have hC1 : Own (wr.setCell ⟨gc, q, none⟩ (.int .i64 (101 + x))) gc (gc + 1) 3 1 (.slice (some ⟨gc, 0, none⟩) (zs.length + 1) (zs.length + 1)) (zs.length + 1) (ints (fewTab cost2 l zs r 0)) := by
        have h := hC.set_ q (.int .i64 (101 + x))
        have e : (fewRow cost2 l zs r).set q (101 + x) = fewTab cost2 l zs r 0 := by rw [hq, ← hb0, few_start hlt]
        rw [ints_set2, e] at h
        exact h
      have oC : Only gc (gc + 1) wr (wr.setCell ⟨gc, q, none⟩ (.int .i64 (101 + x))) := (Only.refl wr).setCell (by show gc ≤ gc; omega) (by show gc < gc + 1; omega) _
      have hT1 := hT.only oC (.inr (Nat.le_refl _))
      have hO1 := hO.trans ((Only.refl wr).setCell (lo := gc) (hi := gc + 2) (p := ⟨gc, q, none⟩) (by show gc ≤ gc; omega) (by show gc < gc + 2; omega) (.int .i64 (101 + x)))
      have HXE := Lib.hid hxe
      have HQ := Lib.hid hq
      clear hn1 hn2 hn3 hlc hlt' hb0 hxe hq hqi hC hT hO
      go_upto_region 10 with (fail)
      generalize hX : wr.setCell ⟨gc, q, none⟩ (.int .i64 (101 + x)) = xr at *
      clear hX e1 e2 f2 oC
      have hn3 := few_cell (f := takeF) (l := l) hlt
      rw [← HQ.out] at hn3
      have e3 := (hT1.1.cellAt q (by omega)).trans (ints_at _ hn3)
      have f3 := hT1.1.frozenAt q
      have hT2 : Own (xr.setCell ⟨gc + 1, q, none⟩ (.int .i64 0)) (gc + 1) (gc + 2) 3 1 (.slice (some ⟨gc + 1, 0, none⟩) (zs.length + 1) (zs.length + 1)) (zs.length + 1) (ints (fewTab takeF l zs r 0)) := by
        have h := hT1.set_ q (.int .i64 0)
        have e : (fewRow takeF l zs r).set q 0 = fewTab takeF l zs r 0 := by rw [HQ.out]; exact few_start hlt
        rw [ints_set2, e] at h
        exact h
      have oT : Only (gc + 1) (gc + 2) xr (xr.setCell ⟨gc + 1, q, none⟩ (.int .i64 0)) := (Only.refl xr).setCell (by show gc + 1 ≤ gc + 1; omega) (by show gc + 1 < gc + 2; omega) _
      have hC2 := hC1.only oT (.inl (Nat.le_refl _))
      have hO2 := hO1.trans ((Only.refl xr).setCell (lo := gc) (hi := gc + 2) (p := ⟨gc + 1, q, none⟩) (by show gc ≤ gc + 1; omega) (by show gc + 1 < gc + 2; omega) (.int .i64 0))
      clear hn3 hC1 hT1 hO1
      go_upto_region 11 with (fail)
      generalize hX : xr.setCell ⟨gc + 1, q, none⟩ (.int .i64 0) = yr at *
      clear hX e3 f3 oT
      go_wp2
      go_loopw [10] (fun j wr => ∃ n : Nat, 1 ≤ n ∧ n ≤ min 6 (r + 1) + 1 ∧ j = .int .i64 n ∧ Own wr gc (gc + 1) 3 1 (.slice (some ⟨gc, 0, none⟩) (zs.length + 1) (zs.length + 1)) (zs.length + 1) (ints (fewTab cost2 l zs r (n - 1))) ∧ Own wr (gc + 1) (gc + 2) 3 1 (.slice (some ⟨gc + 1, 0, none⟩) (zs.length + 1) (zs.length + 1)) (zs.length + 1) (ints (fewTab takeF l zs r (n - 1))) ∧ Only gc (gc + 2) wM wr) (fun j _ => 8 - (intOf j).toNat)
      case atStart => exact ⟨1, Nat.le_refl _, by omega, rfl, hC2, hT2, hO2⟩
      case round =>
        obtain ⟨n, hn1, hn7, rfl, hC, hT, hO⟩ := hrel
        clear hC2 hT2 hO2
        have hb : Below w.heap.size w wr := BM.trans (hO.below (by have := HG0.out; omega) BM.size)
        have bP := bPM.only hO (.inl (by have := HG0.out; omega))
        have cP := bP.cell
        have hsw : gc + 2 ≤ wr.heap.size := by have := hO.size; have := HSM.out; omega
        by_cases hle : n ≤ min 6 (r + 1)
        · obtain ⟨bz, oz, hBe, hz0, hzc⟩ := (hz.below hb).2 (by omega)
          have hqn : q + n ≤ zs.length := by have := HQ.out; omega
          have hpl := part_length hqn
          subst hBe
          have HB := Lib.hid (show ∀ W, Below wr.heap.size wr W → Calls Tryz.prog 59 #[.agg #[.slice A l.length cap], .slice (some ⟨bz, oz + q, none⟩) n (cb - q)] W fun e w' => e = .returned (lookV l (part zs q n)) ∧ Below W.heap.size W w' from fun W hW => by
            have h := spec_l6Find A (some ⟨bz, oz + q, none⟩) cap (cb - q) l (part zs q n) W (((((hr.below hb).more hb.size)).below hW).more hW.size) HV.out (((((hz.below hb).part hqn).more hb.size).below hW).more hW.size)
            rw [hpl] at h
            exact h)
          have hp1 : (⟨w.heap.size, 0, none⟩ : Addr).block < wr.heap.size := bP.lt
          have x1 : IntKind.i64.wrap ((q : Int) + (n : Int)) = (q : Int) + (n : Int) := IntWalk.i64_in _ (by omega)
          have x2 : (0 : Int) ≤ (q : Int) + (n : Int) := by omega
          have x3 : ((q : Int) + (n : Int)).toNat = q + n := by omega
          have x4 : (q : Int) + (n : Int) ≤ (zs.length : Int) := by omega
          have x4' : (q : Int) + (n : Int) < (zs.length : Int) + 1 := by omega
          have x6 : q + n ≤ cb := by omega
          have x7 : q ≤ q + n := by omega
          have x8 : ¬ cb = q := by omega
          have x9 : q + n - q = n := by omega
          have xa : (n : Int) ≤ 6 := by omega
          have xb : (q : Int) ≤ (q : Int) + (n : Int) := by omega
          have xc : (q : Int) + (n : Int) ≤ (cb : Int) := by omega
          have hlc : (fewTab cost2 l zs r (n - 1)).length = zs.length + 1 := fewTab_length hlt
          have hlt' : (fewTab takeF l zs r (n - 1)).length = zs.length + 1 := fewTab_length hlt
          have hco := costT_ok l zs r (n - 1) (by omega)
          have hbo := best_ok l zs r (n - 1) (by omega) (by omega)
          have hxr := cost2_range hco (by omega)
          have hyr := cost2_range hbo (by omega)
          have hc1 := few_there (f := cost2) (l := l) (zs := zs) (r := r) (k := n - 1) (m := n) (by omega) (by omega)
          have hc2 := few_here (f := cost2) (l := l) (zs := zs) (r := r) (k := n - 1)
          rw [← HQ.out] at hc1 hc2
          obtain ⟨c, hce⟩ : ∃ c, c = costAt (costT l zs r) (n - 1) := ⟨_, rfl⟩
          obtain ⟨bd, hbd⟩ : ∃ bd, bd = bestD l zs r (n - 1) := ⟨_, rfl⟩
          rw [← hce] at hc1 hxr hco
          rw [← hbd] at hc2 hyr hbo
          have HBT := Lib.hid (show decide (cost2 (c.1, c.2.1 + 1, n) ≤ cost2 bd) = better (c.1, c.2.1 + 1, n) bd from better_cost2 (by unfold CostOk at hco; show c.2.1 + 1 ≤ 60; omega) (by unfold CostOk at hbo; omega))
          have HC1 := Lib.hid (show cost2 (c.1, c.2.1 + 1, n) = 1 + cost2 c by simp only [cost2]; omega)
          have HBY := Lib.hid (fun t (ht : lookD l (part zs q n) = some t) (hbt : better (c.1, c.2.1 + 1, n) bd = true) => show bestD l zs r n = (c.1, c.2.1 + 1, n) by
            have e : n - 1 + 1 = n := by omega
            have h := best_yes (l := l) (zs := zs) (r := r) (k := n - 1) (t := t) (by rw [e, ← HQ.out]; exact ht) (by rw [e, ← hce, ← hbd]; exact hbt)
            rw [e, ← hce] at h
            exact h)
          have HBN := Lib.hid (fun (ht : lookD l (part zs q n) = none) => show bestD l zs r n = bestD l zs r (n - 1) by
            have e : n - 1 + 1 = n := by omega
            have h := best_none (l := l) (zs := zs) (r := r) (k := n - 1) (by rw [e, ← HQ.out]; exact ht)
            rwa [e] at h)
          have HBW := Lib.hid (fun (hbt : better (c.1, c.2.1 + 1, n) bd = false) => show bestD l zs r n = bestD l zs r (n - 1) by
            have e : n - 1 + 1 = n := by omega
            have h := best_worse (l := l) (zs := zs) (r := r) (k := n - 1) (by rw [e, ← hce, ← hbd]; exact hbt)
            rwa [e] at h)
          obtain ⟨x, hxe⟩ : ∃ x, x = cost2 c := ⟨_, rfl⟩
          obtain ⟨y, hye⟩ : ∃ y, y = cost2 bd := ⟨_, rfl⟩
          rw [← hxe] at hc1 hxr HC1
          rw [← hye] at hc2 hyr HBT
          have e1 := (hC.1.cellAt (q + n) (by omega)).trans (ints_at _ hc1)
          have e2 := (hC.1.cellAt q (by omega)).trans (ints_at _ hc2)
          have hp2 : (⟨gc, q + n, none⟩ : Addr).block < wr.heap.size := by show gc < _; omega
          have y1 : IntKind.i64.wrap (1 + x) = 1 + x := IntWalk.i64_in _ (by omega)
          clear hpl hc1 hc2 hlc hlt' hce hbd hxe hye hco hbo hzc
          cases hl : lookD l (part zs q n) with
          | none =>
            have HN := Lib.hid (HBN.out hl)
            have HL := Lib.hid (lookV_none hl)
            clear hl
            go_wp2
            have S0 : wr.cell? ⟨w.heap.size, 0, none⟩ = some (.slice A l.length cap) ∧ Below wr.heap.size wr wr := ⟨by assumption, Below.refl _ _⟩
            first | refine wp_region_noPanic ?_ | skip
            refine wp_region_held_drew (S := fun w' => w'.cell? ⟨w.heap.size, 0, none⟩ = some (.slice A l.length cap) ∧ Below wr.heap.size wr w') (by kernel_rfl) (by first | exact S0 | exact held1_drew S0 | assumption | exact held1_step hp1 S0 (by assumption) | exact held1_step hp1 (by assumption) (by assumption) | exact held1_drew (by assumption)) (fun hHeld => ?_)
            (refine wpAnyH_take (i := 0) (v := ?_) rfl (by kernel_rfl) (by kernel_rfl) (by kernel_rfl) (fun _ _ _ h => h) (Or.inl ⟨by rfl, ?_⟩) (by assumption) ?_; rotate_left; focus (intro w hSw; (try dsimp only at hSw); go_simp; try with_reducible rfl))
            (try simp only [List.getElem_toArray, List.getElem_cons_succ, List.getElem_cons_zero, Act.put, List.setIfInBounds_toArray, List.set_cons_zero, List.set_cons_succ])
            (refine wpAnyH_take (i := 1) (v := ?_) rfl (by kernel_rfl) (by kernel_rfl) (by kernel_rfl) (fun _ _ _ h => h) (Or.inl ⟨by rfl, ?_⟩) (by assumption) ?_; rotate_left; focus (intro w hSw; (try dsimp only at hSw); go_simp; try with_reducible rfl))
            (try simp only [List.getElem_toArray, List.getElem_cons_succ, List.getElem_cons_zero, Act.put, List.setIfInBounds_toArray, List.set_cons_zero, List.set_cons_succ])
            (refine wpAnyH_take (i := 2) (v := ?_) rfl (by kernel_rfl) (by kernel_rfl) (by kernel_rfl) (fun _ _ _ h => h) (Or.inl ⟨by rfl, ?_⟩) (by assumption) ?_; rotate_left; focus (intro w hSw; (try dsimp only at hSw); go_simp; try with_reducible rfl))
            (try simp only [List.getElem_toArray, List.getElem_cons_succ, List.getElem_cons_zero, Act.put, List.setIfInBounds_toArray, List.set_cons_zero, List.set_cons_succ])
            (refine wpAnyH_take (i := 3) (v := ?_) rfl (by kernel_rfl) (by kernel_rfl) (by kernel_rfl) (fun _ _ _ h => h) (Or.inl ⟨by rfl, ?_⟩) (by assumption) ?_; rotate_left; focus (intro w hSw; (try dsimp only at hSw); go_simp; try with_reducible rfl))
            (try simp only [List.getElem_toArray, List.getElem_cons_succ, List.getElem_cons_zero, Act.put, List.setIfInBounds_toArray, List.set_cons_zero, List.set_cons_succ])
            (refine wpAnyH_take (i := 4) (v := ?_) rfl (by kernel_rfl) (by kernel_rfl) (by kernel_rfl) (fun _ _ _ h => h) (Or.inl ⟨by rfl, ?_⟩) (by assumption) ?_; rotate_left; focus (intro w hSw; (try dsimp only at hSw); go_simp; try with_reducible rfl))
            (try simp only [List.getElem_toArray, List.getElem_cons_succ, List.getElem_cons_zero, Act.put, List.setIfInBounds_toArray, List.set_cons_zero, List.set_cons_succ])
            (refine wpAnyH_take (i := 5) (v := ?_) rfl (by kernel_rfl) (by kernel_rfl) (by kernel_rfl) (fun _ _ _ h => h) (Or.inl ⟨by rfl, ?_⟩) (by assumption) ?_; rotate_left; focus (intro w hSw; (try dsimp only at hSw); go_simp; try with_reducible rfl))
            (try simp only [List.getElem_toArray, List.getElem_cons_succ, List.getElem_cons_zero, Act.put, List.setIfInBounds_toArray, List.set_cons_zero, List.set_cons_succ])
            (refine wpAnyH_take (i := 6) (v := ?_) rfl (by kernel_rfl) (by kernel_rfl) (by kernel_rfl) (fun _ _ _ h => h) (Or.inl ⟨by rfl, ?_⟩) (by assumption) ?_; rotate_left; focus (intro w hSw; (try dsimp only at hSw); go_simp; try with_reducible rfl))
            (try simp only [List.getElem_toArray, List.getElem_cons_succ, List.getElem_cons_zero, Act.put, List.setIfInBounds_toArray, List.set_cons_zero, List.set_cons_succ])
            refine wpAnyH_ready (rs := [7]) (by kernel_rfl) (by simp) ?_
            refine AllReadyH.cons rfl (fun K hK => ?_) AllReadyH.nil
            go_simp
            refine (HB.out _ (held1_below (by assumption))).mono ?_; rw [HL.out]; rintro e w9 ⟨rfl, b9⟩; go_wp2_with fail
            refine hK.out _ _ (by first | exact S0 | exact held1_drew S0 | assumption | exact held1_step hp1 S0 (by assumption) | exact held1_step hp1 (by assumption) (by assumption) | exact held1_drew (by assumption)) (fun hHeld => ?_)
            clear hK K
            (try simp only [List.getElem_toArray, List.getElem_cons_succ, List.getElem_cons_zero, Act.put, List.setIfInBounds_toArray, List.set_cons_zero, List.set_cons_succ])
            (refine wpAnyH_take (i := 8) (v := ?_) rfl (by kernel_rfl) (by kernel_rfl) (by kernel_rfl) (fun _ _ _ h => h) (Or.inl ⟨by rfl, ?_⟩) (by assumption) ?_; rotate_left; focus (intro w hSw; (try dsimp only at hSw); go_simp; try with_reducible rfl))
            (try simp only [List.getElem_toArray, List.getElem_cons_succ, List.getElem_cons_zero, Act.put, List.setIfInBounds_toArray, List.set_cons_zero, List.set_cons_succ])
            (refine wpAnyH_take (i := 9) (v := ?_) rfl (by kernel_rfl) (by kernel_rfl) (by kernel_rfl) (fun _ _ _ h => h) (Or.inl ⟨by rfl, ?_⟩) (by assumption) ?_; rotate_left; focus (intro w hSw; (try dsimp only at hSw); go_simp; try with_reducible rfl))
            (try simp only [List.getElem_toArray, List.getElem_cons_succ, List.getElem_cons_zero, Act.put, List.setIfInBounds_toArray, List.set_cons_zero, List.set_cons_succ])
            (refine wpAnyH_take (i := 10) (v := ?_) rfl (by kernel_rfl) (by kernel_rfl) (by kernel_rfl) (fun _ _ _ h => h) (Or.inl ⟨by rfl, ?_⟩) (by assumption) ?_; rotate_left; focus (intro w hSw; (try dsimp only at hSw); go_simp; try with_reducible rfl))
            (try simp only [List.getElem_toArray, List.getElem_cons_succ, List.getElem_cons_zero, Act.put, List.setIfInBounds_toArray, List.set_cons_zero, List.set_cons_succ])
            (refine wpAnyH_take (i := 11) (v := ?_) rfl (by kernel_rfl) (by kernel_rfl) (by kernel_rfl) (fun _ _ _ h => h) (Or.inl ⟨by rfl, ?_⟩) (by assumption) ?_; rotate_left; focus (intro w hSw; (try dsimp only at hSw); go_simp; try with_reducible rfl))
            (try simp only [List.getElem_toArray, List.getElem_cons_succ, List.getElem_cons_zero, Act.put, List.setIfInBounds_toArray, List.set_cons_zero, List.set_cons_succ])
            (refine wpAnyH_take (i := 12) (v := ?_) rfl (by kernel_rfl) (by kernel_rfl) (by kernel_rfl) (fun _ _ _ h => h) (Or.inl ⟨by rfl, ?_⟩) (by assumption) ?_; rotate_left; focus (intro w hSw; (try dsimp only at hSw); go_simp; try with_reducible rfl))
            (try simp only [List.getElem_toArray, List.getElem_cons_succ, List.getElem_cons_zero, Act.put, List.setIfInBounds_toArray, List.set_cons_zero, List.set_cons_succ])
            refine wpAnyH_done (by kernel_rfl) ?_ _
            first | refine NoPanic.normal ?_ | skip
            have SZ : w9.cell? ⟨w.heap.size, 0, none⟩ = some (.slice A l.length cap) ∧ Below wr.heap.size wr w9 := by assumption
            have b9' := held1_below SZ
            have hC9 := hC.below b9'
            have hT9 := hT.below b9'
            have hO9 := hO.trans (Only.of_below b9')
            have g1 := (b9'.cell (p := ⟨gc, q + n, none⟩) hp2).trans e1
            have g2 := (b9'.cell (p := ⟨gc, q, none⟩) (by show gc < _; omega)).trans e2
            have hp3 : (⟨gc, q + n, none⟩ : Addr).block < w9.heap.size := by have := b9'.size; show gc < _; omega
            have hp4 : (⟨gc, q, none⟩ : Addr).block < w9.heap.size := by have := b9'.size; show gc < _; omega
            clear S0 SZ hHeld x1 cP e1 e2
            go_wp2
            have S0 : w9.cell? ⟨gc, q + n, none⟩ = some (.int .i64 x) ∧ w9.cell? ⟨gc, q, none⟩ = some (.int .i64 y) ∧ Below w9.heap.size w9 w9 := ⟨by assumption, by assumption, Below.refl _ _⟩
            first | refine wp_region_noPanic ?_ | skip
            refine wp_region_held_drew (S := fun w' => w'.cell? ⟨gc, q + n, none⟩ = some (.int .i64 x) ∧ w'.cell? ⟨gc, q, none⟩ = some (.int .i64 y) ∧ Below w9.heap.size w9 w') (by kernel_rfl) (by first | exact S0 | exact held2_drew S0 | assumption | exact held2_step hp3 hp4 S0 (by assumption) | exact held2_step hp3 hp4 (by assumption) (by assumption) | exact held2_drew (by assumption)) (fun hHeld => ?_)
            (refine wpAnyH_take (i := 0) (v := ?_) rfl (by kernel_rfl) (by kernel_rfl) (by kernel_rfl) (fun _ _ _ h => h) (Or.inl ⟨by rfl, ?_⟩) (by assumption) ?_; rotate_left; focus (intro w hSw; (try dsimp only at hSw); go_simp; try with_reducible rfl))
            (try simp only [List.getElem_toArray, List.getElem_cons_succ, List.getElem_cons_zero, Act.put, List.setIfInBounds_toArray, List.set_cons_zero, List.set_cons_succ])
            (refine wpAnyH_take (i := 1) (v := ?_) rfl (by kernel_rfl) (by kernel_rfl) (by kernel_rfl) (fun _ _ _ h => h) (Or.inl ⟨by rfl, ?_⟩) (by assumption) ?_; rotate_left; focus (intro w hSw; (try dsimp only at hSw); go_simp; try with_reducible rfl))
            (try simp only [List.getElem_toArray, List.getElem_cons_succ, List.getElem_cons_zero, Act.put, List.setIfInBounds_toArray, List.set_cons_zero, List.set_cons_succ])
            refine wpAnyH_take (i := 2) rfl (by kernel_rfl) (by kernel_rfl) (by kernel_rfl) (fun _ _ _ h => h) (Or.inr ⟨by kernel_rfl, rfl⟩) (by assumption) ?_
            (try simp only [List.getElem_toArray, List.getElem_cons_succ, List.getElem_cons_zero, Act.put, List.setIfInBounds_toArray, List.set_cons_zero, List.set_cons_succ])
            refine wpAnyH_take (i := 3) rfl (by kernel_rfl) (by kernel_rfl) (by kernel_rfl) (fun _ _ _ h => h) (Or.inr ⟨by kernel_rfl, rfl⟩) (by assumption) ?_
            (try simp only [List.getElem_toArray, List.getElem_cons_succ, List.getElem_cons_zero, Act.put, List.setIfInBounds_toArray, List.set_cons_zero, List.set_cons_succ])
            refine wpAnyH_take (i := 4) rfl (by kernel_rfl) (by kernel_rfl) (by kernel_rfl) (fun _ _ _ h => h) (Or.inr ⟨by kernel_rfl, rfl⟩) (by assumption) ?_
            (try simp only [List.getElem_toArray, List.getElem_cons_succ, List.getElem_cons_zero, Act.put, List.setIfInBounds_toArray, List.set_cons_zero, List.set_cons_succ])
            refine wpAnyH_take (i := 5) rfl (by kernel_rfl) (by kernel_rfl) (by kernel_rfl) (fun _ _ _ h => h) (Or.inr ⟨by kernel_rfl, rfl⟩) (by assumption) ?_
            (try simp only [List.getElem_toArray, List.getElem_cons_succ, List.getElem_cons_zero, Act.put, List.setIfInBounds_toArray, List.set_cons_zero, List.set_cons_succ])
            refine wpAnyH_take (i := 6) rfl (by kernel_rfl) (by kernel_rfl) (by kernel_rfl) (fun _ _ _ h => h) (Or.inr ⟨by kernel_rfl, rfl⟩) (by assumption) ?_
            (try simp only [List.getElem_toArray, List.getElem_cons_succ, List.getElem_cons_zero, Act.put, List.setIfInBounds_toArray, List.set_cons_zero, List.set_cons_succ])
            refine wpAnyH_take (i := 7) rfl (by kernel_rfl) (by kernel_rfl) (by kernel_rfl) (fun _ _ _ h => h) (Or.inr ⟨by kernel_rfl, rfl⟩) (by assumption) ?_
            (try simp only [List.getElem_toArray, List.getElem_cons_succ, List.getElem_cons_zero, Act.put, List.setIfInBounds_toArray, List.set_cons_zero, List.set_cons_succ])
            refine wpAnyH_take (i := 8) rfl (by kernel_rfl) (by kernel_rfl) (by kernel_rfl) (fun _ _ _ h => h) (Or.inr ⟨by kernel_rfl, rfl⟩) (by assumption) ?_
            (try simp only [List.getElem_toArray, List.getElem_cons_succ, List.getElem_cons_zero, Act.put, List.setIfInBounds_toArray, List.set_cons_zero, List.set_cons_succ])
            refine wpAnyH_take (i := 9) rfl (by kernel_rfl) (by kernel_rfl) (by kernel_rfl) (fun _ _ _ h => h) (Or.inr ⟨by kernel_rfl, rfl⟩) (by assumption) ?_
            (try simp only [List.getElem_toArray, List.getElem_cons_succ, List.getElem_cons_zero, Act.put, List.setIfInBounds_toArray, List.set_cons_zero, List.set_cons_succ])
            refine wpAnyH_take (i := 10) rfl (by kernel_rfl) (by kernel_rfl) (by kernel_rfl) (fun _ _ _ h => h) (Or.inr ⟨by kernel_rfl, rfl⟩) (by assumption) ?_
            (try simp only [List.getElem_toArray, List.getElem_cons_succ, List.getElem_cons_zero, Act.put, List.setIfInBounds_toArray, List.set_cons_zero, List.set_cons_succ])
            refine wpAnyH_take (i := 11) rfl (by kernel_rfl) (by kernel_rfl) (by kernel_rfl) (fun _ _ _ h => h) (Or.inr ⟨by kernel_rfl, rfl⟩) (by assumption) ?_
            (try simp only [List.getElem_toArray, List.getElem_cons_succ, List.getElem_cons_zero, Act.put, List.setIfInBounds_toArray, List.set_cons_zero, List.set_cons_succ])
            refine wpAnyH_take (i := 12) rfl (by kernel_rfl) (by kernel_rfl) (by kernel_rfl) (fun _ _ _ h => h) (Or.inr ⟨by kernel_rfl, rfl⟩) (by assumption) ?_
            (try simp only [List.getElem_toArray, List.getElem_cons_succ, List.getElem_cons_zero, Act.put, List.setIfInBounds_toArray, List.set_cons_zero, List.set_cons_succ])
            refine wpAnyH_take (i := 13) rfl (by kernel_rfl) (by kernel_rfl) (by kernel_rfl) (fun _ _ _ h => h) (Or.inr ⟨by kernel_rfl, rfl⟩) (by assumption) ?_
            (try simp only [List.getElem_toArray, List.getElem_cons_succ, List.getElem_cons_zero, Act.put, List.setIfInBounds_toArray, List.set_cons_zero, List.set_cons_succ])
            (refine wpAnyH_take (i := 14) (v := ?_) rfl (by kernel_rfl) (by kernel_rfl) (by kernel_rfl) (fun _ _ _ h => h) (Or.inl ⟨by rfl, ?_⟩) (by assumption) ?_; rotate_left; focus (intro w hSw; (try dsimp only at hSw); go_simp; try with_reducible rfl))
            (try simp only [List.getElem_toArray, List.getElem_cons_succ, List.getElem_cons_zero, Act.put, List.setIfInBounds_toArray, List.set_cons_zero, List.set_cons_succ])
            refine wpAnyH_done (by kernel_rfl) ?_ _
            first | refine NoPanic.normal ?_ | skip
            clear S0 hHeld y1
            go_wp2
            go_roundw
            case rel => exact ⟨n + 1, by omega, by omega, by go_num, by rw [Nat.add_sub_cancel, few_keep HN.out]; exact hC9, by rw [Nat.add_sub_cancel, few_keep HN.out]; exact hT9, hO9.drew⟩
            case measure => simp [intOf]; omega
          | some t =>
            have HL := Lib.hid (lookV_some hl)
            by_cases hxy : 1 + x ≤ y
            · have HN := Lib.hid (HBY.out t hl (by rw [← HBT.out, HC1.out]; exact decide_eq_true hxy))
              clear hl
              go_wp2
              have S0 : wr.cell? ⟨w.heap.size, 0, none⟩ = some (.slice A l.length cap) ∧ Below wr.heap.size wr wr := ⟨by assumption, Below.refl _ _⟩
              first | refine wp_region_noPanic ?_ | skip
              refine wp_region_held_drew (S := fun w' => w'.cell? ⟨w.heap.size, 0, none⟩ = some (.slice A l.length cap) ∧ Below wr.heap.size wr w') (by kernel_rfl) (by first | exact S0 | exact held1_drew S0 | assumption | exact held1_step hp1 S0 (by assumption) | exact held1_step hp1 (by assumption) (by assumption) | exact held1_drew (by assumption)) (fun hHeld => ?_)
              (refine wpAnyH_take (i := 0) (v := ?_) rfl (by kernel_rfl) (by kernel_rfl) (by kernel_rfl) (fun _ _ _ h => h) (Or.inl ⟨by rfl, ?_⟩) (by assumption) ?_; rotate_left; focus (intro w hSw; (try dsimp only at hSw); go_simp; try with_reducible rfl))
              (try simp only [List.getElem_toArray, List.getElem_cons_succ, List.getElem_cons_zero, Act.put, List.setIfInBounds_toArray, List.set_cons_zero, List.set_cons_succ])
              (refine wpAnyH_take (i := 1) (v := ?_) rfl (by kernel_rfl) (by kernel_rfl) (by kernel_rfl) (fun _ _ _ h => h) (Or.inl ⟨by rfl, ?_⟩) (by assumption) ?_; rotate_left; focus (intro w hSw; (try dsimp only at hSw); go_simp; try with_reducible rfl))
              (try simp only [List.getElem_toArray, List.getElem_cons_succ, List.getElem_cons_zero, Act.put, List.setIfInBounds_toArray, List.set_cons_zero, List.set_cons_succ])
              (refine wpAnyH_take (i := 2) (v := ?_) rfl (by kernel_rfl) (by kernel_rfl) (by kernel_rfl) (fun _ _ _ h => h) (Or.inl ⟨by rfl, ?_⟩) (by assumption) ?_; rotate_left; focus (intro w hSw; (try dsimp only at hSw); go_simp; try with_reducible rfl))
              (try simp only [List.getElem_toArray, List.getElem_cons_succ, List.getElem_cons_zero, Act.put, List.setIfInBounds_toArray, List.set_cons_zero, List.set_cons_succ])
              (refine wpAnyH_take (i := 3) (v := ?_) rfl (by kernel_rfl) (by kernel_rfl) (by kernel_rfl) (fun _ _ _ h => h) (Or.inl ⟨by rfl, ?_⟩) (by assumption) ?_; rotate_left; focus (intro w hSw; (try dsimp only at hSw); go_simp; try with_reducible rfl))
              (try simp only [List.getElem_toArray, List.getElem_cons_succ, List.getElem_cons_zero, Act.put, List.setIfInBounds_toArray, List.set_cons_zero, List.set_cons_succ])
              (refine wpAnyH_take (i := 4) (v := ?_) rfl (by kernel_rfl) (by kernel_rfl) (by kernel_rfl) (fun _ _ _ h => h) (Or.inl ⟨by rfl, ?_⟩) (by assumption) ?_; rotate_left; focus (intro w hSw; (try dsimp only at hSw); go_simp; try with_reducible rfl))
              (try simp only [List.getElem_toArray, List.getElem_cons_succ, List.getElem_cons_zero, Act.put, List.setIfInBounds_toArray, List.set_cons_zero, List.set_cons_succ])
              (refine wpAnyH_take (i := 5) (v := ?_) rfl (by kernel_rfl) (by kernel_rfl) (by kernel_rfl) (fun _ _ _ h => h) (Or.inl ⟨by rfl, ?_⟩) (by assumption) ?_; rotate_left; focus (intro w hSw; (try dsimp only at hSw); go_simp; try with_reducible rfl))
              (try simp only [List.getElem_toArray, List.getElem_cons_succ, List.getElem_cons_zero, Act.put, List.setIfInBounds_toArray, List.set_cons_zero, List.set_cons_succ])
              (refine wpAnyH_take (i := 6) (v := ?_) rfl (by kernel_rfl) (by kernel_rfl) (by kernel_rfl) (fun _ _ _ h => h) (Or.inl ⟨by rfl, ?_⟩) (by assumption) ?_; rotate_left; focus (intro w hSw; (try dsimp only at hSw); go_simp; try with_reducible rfl))
              (try simp only [List.getElem_toArray, List.getElem_cons_succ, List.getElem_cons_zero, Act.put, List.setIfInBounds_toArray, List.set_cons_zero, List.set_cons_succ])
              refine wpAnyH_ready (rs := [7]) (by kernel_rfl) (by simp) ?_
              refine AllReadyH.cons rfl (fun K hK => ?_) AllReadyH.nil
              go_simp
              refine (HB.out _ (held1_below (by assumption))).mono ?_; rw [HL.out]; rintro e w9 ⟨rfl, b9⟩; go_wp2_with fail
              refine hK.out _ _ (by first | exact S0 | exact held1_drew S0 | assumption | exact held1_step hp1 S0 (by assumption) | exact held1_step hp1 (by assumption) (by assumption) | exact held1_drew (by assumption)) (fun hHeld => ?_)
              clear hK K
              (try simp only [List.getElem_toArray, List.getElem_cons_succ, List.getElem_cons_zero, Act.put, List.setIfInBounds_toArray, List.set_cons_zero, List.set_cons_succ])
              (refine wpAnyH_take (i := 8) (v := ?_) rfl (by kernel_rfl) (by kernel_rfl) (by kernel_rfl) (fun _ _ _ h => h) (Or.inl ⟨by rfl, ?_⟩) (by assumption) ?_; rotate_left; focus (intro w hSw; (try dsimp only at hSw); go_simp; try with_reducible rfl))
              (try simp only [List.getElem_toArray, List.getElem_cons_succ, List.getElem_cons_zero, Act.put, List.setIfInBounds_toArray, List.set_cons_zero, List.set_cons_succ])
              (refine wpAnyH_take (i := 9) (v := ?_) rfl (by kernel_rfl) (by kernel_rfl) (by kernel_rfl) (fun _ _ _ h => h) (Or.inl ⟨by rfl, ?_⟩) (by assumption) ?_; rotate_left; focus (intro w hSw; (try dsimp only at hSw); go_simp; try with_reducible rfl))
              (try simp only [List.getElem_toArray, List.getElem_cons_succ, List.getElem_cons_zero, Act.put, List.setIfInBounds_toArray, List.set_cons_zero, List.set_cons_succ])
              (refine wpAnyH_take (i := 10) (v := ?_) rfl (by kernel_rfl) (by kernel_rfl) (by kernel_rfl) (fun _ _ _ h => h) (Or.inl ⟨by rfl, ?_⟩) (by assumption) ?_; rotate_left; focus (intro w hSw; (try dsimp only at hSw); go_simp; try with_reducible rfl))
              (try simp only [List.getElem_toArray, List.getElem_cons_succ, List.getElem_cons_zero, Act.put, List.setIfInBounds_toArray, List.set_cons_zero, List.set_cons_succ])
              (refine wpAnyH_take (i := 11) (v := ?_) rfl (by kernel_rfl) (by kernel_rfl) (by kernel_rfl) (fun _ _ _ h => h) (Or.inl ⟨by rfl, ?_⟩) (by assumption) ?_; rotate_left; focus (intro w hSw; (try dsimp only at hSw); go_simp; try with_reducible rfl))
              (try simp only [List.getElem_toArray, List.getElem_cons_succ, List.getElem_cons_zero, Act.put, List.setIfInBounds_toArray, List.set_cons_zero, List.set_cons_succ])
              (refine wpAnyH_take (i := 12) (v := ?_) rfl (by kernel_rfl) (by kernel_rfl) (by kernel_rfl) (fun _ _ _ h => h) (Or.inl ⟨by rfl, ?_⟩) (by assumption) ?_; rotate_left; focus (intro w hSw; (try dsimp only at hSw); go_simp; try with_reducible rfl))
              (try simp only [List.getElem_toArray, List.getElem_cons_succ, List.getElem_cons_zero, Act.put, List.setIfInBounds_toArray, List.set_cons_zero, List.set_cons_succ])
              refine wpAnyH_done (by kernel_rfl) ?_ _
              first | refine NoPanic.normal ?_ | skip
              have SZ : w9.cell? ⟨w.heap.size, 0, none⟩ = some (.slice A l.length cap) ∧ Below wr.heap.size wr w9 := by assumption
              have b9' := held1_below SZ
              have hC9 := hC.below b9'
              have hT9 := hT.below b9'
              have hO9 := hO.trans (Only.of_below b9')
              have g1 := (b9'.cell (p := ⟨gc, q + n, none⟩) hp2).trans e1
              have g2 := (b9'.cell (p := ⟨gc, q, none⟩) (by show gc < _; omega)).trans e2
              have hp3 : (⟨gc, q + n, none⟩ : Addr).block < w9.heap.size := by have := b9'.size; show gc < _; omega
              have hp4 : (⟨gc, q, none⟩ : Addr).block < w9.heap.size := by have := b9'.size; show gc < _; omega
              clear S0 SZ hHeld cP e1 e2
              obtain ⟨wy, hwy⟩ : ∃ wy, wy = w9.drew := ⟨_, rfl⟩
              have by9 : Below w9.heap.size w9 wy := by rw [hwy]; exact (Below.refl _ _).drew
              have hCY := hC9.below by9
              have hTY := hT9.below by9
              have hOY := hO9.trans (Only.of_below by9)
              have k1 := (by9.cell (p := ⟨gc, q + n, none⟩) hp3).trans g1
              have k2 := (by9.cell (p := ⟨gc, q, none⟩) hp4).trans g2
              have kf := hCY.1.frozenAt q
              have hCZ : Own (wy.setCell ⟨gc, q, none⟩ (.int .i64 (1 + x))) gc (gc + 1) 3 1 (.slice (some ⟨gc, 0, none⟩) (zs.length + 1) (zs.length + 1)) (zs.length + 1) (ints (fewTab cost2 l zs r n)) := by
                have h := hCY.set_ q (.int .i64 (1 + x))
                have e := few_set (f := cost2) (l := l) (zs := zs) (r := r) (k := n - 1) n
                rw [HN.out, HC1.out, ← HQ.out] at e
                rw [ints_set2, e] at h
                exact h
              have oC : Only gc (gc + 1) wy (wy.setCell ⟨gc, q, none⟩ (.int .i64 (1 + x))) := (Only.refl wy).setCell (by show gc ≤ gc; omega) (by show gc < gc + 1; omega) _
              have hTZ := hTY.only oC (.inr (Nat.le_refl _))
              have hOZ := hOY.trans ((Only.refl wy).setCell (lo := gc) (hi := gc + 2) (p := ⟨gc, q, none⟩) (by show gc ≤ gc; omega) (by show gc < gc + 2; omega) (.int .i64 (1 + x)))
              have HWY := Lib.hid hwy
              clear hwy hC9 hT9 hO9 hCY hTY hOY
              go_wp2
              have S0 : w9.cell? ⟨gc, q + n, none⟩ = some (.int .i64 x) ∧ w9.cell? ⟨gc, q, none⟩ = some (.int .i64 y) ∧ Below w9.heap.size w9 w9 := ⟨by assumption, by assumption, Below.refl _ _⟩
              first | refine wp_region_noPanic ?_ | skip
              refine wp_region_held_drew (S := fun w' => w'.cell? ⟨gc, q + n, none⟩ = some (.int .i64 x) ∧ w'.cell? ⟨gc, q, none⟩ = some (.int .i64 y) ∧ Below w9.heap.size w9 w') (by kernel_rfl) (by first | exact S0 | exact held2_drew S0 | assumption | exact held2_step hp3 hp4 S0 (by assumption) | exact held2_step hp3 hp4 (by assumption) (by assumption) | exact held2_drew (by assumption)) (fun hHeld => ?_)
              (refine wpAnyH_take (i := 0) (v := ?_) rfl (by kernel_rfl) (by kernel_rfl) (by kernel_rfl) (fun _ _ _ h => h) (Or.inl ⟨by rfl, ?_⟩) (by assumption) ?_; rotate_left; focus (intro w hSw; (try dsimp only at hSw); go_simp; try with_reducible rfl))
              (try simp only [List.getElem_toArray, List.getElem_cons_succ, List.getElem_cons_zero, Act.put, List.setIfInBounds_toArray, List.set_cons_zero, List.set_cons_succ])
              (refine wpAnyH_take (i := 1) (v := ?_) rfl (by kernel_rfl) (by kernel_rfl) (by kernel_rfl) (fun _ _ _ h => h) (Or.inl ⟨by rfl, ?_⟩) (by assumption) ?_; rotate_left; focus (intro w hSw; (try dsimp only at hSw); go_simp; try with_reducible rfl))
              (try simp only [List.getElem_toArray, List.getElem_cons_succ, List.getElem_cons_zero, Act.put, List.setIfInBounds_toArray, List.set_cons_zero, List.set_cons_succ])
              (refine wpAnyH_take (i := 2) (v := ?_) rfl (by kernel_rfl) (by kernel_rfl) (by kernel_rfl) (fun _ _ _ h => h) (Or.inl ⟨by rfl, ?_⟩) (by assumption) ?_; rotate_left; focus (intro w hSw; (try dsimp only at hSw); go_simp; try with_reducible rfl))
              (try simp only [List.getElem_toArray, List.getElem_cons_succ, List.getElem_cons_zero, Act.put, List.setIfInBounds_toArray, List.set_cons_zero, List.set_cons_succ])
              (refine wpAnyH_take (i := 3) (v := ?_) rfl (by kernel_rfl) (by kernel_rfl) (by kernel_rfl) (fun _ _ _ h => h) (Or.inl ⟨by rfl, ?_⟩) (by assumption) ?_; rotate_left; focus (intro w hSw; (try dsimp only at hSw); go_simp; try with_reducible rfl))
              (try simp only [List.getElem_toArray, List.getElem_cons_succ, List.getElem_cons_zero, Act.put, List.setIfInBounds_toArray, List.set_cons_zero, List.set_cons_succ])
              (refine wpAnyH_take (i := 4) (v := ?_) rfl (by kernel_rfl) (by kernel_rfl) (by kernel_rfl) (fun _ _ _ h => h) (Or.inl ⟨by rfl, ?_⟩) (by assumption) ?_; rotate_left; focus (intro w hSw; (try dsimp only at hSw); go_simp; try with_reducible rfl))
              (try simp only [List.getElem_toArray, List.getElem_cons_succ, List.getElem_cons_zero, Act.put, List.setIfInBounds_toArray, List.set_cons_zero, List.set_cons_succ])
              (refine wpAnyH_take (i := 5) (v := ?_) rfl (by kernel_rfl) (by kernel_rfl) (by kernel_rfl) (fun _ _ _ h => h) (Or.inl ⟨by rfl, ?_⟩) (by assumption) ?_; rotate_left; focus (intro w hSw; (try dsimp only at hSw); go_simp; try with_reducible rfl))
              (try simp only [List.getElem_toArray, List.getElem_cons_succ, List.getElem_cons_zero, Act.put, List.setIfInBounds_toArray, List.set_cons_zero, List.set_cons_succ])
              (refine wpAnyH_take (i := 6) (v := ?_) rfl (by kernel_rfl) (by kernel_rfl) (by kernel_rfl) (fun _ _ _ h => h) (Or.inl ⟨by rfl, ?_⟩) (by assumption) ?_; rotate_left; focus (intro w hSw; (try dsimp only at hSw); go_simp; try with_reducible rfl))
              (try simp only [List.getElem_toArray, List.getElem_cons_succ, List.getElem_cons_zero, Act.put, List.setIfInBounds_toArray, List.set_cons_zero, List.set_cons_succ])
              (refine wpAnyH_take (i := 7) (v := ?_) rfl (by kernel_rfl) (by kernel_rfl) (by kernel_rfl) (fun _ _ _ h => h) (Or.inl ⟨by rfl, ?_⟩) (by assumption) ?_; rotate_left; focus (intro w hSw; (try dsimp only at hSw); go_simp; try with_reducible rfl))
              (try simp only [List.getElem_toArray, List.getElem_cons_succ, List.getElem_cons_zero, Act.put, List.setIfInBounds_toArray, List.set_cons_zero, List.set_cons_succ])
              (refine wpAnyH_take (i := 8) (v := ?_) rfl (by kernel_rfl) (by kernel_rfl) (by kernel_rfl) (fun _ _ _ h => h) (Or.inl ⟨by rfl, ?_⟩) (by assumption) ?_; rotate_left; focus (intro w hSw; (try dsimp only at hSw); go_simp; try with_reducible rfl))
              (try simp only [List.getElem_toArray, List.getElem_cons_succ, List.getElem_cons_zero, Act.put, List.setIfInBounds_toArray, List.set_cons_zero, List.set_cons_succ])
              (refine wpAnyH_take (i := 9) (v := ?_) rfl (by kernel_rfl) (by kernel_rfl) (by kernel_rfl) (fun _ _ _ h => h) (Or.inl ⟨by rfl, ?_⟩) (by assumption) ?_; rotate_left; focus (intro w hSw; (try dsimp only at hSw); go_simp; try with_reducible rfl))
              (try simp only [List.getElem_toArray, List.getElem_cons_succ, List.getElem_cons_zero, Act.put, List.setIfInBounds_toArray, List.set_cons_zero, List.set_cons_succ])
              (refine wpAnyH_take (i := 10) (v := ?_) rfl (by kernel_rfl) (by kernel_rfl) (by kernel_rfl) (fun _ _ _ h => h) (Or.inl ⟨by rfl, ?_⟩) (by assumption) ?_; rotate_left; focus (intro w hSw; (try dsimp only at hSw); go_simp; try with_reducible rfl))
              (try simp only [List.getElem_toArray, List.getElem_cons_succ, List.getElem_cons_zero, Act.put, List.setIfInBounds_toArray, List.set_cons_zero, List.set_cons_succ])
              (refine wpAnyH_take (i := 11) (v := ?_) rfl (by kernel_rfl) (by kernel_rfl) (by kernel_rfl) (fun _ _ _ h => h) (Or.inl ⟨by rfl, ?_⟩) (by assumption) ?_; rotate_left; focus (intro w hSw; (try dsimp only at hSw); go_simp; try with_reducible rfl))
              (try simp only [List.getElem_toArray, List.getElem_cons_succ, List.getElem_cons_zero, Act.put, List.setIfInBounds_toArray, List.set_cons_zero, List.set_cons_succ])
              (refine wpAnyH_take (i := 12) (v := ?_) rfl (by kernel_rfl) (by kernel_rfl) (by kernel_rfl) (fun _ _ _ h => h) (Or.inl ⟨by rfl, ?_⟩) (by assumption) ?_; rotate_left; focus (intro w hSw; (try dsimp only at hSw); go_simp; try with_reducible rfl))
              (try simp only [List.getElem_toArray, List.getElem_cons_succ, List.getElem_cons_zero, Act.put, List.setIfInBounds_toArray, List.set_cons_zero, List.set_cons_succ])
              (refine wpAnyH_take (i := 13) (v := ?_) rfl (by kernel_rfl) (by kernel_rfl) (by kernel_rfl) (fun _ _ _ h => h) (Or.inl ⟨by rfl, ?_⟩) (by assumption) ?_; rotate_left; focus (intro w hSw; (try dsimp only at hSw); go_simp; try with_reducible rfl))
              (try simp only [List.getElem_toArray, List.getElem_cons_succ, List.getElem_cons_zero, Act.put, List.setIfInBounds_toArray, List.set_cons_zero, List.set_cons_succ])
              (refine wpAnyH_take (i := 14) (v := ?_) rfl (by kernel_rfl) (by kernel_rfl) (by kernel_rfl) (fun _ _ _ h => h) (Or.inl ⟨by rfl, ?_⟩) (by assumption) ?_; rotate_left; focus (intro w hSw; (try dsimp only at hSw); go_simp; try with_reducible rfl))
              (try simp only [List.getElem_toArray, List.getElem_cons_succ, List.getElem_cons_zero, Act.put, List.setIfInBounds_toArray, List.set_cons_zero, List.set_cons_succ])
              refine wpAnyH_done (by kernel_rfl) ?_ _
              first | refine NoPanic.normal ?_ | skip
              clear S0 hHeld g1 g2
              rw [← HWY.out]
              go_upto_region 17 with (fail)
              generalize hX : wy.setCell ⟨gc, q, none⟩ (.int .i64 (1 + x)) = zr at *
              clear hX k1 k2 kf oC x1 y1
              have hlt2 : (fewTab takeF l zs r (n - 1)).length = zs.length + 1 := fewTab_length hlt
              have hn3 := few_here (f := takeF) (l := l) (zs := zs) (r := r) (k := n - 1)
              rw [← HQ.out] at hn3
              have k3 := (hTZ.1.cellAt q (by omega)).trans (ints_at _ hn3)
              have kf := hTZ.1.frozenAt q
              have hTV : Own (zr.setCell ⟨gc + 1, q, none⟩ (.int .i64 (n : Int))) (gc + 1) (gc + 2) 3 1 (.slice (some ⟨gc + 1, 0, none⟩) (zs.length + 1) (zs.length + 1)) (zs.length + 1) (ints (fewTab takeF l zs r n)) := by
                have h := hTZ.set_ q (.int .i64 (n : Int))
                have e := few_set (f := takeF) (l := l) (zs := zs) (r := r) (k := n - 1) n
                rw [HN.out, ← HQ.out] at e
                rw [ints_set2, show ((n : Nat) : Int) = takeF (c.1, c.2.1 + 1, n) from rfl, e] at h
                exact h
              have oT : Only (gc + 1) (gc + 2) zr (zr.setCell ⟨gc + 1, q, none⟩ (.int .i64 (n : Int))) := (Only.refl zr).setCell (by show gc + 1 ≤ gc + 1; omega) (by show gc + 1 < gc + 2; omega) _
              have hCV := hCZ.only oT (.inl (Nat.le_refl _))
              have hOV := hOZ.trans ((Only.refl zr).setCell (lo := gc) (hi := gc + 2) (p := ⟨gc + 1, q, none⟩) (by show gc ≤ gc + 1; omega) (by show gc + 1 < gc + 2; omega) (.int .i64 (n : Int)))
              clear hn3 hlt2
              go_wp2
              go_roundw
              case rel => exact ⟨n + 1, by omega, by omega, by go_num, by rw [Nat.add_sub_cancel]; exact hCV, by rw [Nat.add_sub_cancel]; exact hTV, hOV⟩
              case measure => simp [intOf]; omega
            · have HN := Lib.hid (HBW.out (by rw [← HBT.out, HC1.out]; exact decide_eq_false hxy))
              clear hl
              go_wp2
              have S0 : wr.cell? ⟨w.heap.size, 0, none⟩ = some (.slice A l.length cap) ∧ Below wr.heap.size wr wr := ⟨by assumption, Below.refl _ _⟩
              first | refine wp_region_noPanic ?_ | skip
              refine wp_region_held_drew (S := fun w' => w'.cell? ⟨w.heap.size, 0, none⟩ = some (.slice A l.length cap) ∧ Below wr.heap.size wr w') (by kernel_rfl) (by first | exact S0 | exact held1_drew S0 | assumption | exact held1_step hp1 S0 (by assumption) | exact held1_step hp1 (by assumption) (by assumption) | exact held1_drew (by assumption)) (fun hHeld => ?_)
              (refine wpAnyH_take (i := 0) (v := ?_) rfl (by kernel_rfl) (by kernel_rfl) (by kernel_rfl) (fun _ _ _ h => h) (Or.inl ⟨by rfl, ?_⟩) (by assumption) ?_; rotate_left; focus (intro w hSw; (try dsimp only at hSw); go_simp; try with_reducible rfl))
              (try simp only [List.getElem_toArray, List.getElem_cons_succ, List.getElem_cons_zero, Act.put, List.setIfInBounds_toArray, List.set_cons_zero, List.set_cons_succ])
              (refine wpAnyH_take (i := 1) (v := ?_) rfl (by kernel_rfl) (by kernel_rfl) (by kernel_rfl) (fun _ _ _ h => h) (Or.inl ⟨by rfl, ?_⟩) (by assumption) ?_; rotate_left; focus (intro w hSw; (try dsimp only at hSw); go_simp; try with_reducible rfl))
              (try simp only [List.getElem_toArray, List.getElem_cons_succ, List.getElem_cons_zero, Act.put, List.setIfInBounds_toArray, List.set_cons_zero, List.set_cons_succ])
              (refine wpAnyH_take (i := 2) (v := ?_) rfl (by kernel_rfl) (by kernel_rfl) (by kernel_rfl) (fun _ _ _ h => h) (Or.inl ⟨by rfl, ?_⟩) (by assumption) ?_; rotate_left; focus (intro w hSw; (try dsimp only at hSw); go_simp; try with_reducible rfl))
              (try simp only [List.getElem_toArray, List.getElem_cons_succ, List.getElem_cons_zero, Act.put, List.setIfInBounds_toArray, List.set_cons_zero, List.set_cons_succ])
              (refine wpAnyH_take (i := 3) (v := ?_) rfl (by kernel_rfl) (by kernel_rfl) (by kernel_rfl) (fun _ _ _ h => h) (Or.inl ⟨by rfl, ?_⟩) (by assumption) ?_; rotate_left; focus (intro w hSw; (try dsimp only at hSw); go_simp; try with_reducible rfl))
              (try simp only [List.getElem_toArray, List.getElem_cons_succ, List.getElem_cons_zero, Act.put, List.setIfInBounds_toArray, List.set_cons_zero, List.set_cons_succ])
              (refine wpAnyH_take (i := 4) (v := ?_) rfl (by kernel_rfl) (by kernel_rfl) (by kernel_rfl) (fun _ _ _ h => h) (Or.inl ⟨by rfl, ?_⟩) (by assumption) ?_; rotate_left; focus (intro w hSw; (try dsimp only at hSw); go_simp; try with_reducible rfl))
              (try simp only [List.getElem_toArray, List.getElem_cons_succ, List.getElem_cons_zero, Act.put, List.setIfInBounds_toArray, List.set_cons_zero, List.set_cons_succ])
              (refine wpAnyH_take (i := 5) (v := ?_) rfl (by kernel_rfl) (by kernel_rfl) (by kernel_rfl) (fun _ _ _ h => h) (Or.inl ⟨by rfl, ?_⟩) (by assumption) ?_; rotate_left; focus (intro w hSw; (try dsimp only at hSw); go_simp; try with_reducible rfl))
              (try simp only [List.getElem_toArray, List.getElem_cons_succ, List.getElem_cons_zero, Act.put, List.setIfInBounds_toArray, List.set_cons_zero, List.set_cons_succ])
              (refine wpAnyH_take (i := 6) (v := ?_) rfl (by kernel_rfl) (by kernel_rfl) (by kernel_rfl) (fun _ _ _ h => h) (Or.inl ⟨by rfl, ?_⟩) (by assumption) ?_; rotate_left; focus (intro w hSw; (try dsimp only at hSw); go_simp; try with_reducible rfl))
              (try simp only [List.getElem_toArray, List.getElem_cons_succ, List.getElem_cons_zero, Act.put, List.setIfInBounds_toArray, List.set_cons_zero, List.set_cons_succ])
              refine wpAnyH_ready (rs := [7]) (by kernel_rfl) (by simp) ?_
              refine AllReadyH.cons rfl (fun K hK => ?_) AllReadyH.nil
              go_simp
              refine (HB.out _ (held1_below (by assumption))).mono ?_; rw [HL.out]; rintro e w9 ⟨rfl, b9⟩; go_wp2_with fail
              refine hK.out _ _ (by first | exact S0 | exact held1_drew S0 | assumption | exact held1_step hp1 S0 (by assumption) | exact held1_step hp1 (by assumption) (by assumption) | exact held1_drew (by assumption)) (fun hHeld => ?_)
              clear hK K
              (try simp only [List.getElem_toArray, List.getElem_cons_succ, List.getElem_cons_zero, Act.put, List.setIfInBounds_toArray, List.set_cons_zero, List.set_cons_succ])
              (refine wpAnyH_take (i := 8) (v := ?_) rfl (by kernel_rfl) (by kernel_rfl) (by kernel_rfl) (fun _ _ _ h => h) (Or.inl ⟨by rfl, ?_⟩) (by assumption) ?_; rotate_left; focus (intro w hSw; (try dsimp only at hSw); go_simp; try with_reducible rfl))
              (try simp only [List.getElem_toArray, List.getElem_cons_succ, List.getElem_cons_zero, Act.put, List.setIfInBounds_toArray, List.set_cons_zero, List.set_cons_succ])
              (refine wpAnyH_take (i := 9) (v := ?_) rfl (by kernel_rfl) (by kernel_rfl) (by kernel_rfl) (fun _ _ _ h => h) (Or.inl ⟨by rfl, ?_⟩) (by assumption) ?_; rotate_left; focus (intro w hSw; (try dsimp only at hSw); go_simp; try with_reducible rfl))
              (try simp only [List.getElem_toArray, List.getElem_cons_succ, List.getElem_cons_zero, Act.put, List.setIfInBounds_toArray, List.set_cons_zero, List.set_cons_succ])
              (refine wpAnyH_take (i := 10) (v := ?_) rfl (by kernel_rfl) (by kernel_rfl) (by kernel_rfl) (fun _ _ _ h => h) (Or.inl ⟨by rfl, ?_⟩) (by assumption) ?_; rotate_left; focus (intro w hSw; (try dsimp only at hSw); go_simp; try with_reducible rfl))
              (try simp only [List.getElem_toArray, List.getElem_cons_succ, List.getElem_cons_zero, Act.put, List.setIfInBounds_toArray, List.set_cons_zero, List.set_cons_succ])
              (refine wpAnyH_take (i := 11) (v := ?_) rfl (by kernel_rfl) (by kernel_rfl) (by kernel_rfl) (fun _ _ _ h => h) (Or.inl ⟨by rfl, ?_⟩) (by assumption) ?_; rotate_left; focus (intro w hSw; (try dsimp only at hSw); go_simp; try with_reducible rfl))
              (try simp only [List.getElem_toArray, List.getElem_cons_succ, List.getElem_cons_zero, Act.put, List.setIfInBounds_toArray, List.set_cons_zero, List.set_cons_succ])
              (refine wpAnyH_take (i := 12) (v := ?_) rfl (by kernel_rfl) (by kernel_rfl) (by kernel_rfl) (fun _ _ _ h => h) (Or.inl ⟨by rfl, ?_⟩) (by assumption) ?_; rotate_left; focus (intro w hSw; (try dsimp only at hSw); go_simp; try with_reducible rfl))
              (try simp only [List.getElem_toArray, List.getElem_cons_succ, List.getElem_cons_zero, Act.put, List.setIfInBounds_toArray, List.set_cons_zero, List.set_cons_succ])
              refine wpAnyH_done (by kernel_rfl) ?_ _
              first | refine NoPanic.normal ?_ | skip
              have SZ : w9.cell? ⟨w.heap.size, 0, none⟩ = some (.slice A l.length cap) ∧ Below wr.heap.size wr w9 := by assumption
              have b9' := held1_below SZ
              have hC9 := hC.below b9'
              have hT9 := hT.below b9'
              have hO9 := hO.trans (Only.of_below b9')
              have g1 := (b9'.cell (p := ⟨gc, q + n, none⟩) hp2).trans e1
              have g2 := (b9'.cell (p := ⟨gc, q, none⟩) (by show gc < _; omega)).trans e2
              have hp3 : (⟨gc, q + n, none⟩ : Addr).block < w9.heap.size := by have := b9'.size; show gc < _; omega
              have hp4 : (⟨gc, q, none⟩ : Addr).block < w9.heap.size := by have := b9'.size; show gc < _; omega
              clear S0 SZ hHeld cP e1 e2
              go_wp2
              have S0 : w9.cell? ⟨gc, q + n, none⟩ = some (.int .i64 x) ∧ w9.cell? ⟨gc, q, none⟩ = some (.int .i64 y) ∧ Below w9.heap.size w9 w9 := ⟨by assumption, by assumption, Below.refl _ _⟩
              first | refine wp_region_noPanic ?_ | skip
              refine wp_region_held_drew (S := fun w' => w'.cell? ⟨gc, q + n, none⟩ = some (.int .i64 x) ∧ w'.cell? ⟨gc, q, none⟩ = some (.int .i64 y) ∧ Below w9.heap.size w9 w') (by kernel_rfl) (by first | exact S0 | exact held2_drew S0 | assumption | exact held2_step hp3 hp4 S0 (by assumption) | exact held2_step hp3 hp4 (by assumption) (by assumption) | exact held2_drew (by assumption)) (fun hHeld => ?_)
              (refine wpAnyH_take (i := 0) (v := ?_) rfl (by kernel_rfl) (by kernel_rfl) (by kernel_rfl) (fun _ _ _ h => h) (Or.inl ⟨by rfl, ?_⟩) (by assumption) ?_; rotate_left; focus (intro w hSw; (try dsimp only at hSw); go_simp; try with_reducible rfl))
              (try simp only [List.getElem_toArray, List.getElem_cons_succ, List.getElem_cons_zero, Act.put, List.setIfInBounds_toArray, List.set_cons_zero, List.set_cons_succ])
              (refine wpAnyH_take (i := 1) (v := ?_) rfl (by kernel_rfl) (by kernel_rfl) (by kernel_rfl) (fun _ _ _ h => h) (Or.inl ⟨by rfl, ?_⟩) (by assumption) ?_; rotate_left; focus (intro w hSw; (try dsimp only at hSw); go_simp; try with_reducible rfl))
              (try simp only [List.getElem_toArray, List.getElem_cons_succ, List.getElem_cons_zero, Act.put, List.setIfInBounds_toArray, List.set_cons_zero, List.set_cons_succ])
              (refine wpAnyH_take (i := 2) (v := ?_) rfl (by kernel_rfl) (by kernel_rfl) (by kernel_rfl) (fun _ _ _ h => h) (Or.inl ⟨by rfl, ?_⟩) (by assumption) ?_; rotate_left; focus (intro w hSw; (try dsimp only at hSw); go_simp; try with_reducible rfl))
              (try simp only [List.getElem_toArray, List.getElem_cons_succ, List.getElem_cons_zero, Act.put, List.setIfInBounds_toArray, List.set_cons_zero, List.set_cons_succ])
              (refine wpAnyH_take (i := 3) (v := ?_) rfl (by kernel_rfl) (by kernel_rfl) (by kernel_rfl) (fun _ _ _ h => h) (Or.inl ⟨by rfl, ?_⟩) (by assumption) ?_; rotate_left; focus (intro w hSw; (try dsimp only at hSw); go_simp; try with_reducible rfl))
              (try simp only [List.getElem_toArray, List.getElem_cons_succ, List.getElem_cons_zero, Act.put, List.setIfInBounds_toArray, List.set_cons_zero, List.set_cons_succ])
              (refine wpAnyH_take (i := 4) (v := ?_) rfl (by kernel_rfl) (by kernel_rfl) (by kernel_rfl) (fun _ _ _ h => h) (Or.inl ⟨by rfl, ?_⟩) (by assumption) ?_; rotate_left; focus (intro w hSw; (try dsimp only at hSw); go_simp; try with_reducible rfl))
              (try simp only [List.getElem_toArray, List.getElem_cons_succ, List.getElem_cons_zero, Act.put, List.setIfInBounds_toArray, List.set_cons_zero, List.set_cons_succ])
              (refine wpAnyH_take (i := 5) (v := ?_) rfl (by kernel_rfl) (by kernel_rfl) (by kernel_rfl) (fun _ _ _ h => h) (Or.inl ⟨by rfl, ?_⟩) (by assumption) ?_; rotate_left; focus (intro w hSw; (try dsimp only at hSw); go_simp; try with_reducible rfl))
              (try simp only [List.getElem_toArray, List.getElem_cons_succ, List.getElem_cons_zero, Act.put, List.setIfInBounds_toArray, List.set_cons_zero, List.set_cons_succ])
              (refine wpAnyH_take (i := 6) (v := ?_) rfl (by kernel_rfl) (by kernel_rfl) (by kernel_rfl) (fun _ _ _ h => h) (Or.inl ⟨by rfl, ?_⟩) (by assumption) ?_; rotate_left; focus (intro w hSw; (try dsimp only at hSw); go_simp; try with_reducible rfl))
              (try simp only [List.getElem_toArray, List.getElem_cons_succ, List.getElem_cons_zero, Act.put, List.setIfInBounds_toArray, List.set_cons_zero, List.set_cons_succ])
              (refine wpAnyH_take (i := 7) (v := ?_) rfl (by kernel_rfl) (by kernel_rfl) (by kernel_rfl) (fun _ _ _ h => h) (Or.inl ⟨by rfl, ?_⟩) (by assumption) ?_; rotate_left; focus (intro w hSw; (try dsimp only at hSw); go_simp; try with_reducible rfl))
              (try simp only [List.getElem_toArray, List.getElem_cons_succ, List.getElem_cons_zero, Act.put, List.setIfInBounds_toArray, List.set_cons_zero, List.set_cons_succ])
              (refine wpAnyH_take (i := 8) (v := ?_) rfl (by kernel_rfl) (by kernel_rfl) (by kernel_rfl) (fun _ _ _ h => h) (Or.inl ⟨by rfl, ?_⟩) (by assumption) ?_; rotate_left; focus (intro w hSw; (try dsimp only at hSw); go_simp; try with_reducible rfl))
              (try simp only [List.getElem_toArray, List.getElem_cons_succ, List.getElem_cons_zero, Act.put, List.setIfInBounds_toArray, List.set_cons_zero, List.set_cons_succ])
              (refine wpAnyH_take (i := 9) (v := ?_) rfl (by kernel_rfl) (by kernel_rfl) (by kernel_rfl) (fun _ _ _ h => h) (Or.inl ⟨by rfl, ?_⟩) (by assumption) ?_; rotate_left; focus (intro w hSw; (try dsimp only at hSw); go_simp; try with_reducible rfl))
              (try simp only [List.getElem_toArray, List.getElem_cons_succ, List.getElem_cons_zero, Act.put, List.setIfInBounds_toArray, List.set_cons_zero, List.set_cons_succ])
              (refine wpAnyH_take (i := 10) (v := ?_) rfl (by kernel_rfl) (by kernel_rfl) (by kernel_rfl) (fun _ _ _ h => h) (Or.inl ⟨by rfl, ?_⟩) (by assumption) ?_; rotate_left; focus (intro w hSw; (try dsimp only at hSw); go_simp; try with_reducible rfl))
              (try simp only [List.getElem_toArray, List.getElem_cons_succ, List.getElem_cons_zero, Act.put, List.setIfInBounds_toArray, List.set_cons_zero, List.set_cons_succ])
              (refine wpAnyH_take (i := 11) (v := ?_) rfl (by kernel_rfl) (by kernel_rfl) (by kernel_rfl) (fun _ _ _ h => h) (Or.inl ⟨by rfl, ?_⟩) (by assumption) ?_; rotate_left; focus (intro w hSw; (try dsimp only at hSw); go_simp; try with_reducible rfl))
              (try simp only [List.getElem_toArray, List.getElem_cons_succ, List.getElem_cons_zero, Act.put, List.setIfInBounds_toArray, List.set_cons_zero, List.set_cons_succ])
              (refine wpAnyH_take (i := 12) (v := ?_) rfl (by kernel_rfl) (by kernel_rfl) (by kernel_rfl) (fun _ _ _ h => h) (Or.inl ⟨by rfl, ?_⟩) (by assumption) ?_; rotate_left; focus (intro w hSw; (try dsimp only at hSw); go_simp; try with_reducible rfl))
              (try simp only [List.getElem_toArray, List.getElem_cons_succ, List.getElem_cons_zero, Act.put, List.setIfInBounds_toArray, List.set_cons_zero, List.set_cons_succ])
              (refine wpAnyH_take (i := 13) (v := ?_) rfl (by kernel_rfl) (by kernel_rfl) (by kernel_rfl) (fun _ _ _ h => h) (Or.inl ⟨by rfl, ?_⟩) (by assumption) ?_; rotate_left; focus (intro w hSw; (try dsimp only at hSw); go_simp; try with_reducible rfl))
              (try simp only [List.getElem_toArray, List.getElem_cons_succ, List.getElem_cons_zero, Act.put, List.setIfInBounds_toArray, List.set_cons_zero, List.set_cons_succ])
              (refine wpAnyH_take (i := 14) (v := ?_) rfl (by kernel_rfl) (by kernel_rfl) (by kernel_rfl) (fun _ _ _ h => h) (Or.inl ⟨by rfl, ?_⟩) (by assumption) ?_; rotate_left; focus (intro w hSw; (try dsimp only at hSw); go_simp; try with_reducible rfl))
              (try simp only [List.getElem_toArray, List.getElem_cons_succ, List.getElem_cons_zero, Act.put, List.setIfInBounds_toArray, List.set_cons_zero, List.set_cons_succ])
              refine wpAnyH_done (by kernel_rfl) ?_ _
              first | refine NoPanic.normal ?_ | skip
              clear S0 hHeld y1 x1 g1 g2
              go_wp2
              go_roundw
              case rel => exact ⟨n + 1, by omega, by omega, by go_num, by rw [Nat.add_sub_cancel, few_keep HN.out]; exact hC9, by rw [Nat.add_sub_cancel, few_keep HN.out]; exact hT9, hO9.drew⟩
              case measure => simp [intOf]; omega
        · have hq' := HQ.out
          have e : n - 1 = min 6 (r + 1) := by omega
          rw [e, few_last] at hC hT
          have HE := Lib.hid (show (Value.int .i64 ((q : Int) - 1)) = .int .i64 ((zs.length : Int) - 1 - ((r + 1 : Nat) : Int)) by congr 1; omega)
          by_cases h6 : n ≤ 6
          · have xa : (n : Int) ≤ 6 := by omega
            have xq : ¬ (q : Int) + (n : Int) ≤ (zs.length : Int) := by omega
            clear e hq'
            go_wp2
            go_roundw
            case rel => exact ⟨r + 1, by omega, by first | exact HE.out | (rw [← HE.out]), hC, hT, hO⟩
            case measure => simp [intOf]; try omega
          · have xa : ¬ (n : Int) ≤ 6 := by omega
            clear e hq'
            go_wp2
            go_roundw
            case rel => exact ⟨r + 1, by omega, by first | exact HE.out | (rw [← HE.out]), hC, hT, hO⟩
            case measure => simp [intOf]; try omega
    · obtain rfl : r = zs.length := by omega
      have hqi : (zs.length : Int) - 1 - (zs.length : Int) = -1 := by omega
      rw [hqi]
      have hbO : Below w.heap.size w wr := BM.trans (hO.below (by have := HG0.out; omega) BM.size)
      have bP := bPM.only hO (.inl (by have := HG0.out; omega))
      have ownW := ownsRow_only ownOM hO (fun g hg => .inl (by simp [Value.ownBlock] at hg; have := HG0.out; omega))
      have T0 := hT.1.base (Nat.zero_le (gc + 1))
      clear ownOM bPM hO hC hT hqi
      go_wp2
      go_loopw [6, 13] (fun v x wr => ∃ (i m : Nat) (xs : List Value), i ≤ zs.length ∧ x = .int .i64 i ∧ FewAt (costT l zs zs.length) zs.length m i ∧ wr.ownsRow (w.heap.size + 1) 58 3 v m xs ∧ wr.ownsRow 0 3 1 (.slice (some ⟨gc + 1, 0, none⟩) (zs.length + 1) (zs.length + 1)) (zs.length + 1) (ints (fewRow takeF l zs zs.length)) ∧ Box wr w.heap.size 26 (.slice A l.length cap) ∧ Below w.heap.size w wr) (fun _ x _ => zs.length - (intOf x).toNat)
      case atStart => exact ⟨0, 0, [], Nat.zero_le _, rfl, fewAt_zero _ _, ownW, T0, bP, hbO⟩
      case round =>
        obtain ⟨i, m, xs, hi, rfl, hfa, hown, hT, bP, hb⟩ := hrel
        have HFA := Lib.hid hfa
        have hmn := fewAt_le hfa
        clear hfa ownW T0 hbO
        by_cases hil : i < zs.length
        · have hst := step_le (l := l) hil
          have HNX := Lib.hid (few_step HFA.out hil)
          have hlt2 : (fewRow takeF l zs zs.length).length = zs.length + 1 := fewRow_length (Nat.le_refl _)
          have hce := few_end (f := takeF) (l := l) (zs := zs) (m := i) hi
          obtain ⟨tk, htk⟩ : ∃ tk, tk = (costAt (costT l zs zs.length) i).2.2 := ⟨_, rfl⟩
          simp only [stepF] at hst HNX
          unfold takeF at hce
          rw [← htk] at hst hce HNX
          have HCE := Lib.hid hce
          have i0 : (0 : Int) ≤ (i : Int) := by omega
          have i1 : (i : Int) < (zs.length : Int) + 1 := by omega
          have i2 : (i : Int) < (zs.length : Int) := by omega
          have bb := (Below.refl wr.heap.size wr).alloc (Nat.le_refl _) (.cells #[.int .i64 (i : Int), .int .i64 1, .string ⟨#[]⟩] 58)
          have tb := Three.new wr 58 (.int .i64 (i : Int)) (.int .i64 1) (.string ⟨#[]⟩)
          obtain ⟨g, hgg⟩ : ∃ g, g = wr.heap.size := ⟨_, rfl⟩
          have hgo : u6.ownBlock ≠ some g := fun h => by have := (hown.lt g h).2; omega
          have hgT : gc + 1 < g := by have := (hT.lt (gc + 1) rfl).2; omega
          have hgd : w.heap.size < g := by have := bP.lt; omega
          clear htk hce
          go_upto_region 22 with (fail)
          rw [← hgg] at tb
          generalize hX : wr.alloc (.cells #[.int .i64 (i : Int), .int .i64 1, .string ⟨#[]⟩] 58) = xr at *
          try rw [← hgg]
          clear hX hgg
          have hownx := row_below hown bb
          have hTx := row_below hT bb
          have bPx := bP.far bb
          have Bx := hb.trans (bb.mono hb.size)
          have szx : w.heap.size + 1 ≤ xr.heap.size := bPx.lt
          have kx := (hTx.cellAt i (by omega)).trans (ints_at _ HCE.out)
          have HH := Lib.hid (fun (k : Int) (h : (fewRow takeF l zs zs.length)[i]? = some k) => ints_at _ h)
          clear hown hT bP hb bb
          by_cases ht0 : tk = 0
          · have x1 : ¬ (0 : Int) < (tk : Int) := by omega
            have x2 : decide (0 < tk) = false := by simp; omega
            clear ht0
            have e0 := tb.cell0
            have e1 := tb.cell1
            have e2 := tb.cell2
            go_wp2_with (first | (at_builtin; refine wpList_append_threeG hownx szx (.tmp 142) (.tmp 144) 55 Tryz.underlying55 info_piece (by omega) (by unfold maxLen; omega) ⟨rfl, rfl, rfl, rfl, rfl, rfl, rfl, rfl⟩ rfl ?_; intro v10 w10 hown10 gr10; have hT10 := hTx.kept gr10 (apart_two hTx hownx (by decide)); have k10 := (hT10.cellAt i (by omega)).trans (ints_at _ HCE.out); clear e0 e1 e2 kx) | (go_at_call 60; refine (spec_most1 tk _).mono ?_; rintro e w' ⟨rfl, rfl⟩))
            go_roundw
            case rel => exact ⟨i + max tk 1, m + 1, _, by omega, by go_num, HNX.out, hown10, hT10, bPx.grown gr10 (bPx.ne_own hownx (by decide)), below_grown Bx gr10 Bx.size hownx rfl (by omega)⟩
            case measure => simp [intOf]; omega
          · have x1 : (0 : Int) < (tk : Int) := by omega
            have x2 : decide (0 < tk) = true := by simp; omega
            clear ht0
            have e1 := tb.cell1
            have ef := tb.free 1
            have tb2 := (three_set tb (.int .i64 (tk : Int))).1
            have oS : Only g (g + 1) xr (xr.setCell ⟨g, 1, none⟩ (.int .i64 (tk : Int))) := (Only.refl xr).setCell (by show g ≤ g; omega) (by show g < g + 1; omega) _
            have hown2 := ownsRow_only hownx oS (fun a ha => blk_far hgo ha)
            have hT2 := ownsRow_only hTx oS (fun a ha => .inl (by simp [Value.ownBlock] at ha; omega))
            have bP2 := bPx.only oS (.inl hgd)
            have B2 := Bx.trans (oS.below (B := w.heap.size) (by omega) Bx.size)
            have sz2 : w.heap.size + 1 ≤ (xr.setCell ⟨g, 1, none⟩ (.int .i64 (tk : Int))).heap.size := bP2.lt
            go_upto_region 24 with (fail)
            generalize hX : xr.setCell ⟨g, 1, none⟩ (.int .i64 (tk : Int)) = yr at *
            clear hX oS e1 ef kx
            have ky := (hT2.cellAt i (by omega)).trans (ints_at _ HCE.out)
            have cy := bP2.cell
            have hin : i + tk ≤ zs.length := by omega
            obtain ⟨bz, oz, rfl, hz0, -⟩ := (hz.below B2).2 (by omega)
            have hpl := part_length hin
            obtain ⟨sx, bx, hlv⟩ : ∃ sx bx, lookV l (part zs i tk) = .tuple #[.string sx, .bool bx] := lookV_form l _
            have HB := Lib.hid (show ∀ W, Below yr.heap.size yr W → Calls Tryz.prog 59 #[.agg #[.slice A l.length cap], .slice (some ⟨bz, oz + i, none⟩) tk (cb - i)] W fun e w' => e = .returned (.tuple #[.string sx, .bool bx]) ∧ Below W.heap.size W w' from fun W hW => by
              have h := spec_l6Find A (some ⟨bz, oz + i, none⟩) cap (cb - i) l (part zs i tk) W (((((hr.below B2).more B2.size)).below hW).more hW.size) HV.out (((((hz.below B2).part hin).more B2.size).below hW).more hW.size)
              rw [hpl, hlv] at h
              exact h)
            have y1 : IntKind.i64.wrap ((i : Int) + (tk : Int)) = (i : Int) + (tk : Int) := IntWalk.i64_in _ (by omega)
            have y2 : (0 : Int) ≤ (i : Int) + (tk : Int) := by omega
            have y3 : ((i : Int) + (tk : Int)).toNat = i + tk := by omega
            have y6 : i + tk ≤ cb := by omega
            have y7 : i ≤ i + tk := by omega
            have y8 : ¬ cb = i := by omega
            have y9 : i + tk - i = tk := by omega
            have yb : (i : Int) ≤ (i : Int) + (tk : Int) := by omega
            have yc : (i : Int) + (tk : Int) ≤ (cb : Int) := by omega
            have hSx : yr.cell? ⟨w.heap.size, 0, none⟩ = some (.slice A l.length cap) ∧ yr.cell? ⟨gc + 1, i, none⟩ = some (.int .i64 (tk : Int)) := ⟨cy, ky⟩
            clear hpl hlv
            go_wp2
            first | refine wp_region_noPanic ?_ | skip
            refine wp_region_held_drew (S := fun w' => w'.cell? ⟨w.heap.size, 0, none⟩ = some (.slice A l.length cap) ∧ w'.cell? ⟨gc + 1, i, none⟩ = some (.int .i64 (tk : Int))) (by kernel_rfl) (by first | exact hSx | exact hS9 | exact hSF | assumption) (fun hHeld => ?_)
            (refine wpAnyH_take (i := 0) (v := ?_) rfl (by kernel_rfl) (by kernel_rfl) (by kernel_rfl) (fun _ _ _ h => h) (Or.inl ⟨by rfl, ?_⟩) (by assumption) ?_; rotate_left; focus (intro w hSw; (try dsimp only at hSw); go_simp; try with_reducible rfl))
            (try simp only [List.getElem_toArray, List.getElem_cons_succ, List.getElem_cons_zero, Act.put, List.setIfInBounds_toArray, List.set_cons_zero, List.set_cons_succ])
            (refine wpAnyH_take (i := 1) (v := ?_) rfl (by kernel_rfl) (by kernel_rfl) (by kernel_rfl) (fun _ _ _ h => h) (Or.inl ⟨by rfl, ?_⟩) (by assumption) ?_; rotate_left; focus (intro w hSw; (try dsimp only at hSw); go_simp; try with_reducible rfl))
            (try simp only [List.getElem_toArray, List.getElem_cons_succ, List.getElem_cons_zero, Act.put, List.setIfInBounds_toArray, List.set_cons_zero, List.set_cons_succ])
            (refine wpAnyH_take (i := 2) (v := ?_) rfl (by kernel_rfl) (by kernel_rfl) (by kernel_rfl) (fun _ _ _ h => h) (Or.inl ⟨by rfl, ?_⟩) (by assumption) ?_; rotate_left; focus (intro w hSw; (try dsimp only at hSw); go_simp; try with_reducible rfl))
            (try simp only [List.getElem_toArray, List.getElem_cons_succ, List.getElem_cons_zero, Act.put, List.setIfInBounds_toArray, List.set_cons_zero, List.set_cons_succ])
            (refine wpAnyH_take (i := 3) (v := ?_) rfl (by kernel_rfl) (by kernel_rfl) (by kernel_rfl) (fun _ _ _ h => h) (Or.inl ⟨by rfl, ?_⟩) (by assumption) ?_; rotate_left; focus (intro w hSw; (try dsimp only at hSw); go_simp; try with_reducible rfl))
            (try simp only [List.getElem_toArray, List.getElem_cons_succ, List.getElem_cons_zero, Act.put, List.setIfInBounds_toArray, List.set_cons_zero, List.set_cons_succ])
            (refine wpAnyH_take (i := 4) (v := ?_) rfl (by kernel_rfl) (by kernel_rfl) (by kernel_rfl) (fun _ _ _ h => h) (Or.inl ⟨by rfl, ?_⟩) (by assumption) ?_; rotate_left; focus (intro w hSw; (try dsimp only at hSw); go_simp; try with_reducible rfl))
            (try simp only [List.getElem_toArray, List.getElem_cons_succ, List.getElem_cons_zero, Act.put, List.setIfInBounds_toArray, List.set_cons_zero, List.set_cons_succ])
            (refine wpAnyH_take (i := 5) (v := ?_) rfl (by kernel_rfl) (by kernel_rfl) (by kernel_rfl) (fun _ _ _ h => h) (Or.inl ⟨by rfl, ?_⟩) (by assumption) ?_; rotate_left; focus (intro w hSw; (try dsimp only at hSw); go_simp; try with_reducible rfl))
            (try simp only [List.getElem_toArray, List.getElem_cons_succ, List.getElem_cons_zero, Act.put, List.setIfInBounds_toArray, List.set_cons_zero, List.set_cons_succ])
            (refine wpAnyH_take (i := 6) (v := ?_) rfl (by kernel_rfl) (by kernel_rfl) (by kernel_rfl) (fun _ _ _ h => h) (Or.inl ⟨by rfl, ?_⟩) (by assumption) ?_; rotate_left; focus (intro w hSw; (try dsimp only at hSw); go_simp; try with_reducible rfl))
            (try simp only [List.getElem_toArray, List.getElem_cons_succ, List.getElem_cons_zero, Act.put, List.setIfInBounds_toArray, List.set_cons_zero, List.set_cons_succ])
            (refine wpAnyH_take (i := 7) (v := ?_) rfl (by kernel_rfl) (by kernel_rfl) (by kernel_rfl) (fun _ _ _ h => h) (Or.inl ⟨by rfl, ?_⟩) (by assumption) ?_; rotate_left; focus (intro w hSw; (try dsimp only at hSw); go_simp; try with_reducible rfl))
            (try simp only [List.getElem_toArray, List.getElem_cons_succ, List.getElem_cons_zero, Act.put, List.setIfInBounds_toArray, List.set_cons_zero, List.set_cons_succ])
            (refine wpAnyH_take (i := 8) (v := ?_) rfl (by kernel_rfl) (by kernel_rfl) (by kernel_rfl) (fun _ _ _ h => h) (Or.inl ⟨by rfl, ?_⟩) (by assumption) ?_; rotate_left; focus (intro w hSw; (try dsimp only at hSw); go_simp; try with_reducible rfl))
            (try simp only [List.getElem_toArray, List.getElem_cons_succ, List.getElem_cons_zero, Act.put, List.setIfInBounds_toArray, List.set_cons_zero, List.set_cons_succ])
            (refine wpAnyH_take (i := 9) (v := ?_) rfl (by kernel_rfl) (by kernel_rfl) (by kernel_rfl) (fun _ _ _ h => h) (Or.inl ⟨by rfl, ?_⟩) (by assumption) ?_; rotate_left; focus (intro w hSw; (try dsimp only at hSw); go_simp; try with_reducible rfl))
            (try simp only [List.getElem_toArray, List.getElem_cons_succ, List.getElem_cons_zero, Act.put, List.setIfInBounds_toArray, List.set_cons_zero, List.set_cons_succ])
            refine wpAnyH_ready (rs := [10]) (by kernel_rfl) (by simp) ?_
            refine AllReadyH.cons rfl (fun K hK => ?_) AllReadyH.nil
            go_simp
            (with_reducible refine (HB.out _ (by first | exact Below.refl _ _ | exact (Below.refl _ _).drew)).mono ?_); rintro e w9 ⟨rfl, b9'⟩; have b9 : Below yr.heap.size yr w9 := ((Below.refl yr.heap.size yr).drew).trans b9'; have t9 := tb2.far b9; have hT9 := row_below hT2 b9; have hown9 := row_below hown2 b9; have bP9 := bP2.far b9; have hS9 : w9.cell? ⟨w.heap.size, 0, none⟩ = some (.slice A l.length cap) ∧ w9.cell? ⟨gc + 1, i, none⟩ = some (.int .i64 (tk : Int)) := ⟨bP9.cell, (hT9.cellAt i (by omega)).trans (ints_at _ HCE.out)⟩; have c9 := t9.cell2; have f9 := t9.free 2; have oF : Only g (g + 1) w9 (w9.setCell ⟨g, 2, none⟩ (.string sx)) := (Only.refl w9).setCell (by show g ≤ g; omega) (by show g < g + 1; omega) _; have hTF := ownsRow_only hT9 oF (fun a ha => .inl (by simp [Value.ownBlock] at ha; omega)); have bPF := bP9.only oF (.inl hgd); have hSF : (w9.setCell ⟨g, 2, none⟩ (.string sx)).cell? ⟨w.heap.size, 0, none⟩ = some (.slice A l.length cap) ∧ (w9.setCell ⟨g, 2, none⟩ (.string sx)).cell? ⟨gc + 1, i, none⟩ = some (.int .i64 (tk : Int)) := ⟨bPF.cell, (hTF.cellAt i (by omega)).trans (ints_at _ HCE.out)⟩; go_wp2_with fail
            refine hK.out _ _ (by first | exact hSx | exact hS9 | exact hSF | assumption) (fun hHeld => ?_)
            clear hK K
            (try simp only [List.getElem_toArray, List.getElem_cons_succ, List.getElem_cons_zero, Act.put, List.setIfInBounds_toArray, List.set_cons_zero, List.set_cons_succ])
            (refine wpAnyH_take (i := 11) (v := ?_) rfl (by kernel_rfl) (by kernel_rfl) (by kernel_rfl) (fun _ _ _ h => h) (Or.inl ⟨by rfl, ?_⟩) (by assumption) ?_; rotate_left; focus (intro w hSw; (try dsimp only at hSw); go_simp; try with_reducible rfl))
            (try simp only [List.getElem_toArray, List.getElem_cons_succ, List.getElem_cons_zero, Act.put, List.setIfInBounds_toArray, List.set_cons_zero, List.set_cons_succ])
            (refine wpAnyH_take (i := 12) (v := ?_) rfl (by kernel_rfl) (by kernel_rfl) (by kernel_rfl) (fun _ _ _ h => h) (Or.inl ⟨by rfl, ?_⟩) (by assumption) ?_; rotate_left; focus (intro w hSw; (try dsimp only at hSw); go_simp; try with_reducible rfl))
            (try simp only [List.getElem_toArray, List.getElem_cons_succ, List.getElem_cons_zero, Act.put, List.setIfInBounds_toArray, List.set_cons_zero, List.set_cons_succ])
            (refine wpAnyH_take (i := 13) (v := ?_) rfl (by kernel_rfl) (by kernel_rfl) (by kernel_rfl) (fun _ _ _ h => h) (Or.inl ⟨by rfl, ?_⟩) (by assumption) ?_; rotate_left; focus (intro w hSw; (try dsimp only at hSw); go_simp; try with_reducible rfl))
            (try simp only [List.getElem_toArray, List.getElem_cons_succ, List.getElem_cons_zero, Act.put, List.setIfInBounds_toArray, List.set_cons_zero, List.set_cons_succ])
            (refine wpAnyH_take (i := 14) (v := ?_) rfl (by kernel_rfl) (by kernel_rfl) (by kernel_rfl) (fun _ _ _ h => h) (Or.inl ⟨by rfl, ?_⟩) (by assumption) ?_; rotate_left; focus (intro w hSw; (try dsimp only at hSw); go_simp; try with_reducible rfl))
            (try simp only [List.getElem_toArray, List.getElem_cons_succ, List.getElem_cons_zero, Act.put, List.setIfInBounds_toArray, List.set_cons_zero, List.set_cons_succ])
            refine wpAnyH_ready (rs := [15]) (by kernel_rfl) (by simp) ?_
            refine AllReadyH.cons rfl (fun K hK => ?_) AllReadyH.nil
            go_simp
            skip
            refine hK.out _ _ (by first | exact hSx | exact hS9 | exact hSF | assumption) (fun hHeld => ?_)
            clear hK K
            (try simp only [List.getElem_toArray, List.getElem_cons_succ, List.getElem_cons_zero, Act.put, List.setIfInBounds_toArray, List.set_cons_zero, List.set_cons_succ])
            refine wpAnyH_done (by kernel_rfl) ?_ _
            first | refine NoPanic.normal ?_ | skip
            have tF := (three_set t9 (.string sx)).2
            have hownF := ownsRow_only hown9 oF (fun a ha => blk_far hgo ha)
            have BF := (B2.trans (b9.mono B2.size)).trans (oF.below (B := w.heap.size) (by omega) (by have := B2.size; have := b9.size; omega))
            clear hHeld hSx hS9 hSF c9 f9 ky cy y1
            generalize hX : w9.setCell ⟨g, 2, none⟩ (.string sx) = zr at *
            clear hX oF
            have szF : w.heap.size + 1 ≤ zr.heap.size := bPF.lt
            have e0 := tF.cell0
            have e1 := tF.cell1
            have e2 := tF.cell2
            go_wp2_with (first | (at_builtin; refine wpList_append_threeG hownF szF (.tmp 142) (.tmp 144) 55 Tryz.underlying55 info_piece (by omega) (by unfold maxLen; omega) ⟨rfl, rfl, rfl, rfl, rfl, rfl, rfl, rfl⟩ rfl ?_; intro v10 w10 hown10 gr10; have hT10 := hTF.kept gr10 (apart_two hTF hownF (by decide)); have k10 := (hT10.cellAt i (by omega)).trans (ints_at _ HCE.out); clear e0 e1 e2) | (go_at_call 60; refine (spec_most1 tk _).mono ?_; rintro e w' ⟨rfl, rfl⟩))
            go_roundw
            case rel => exact ⟨i + max tk 1, m + 1, _, by omega, by go_num, HNX.out, hown10, hT10, bPF.grown gr10 (bPF.ne_own hownF (by decide)), below_grown BF gr10 BF.size hownF rfl (by omega)⟩
            case measure => simp [intOf]; omega
        · obtain rfl : i = zs.length := by omega
          obtain ⟨Av, kv, rfl, -, -, -⟩ := (Own.of_row hown).slice
          have HE := Lib.hid (fewAt_end HFA.out (Nat.le_refl _))
          go_wp2
          go_ret2
          exact ⟨Av, m, kv, by rw [HR.out] <;> rfl, fun _ => HE.out, hb⟩

/-- What PieceExcess returns. -/
def exV (l : List EntD) (zs : List Int) : Int := if okD l zs then ((segD l zs).length : Int) - (fewD l zs : Int) else 0
def ExRes (l : List EntD) (zs : List Int) (w : World) (e : Ending) (w' : World) : Prop := e = .returned (.tuple #[.int .i64 (exV l zs), .bool (okD l zs)]) ∧ Below w.heap.size w w'
theorem ex_no {l : List EntD} {zs : List Int} {w w' : World} (h : okD l zs = false) (hb : Below w.heap.size w w') : ExRes l zs w (.returned (.tuple #[.int .i64 0, .bool false])) w' := ⟨by simp [exV, h], hb⟩
theorem ex_yes {l : List EntD} {zs : List Int} {w w' : World} (h : okD l zs = true) (hb : Below w.heap.size w w') : ExRes l zs w (.returned (.tuple #[.int .i64 (((segD l zs).length : Int) - (fewD l zs : Int)), .bool true])) w' := ⟨by simp [exV, h], hb⟩
theorem few_le {l : List EntD} {zs : List Int} : fewD l zs ≤ zs.length := fewF_le _ _ _ _
set_option maxHeartbeats 2000000 in
theorem spec_PieceExcess (A B : Option Addr) (cap cb : Nat) (l : List EntD) (zs : List Int) (w : World) (hr : DictR w w.heap.size A l) (hn : l.length ≤ 1048576) (hs : ShortD l) (hz : Reads w w.heap.size 1 B zs.length (ints zs)) (hzn : zs.length ≤ 1048576) (hcb : zs.length ≤ cb) (hcm : cb ≤ maxLen) :
    Calls Tryz.prog 17 #[.agg #[.slice A l.length cap], .slice B zs.length cb] w (ExRes l zs w) := by
  obtain ⟨W1, hW1⟩ : ∃ W1, W1 = w.alloc (.cells #[.slice A l.length cap] 26) := ⟨_, rfl⟩
  have hb1 : Below w.heap.size w W1 := by rw [hW1]; exact (Below.refl _ _).alloc (Nat.le_refl _) _
  have bP : Box W1 w.heap.size 26 (.slice A l.length cap) := by rw [hW1]; exact Box.new w _ _
  have HF := Lib.hid (spec_FewestPieces A B cap cb l zs W1 ((hr.below hb1).more hb1.size) hn hs ((hz.below hb1).more hb1.size) hzn hcb hcm)
  have cP := bP.cell
  clear hs
  go_enter Tryz.func17, Tryz.ntmps17
  go_wp2_with fail
  rw [← hW1]
  clear hW1
  refine HF.out.mono ?_
  rintro e w3 ⟨Av, n, c, rfl, hnf, b3⟩
  have B3 := hb1.trans (b3.mono hb1.size)
  have cP3 := (bP.far b3).cell
  have HNF := Lib.hid hnf
  clear cP hnf HF
  cases hok : okD l zs
  · have HO := Lib.hid hok
    clear hok
    go_wp2
    go_ret2
    exact ex_no HO.out B3
  have HO := Lib.hid hok
  have hfn := HNF.out hok
  have HV := Lib.hid (show dictB l = true by simp only [okD, Bool.and_eq_true] at hok; exact hok.1)
  have hsl := segD_len l zs
  have hfl := few_le (l := l) (zs := zs)
  clear hok
  subst hfn
  go_wp2_with fail
  refine (spec_l11Segment A B cap cb l zs _ ((hr.below B3).more B3.size) HV.out ((hz.below B3).more B3.size) hzn hcb hcm).mono ?_
  rintro e w5 ⟨v5, rfl, o5, b5⟩
  have B5 := B3.trans (b5.mono B3.size)
  obtain ⟨A5, k5, rfl, -, -, -⟩ := o5.slice
  go_wp2
  go_ret2
  exact ex_yes HO.out B5
end Go.Proofs.YtoimkppjbabgeaaGreatDoor
