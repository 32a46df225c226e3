/-
  The program's search for the least list of strokes with two readings.
-/
import Derived.Test.YtekidodfcanjaaaGreatDoorWitC
import Derived.Test.YtekidodfcanjaaaGreatDoorSrchPl
import Derived.Test.YtekidodfcanjaaaGreatDoorStates
import Derived.Test.YtekidodfcanjaaaGreatDoorDictI
import Derived.Test.YtekidodfcanjaaaGreatDoorIns
import Derived.Test.YtekidodfcanjaaaGreatDoorDictS
namespace Go.Proofs.YtekidodfcanjaaaGreatDoor
open Go.RowKit
set_option linter.unusedVariables false
set_option linter.unusedSimpArgs false
set_option maxRecDepth 100000

theorem impl_copyOfW (A : Option Addr) (ca : Nat) (xs : List Int) (w : World) (hx : Reads w w.heap.size 1 A xs.length (ints xs)) (hn : xs.length ≤ 1048576) :
    Calls Tryz.prog 64 #[.slice A xs.length ca] w fun e w' => ∃ v, e = .returned v ∧ w'.ownsRow w.heap.size 3 1 v xs.length (ints xs) ∧ Below w.heap.size w w' := by
  have ba := (Below.refl w.heap.size w).alloc (Nat.le_refl _) (.cells #[] 3)
  have own0 : (w.alloc (.cells #[] 3)).ownsRow w.heap.size 3 1 (.slice (some ⟨w.heap.size, 0, none⟩) 0 0) 0 [] := World.ownsRow_made _ _ _ (Nat.le_refl _) (by simp) rfl
  have hzx : w.heap.size ≤ (w.alloc (.cells #[] 3)).heap.size := by simp
  have hx1 := hx.below ba
  have h1 : ∀ u ∈ ints xs, u.oneCell' = true := fun u hu => by obtain ⟨z, _, rfl⟩ := List.mem_map.1 hu; rfl
  have H1 := Lib.hid h1
  clear h1
  go_enter Tryz.func64, Tryz.ntmps64
  go_wp2_with (at_builtin; refine wpList_append_src own0 hzx hx1 H1.out (.tmp 3) (.tmp 4) 26 Tryz.underlying26 info_int (by omega) (by unfold maxLen; omega) ⟨rfl, rfl, rfl, rfl, rfl, by decide⟩ ?_; intro v2 w2 own2 b2)
  go_ret
  simp only [Nat.zero_add, List.nil_append] at own2
  exact ⟨v2, rfl, own2, ba.trans b2⟩
theorem winv_weaken {E : List (List Int)} {D O : List WtD} {Q Q' : List Int → List Int → Prop} (h : WInv E D O Q) (hQ : ∀ r a, Q' r a → Q r a) : WInv E D O Q' := ⟨search_weaken h.srch hQ, h.reach, h.lenD, h.lenO, h.nd⟩
theorem winv_lens {E : List (List Int)} {D O : List WtD} {Q : List Int → List Int → Prop} (h : WInv E D O Q) (hE : E.length ≤ 40) (ho : ∀ o ∈ E, o.length ≤ 6) : ∀ s ∈ O, s.1.length ≤ 6 ∧ s.2.length ≤ 1686 ∧ 0 < s.2.length := fun s hs => by
  have h0 := h.srch.reach s.1 s.2 hs
  have h1 := rest_len ho h0
  have h2 := h.lenO s hs
  have h3 := h.size hE ho
  have h4 := List.length_pos_iff.2 (reach_some h0)
  omega
theorem RowP.reads' {B : Nat} {w : World} {A : Option Addr} {n c : Nat} {xs : List Int} (h : RowP B w (.slice A n c) xs) : n = xs.length ∧ Reads w w.heap.size 1 A xs.length (ints xs) ∧ RowT 3 B w A xs.length (ints xs) ∧ xs.length ≤ c ∧ c ≤ maxLen := by
  obtain ⟨A', c', hv, h1, h2, h3⟩ := h
  injection hv with e1 e2 e3
  subst e1 e2 e3
  exact ⟨rfl, h1.reads, h1, h2, h3⟩

theorem wits_one {B : Nat} {w : World} {O : List WtD} {cs : List (Value × Value)} (h1 : cs.length = O.length) (h3 : ∀ (j : Nat) c s, cs[j]? = some c → O[j]? = some s → WitOk B w c s) : ∀ u ∈ flat2 cs, u.oneCell' = true := fun u hu => by
  obtain ⟨c, hc, hu⟩ := List.mem_flatMap.1 hu
  obtain ⟨j, hj⟩ := List.mem_iff_getElem?.1 hc
  obtain ⟨s, hs⟩ := some_at O (show j < O.length by rw [← h1]; exact (List.getElem?_eq_some_iff.1 hj).1)
  obtain ⟨⟨A1, c1, e1, -⟩, ⟨A2, c2, e2, -⟩⟩ := h3 j c s hj hs
  simp only [List.mem_cons, List.not_mem_nil, or_false] at hu
  rcases hu with rfl | rfl
  · rw [e1]; rfl
  · rw [e2]; rfl
theorem wits_cut {B : Nat} {w w' : World} {v2 : Value} {k : Nat} {O : List WtD} {cs : List (Value × Value)} (h1 : cs.length = O.length) (h3 : ∀ (j : Nat) c s, cs[j]? = some c → O[j]? = some s → WitOk B w c s) (hk : k < O.length)
    (h4 : w'.ownsRow B 96 2 v2 (O.length - 1) ((flat2 cs).take (k * 2) ++ (flat2 cs).drop ((k + 1) * 2))) (kp : Keep 3 B w w') : Wits B w' v2 (without O k) := by
  rw [flat2_without] at h4
  refine ⟨cs.take k ++ cs.drop (k + 1), by simp [without, h1], by rw [without_len hk]; exact h4, fun j c s hc hs => ?_⟩
  unfold without at hs
  rw [List.getElem?_append] at hc hs
  simp only [List.length_take] at hc hs
  rw [show min k cs.length = k by omega] at hc
  rw [show min k O.length = k by omega] at hs
  by_cases hj : j < k
  · rw [if_pos hj, List.getElem?_take, if_pos hj] at hc hs
    exact (h3 j c s hc hs).keep kp
  · rw [if_neg hj, List.getElem?_drop] at hc hs
    exact (h3 _ c s hc hs).keep kp
theorem info_rowW : (Tryz.prog.info? 26).map (fun i => (i.zero, i.size, i.bytes)) = some (some (.slice none 0 0), 1, 24) := by kernel_rfl

set_option maxHeartbeats 16000000 in
theorem impl_ambiguous (A : Option Addr) (cap : Nat) (l : List EntD) (w : World) (hr : DictR w w.heap.size A l) (hv : dictB l = true) :
    Calls Tryz.prog 45 #[.agg #[.slice A l.length cap]] w fun e w' => ∃ v, e = .returned (.tuple #[v, .bool (decide (0 < (ambD l).length))]) ∧ Own w' w.heap.size w'.heap.size 3 1 v (ambD l).length (ints (ambD l)) ∧ AmbRes (outsD l) (ambD l) ∧ Below w.heap.size w w' := by
  obtain ⟨W1, hW1⟩ : ∃ W1, W1 = w.alloc (.cells #[.slice A l.length cap] 31) := ⟨_, rfl⟩
  have hs1 : W1.heap.size = w.heap.size + 1 := by rw [hW1]; simp
  have hb1 : Below w.heap.size w W1 := by rw [hW1]; exact (Below.refl _ _).alloc (Nat.le_refl _) _
  have bP : Box W1 w.heap.size 31 (.slice A l.length cap) := by rw [hW1]; exact Box.new w _ _
  have h40 := dict_len hv
  have HV := Lib.hid hv
  have HE := Lib.hid (show (outsD l).length ≤ 40 by rw [outs_len]; exact h40)
  have HSIX := Lib.hid (outs_six hv)
  have HBW := Lib.hid (show ∀ W', Below (w.heap.size + 1) W1 W' → Below w.heap.size w W' from fun W' hb => hb1.trans (hb.mono (by omega)))
  have HRT := Lib.hid (show ∀ W', Below (w.heap.size + 1) W1 W' → DictR W' w.heap.size A l from fun W' hb => hr.below (hb1.trans (hb.mono (by omega))))
  have HBX := Lib.hid (show ∀ W', Below (w.heap.size + 1) W1 W' → W'.cell? ⟨w.heap.size, 0, none⟩ = some (.slice A l.length cap) from fun W' hb => (bP.below hb (by omega)).cell)
  obtain ⟨W2, hW2⟩ : ∃ W2, W2 = W1.alloc (.cells #[] 96) := ⟨_, rfl⟩
  have hs2 : W2.heap.size = w.heap.size + 2 := by rw [hW2]; simp [hs1]
  have hb2 : Below W1.heap.size W1 W2 := by rw [hW2]; exact (Below.refl _ _).alloc (Nat.le_refl _) _
  have st2 : Wits (w.heap.size + 1) W2 (.slice (some ⟨w.heap.size + 1, 0, none⟩) 0 0) [] := by
    have h := Wits.made (B := w.heap.size + 1) (w := W1) (by omega)
    rw [← hW2, hs1] at h
    exact h
  obtain ⟨W3, hW3⟩ : ∃ W3, W3 = W2.alloc (.cells #[] 26) := ⟨_, rfl⟩
  have hb3 : Below W2.heap.size W2 W3 := by rw [hW3]; exact (Below.refl _ _).alloc (Nat.le_refl _) _
  have ST0 := Lib.hid (st2.far hb3 (by omega))
  have RS0 := Lib.hid (show Rests (w.heap.size + 1) W3 (.slice (some ⟨w.heap.size + 2, 0, none⟩) 0 0) [] by
    have h := Rests.made (B := w.heap.size + 1) (w := W2) (by omega)
    rw [← hW3, hs2] at h
    exact h)
  have b03 : Below (w.heap.size + 1) W1 W3 := (hb2.trans (hb3.mono hb2.size)).mono (by omega)
  have B0 := Lib.hid b03
  have cP := HBX.out _ b03
  clear hr hv hb1 bP hb2 hb3 st2 b03
  go_enter Tryz.func45, Tryz.ntmps45
  go_upto_region 2 with fail
  rw [← hW1]
  rw [← hW2]
  rw [← hW3]
  clear hW1 hW2 hW3
  go_wp2
  clear cP
  go_loopw [4, 23] (fun u i wr => ∃ (k : Nat) (O : List WtD), k ≤ l.length ∧ i = .int .i64 k ∧ Wits (w.heap.size + 1) wr u O ∧ Rests (w.heap.size + 1) wr (.slice (some ⟨w.heap.size + 2, 0, none⟩) 0 0) [] ∧ WInv (outsD l) [] O (PairQ l k 0) ∧ O.length ≤ 40 * k ∧ Below (w.heap.size + 1) W1 wr) (fun _ i _ => l.length - (intOf i).toNat)
  case atStart => exact ⟨0, [], Nat.zero_le _, rfl, ST0.out, RS0.out, winv_weaken (winv_nil _) (fun r a h => absurd h pairQ_zero), by simp, B0.out⟩
  case round =>
    clear ST0 RS0 B0
    obtain ⟨k, O, hk, rfl, hS, hRS, hI, hol0, hb⟩ := hrel
    have HS := Lib.hid hS
    have RS := Lib.hid hRS
    have HI := Lib.hid hI
    have HB := Lib.hid hb
    have hbz := hb.size
    have hBr : w.heap.size + 1 ≤ wr.heap.size := by omega
    clear hS hRS hI hb
    by_cases hlt : k < l.length
    · obtain ⟨⟨o, t⟩, hx⟩ := some_at l hlt
      have hol := dict_out HV.out hx
      simp only at hol
      have HX := Lib.hid hx
      obtain ⟨bD, oD, hA, hb0, hc⟩ := (HRT.out _ HB.out) (by omega)
      obtain ⟨ao, co, cD1, cD2, r1, hco, hcom⟩ := DictR.at_ hc hx
      have HA0 := Lib.hid hA
      have HR1 := Lib.hid (show ∀ W', Below (w.heap.size + 1) W1 W' → Reads W' W'.heap.size 1 ao o.length (ints o) from fun W' hb' => (r1.keep (fun x hx => (hb'.cell (p := x) (by omega)).trans (HB.out.cell (p := x) (by omega)).symm)).more (by have := hb'.size; omega))
      have i0 : (0 : Int) ≤ (k : Int) := by omega
      have i1 : (k : Int) < (l.length : Int) := by omega
      obtain ⟨wa, hwa⟩ : ∃ wa, wa = wr.alloc (.cells #[.slice ao o.length co, .string t] 50) := ⟨_, rfl⟩
      obtain ⟨ga, hga⟩ : ∃ ga, ga = wr.heap.size := ⟨_, rfl⟩
      have ba : Below wr.heap.size wr wa := by rw [hwa]; exact (Below.refl _ _).alloc (Nat.le_refl _) _
      have TA := Lib.hid (show Two wa ga 50 (.slice ao o.length co) (.string t) by rw [hwa, hga]; exact Two.new wr _ _ _)
      have HS0 := Lib.hid (HS.out.far ba hBr)
      have RS0 := Lib.hid (RS.out.far ba hBr)
      have bb0 := HB.out.trans (ba.mono hBr)
      have HB0 := Lib.hid bb0
      have hga1 : w.heap.size + 1 ≤ ga := by omega
      have cP := HBX.out _ bb0
      have HWA := Lib.hid hwa
      have HGA := Lib.hid hga
      clear hx hc r1 hb0 hwa hga ba bb0 HS RS HB
      subst hA
      go_upto_region 5 with fail
      rw [← HWA.out, ← HGA.out]
      clear HWA HGA cD1 cD2 i0 i1
      go_wp2
      clear cP
      go_loopw [4, 30] (fun u j wr => ∃ (m : Nat) (O : List WtD), m ≤ l.length ∧ j = .int .i64 m ∧ Wits (w.heap.size + 1) wr u O ∧ Rests (w.heap.size + 1) wr (.slice (some ⟨w.heap.size + 2, 0, none⟩) 0 0) [] ∧ WInv (outsD l) [] O (PairQ l k m) ∧ O.length ≤ 40 * k + m ∧ Below (w.heap.size + 1) W1 wr ∧ Two wr ga 50 (.slice ao o.length co) (.string t)) (fun _ j _ => l.length - (intOf j).toNat)
      case atStart => exact ⟨0, O, Nat.zero_le _, rfl, HS0.out, RS0.out, HI.out, by omega, HB0.out, TA.out⟩
      case round =>
        clear HS0 RS0 HI HB0 TA hol0
        obtain ⟨m, O, hm, rfl, hS, hRS, hI, hol0, hb, hTA⟩ := hrel
        have HS := Lib.hid hS
        have RS := Lib.hid hRS
        have HI := Lib.hid hI
        have HB := Lib.hid hb
        have TA := Lib.hid hTA
        have hbz := hb.size
        have hBr : w.heap.size + 1 ≤ wr.heap.size := by omega
        clear hS hRS hI hb hTA
        by_cases hmt : m < l.length
        · obtain ⟨⟨p, q⟩, hy⟩ := some_at l hmt
          have hpl := dict_out HV.out hy
          simp only at hpl
          have HY := Lib.hid hy
          obtain ⟨bD', oD', hA', hb0, hc⟩ := (HRT.out _ HB.out) (by omega)
          injection hA' with hA'
          injection hA' with e1 e2 e3
          subst e1 e2
          clear e3
          obtain ⟨ap, cp, cD1, cD2, r2, hcp, hcpm⟩ := DictR.at_ hc hy
          obtain ⟨bp, op, rfl, hbp, -⟩ := r2.2 (by omega)
          have HR2 := Lib.hid (show ∀ W', Below (w.heap.size + 1) W1 W' → Reads W' w.heap.size 1 (some ⟨bp, op, none⟩) p.length (ints p) from fun W' hb' => r2.keep (fun x hx => (hb'.cell (p := x) (by omega)).trans (HB.out.cell (p := x) (by omega)).symm))
          have i0 : (0 : Int) ≤ (m : Int) := by omega
          have i1 : (m : Int) < (l.length : Int) := by omega
          obtain ⟨wb, hwb⟩ : ∃ wb, wb = wr.alloc (.cells #[.slice (some ⟨bp, op, none⟩) p.length cp, .string q] 50) := ⟨_, rfl⟩
          obtain ⟨gb, hgb⟩ : ∃ gb, gb = wr.heap.size := ⟨_, rfl⟩
          have bb : Below wr.heap.size wr wb := by rw [hwb]; exact (Below.refl _ _).alloc (Nat.le_refl _) _
          have TB := Lib.hid (show Two wb gb 50 (.slice (some ⟨bp, op, none⟩) p.length cp) (.string q) by rw [hwb, hgb]; exact Two.new wr _ _ _)
          have TA3 := Lib.hid (TA.out.far bb)
          have HS3 := Lib.hid (HS.out.far bb hBr)
          have RS3 := Lib.hid (RS.out.far bb hBr)
          have HB3 := Lib.hid (HB.out.trans (bb.mono hBr))
          have hB3 := Nat.le_trans hBr bb.size
          have ca := TA3.out.cell0
          have cb := TB.out.cell0
          have HWB := Lib.hid hwb
          have HGB := Lib.hid hgb
          clear hy hc r2 hb0 hbp hwb hgb bb HS RS HB TA
          by_cases hlen : o.length < p.length
          · have l9 : (o.length : Int) < (p.length : Int) := by omega
            go_upto_region 8 with fail
            rw [← HWB.out, ← HGB.out]
            clear HWB HGB cD1 cD2 i0 i1
            go_wp2_with fail
            refine (impl_startsWith (some ⟨bp, op, none⟩) ao cp co p o _ ((HR2.out _ HB3.out).more (by omega)) (HR1.out _ HB3.out) (by omega) (by omega) hcp hcpm).mono ?_
            rintro e w4 ⟨rfl, b4⟩
            cases hbg : beginsB p o with
            | false =>
              have HS4 := Lib.hid (HS3.out.far b4 hB3)
              have RS4 := Lib.hid (RS3.out.far b4 hB3)
              have HB4 := Lib.hid (HB3.out.trans (b4.mono hB3))
              have TA4 := Lib.hid (TA3.out.far b4)
              have HNO := Lib.hid (show ¬ (o.length < p.length ∧ beginsB p o = true) by rintro ⟨-, h1⟩; rw [hbg] at h1; cases h1)
              clear hbg ca cb b4
              go_wp2
              go_roundw
              case rel => exact ⟨m + 1, O, by omega, by go_num, HS4.out, RS4.out, winv_weaken HI.out (fun r a h => pairQ_miss HX.out HY.out HNO.out h), by omega, HB4.out, TA4.out⟩
              case measure => simp [intOf]; omega
            | true =>
              have hst := pair_start HX.out HY.out hlen hbg
              simp only at hst
              obtain ⟨ys, hys⟩ : ∃ ys, ys = p.drop o.length := ⟨_, rfl⟩
              have hyl : ys.length = p.length - o.length := by rw [hys, List.length_drop]
              rw [← hys] at hst
              have HST := Lib.hid hst
              have HYS := Lib.hid hys
              have HS4 := Lib.hid (HS3.out.far b4 hB3)
              have RS4 := Lib.hid (RS3.out.far b4 hB3)
              have HB4 := Lib.hid (HB3.out.trans (b4.mono hB3))
              have TA4 := Lib.hid (TA3.out.far b4)
              have TB4 := Lib.hid (TB.out.far b4)
              have hB4 := Nat.le_trans hB3 b4.size
              have x0 : w4.drew.cell? ⟨gb, 0, none⟩ = some (.slice (some ⟨bp, op, none⟩) p.length cp) := TB4.out.cell0
              have x1 : w4.drew.cell? ⟨ga, 0, none⟩ = some (.slice ao o.length co) := TA4.out.cell0
              have l0 : (0 : Int) ≤ (o.length : Int) := by omega
              have l1 : (o.length : Int) ≤ (p.length : Int) := by omega
              have hne : ¬ cp = o.length := by omega
              clear hst hys hbg ca cb b4
              go_wp2
              first | refine wp_region_noPanic ?_ | skip
              refine wp_region_held_drew (S := fun w' => w'.cell? ⟨gb, 0, none⟩ = some (.slice (some ⟨bp, op, none⟩) p.length cp) ∧ w'.cell? ⟨ga, 0, none⟩ = some (.slice ao o.length co)) (by kernel_rfl) (by exact ⟨x0, x1⟩) (fun hHeld => ?_)
              (refine wpAnyH_take (i := 0) (v := ?_) rfl (by kernel_rfl) (by kernel_rfl) (by kernel_rfl) (fun _ _ _ h => h) (Or.inl ⟨by rfl, ?_⟩) (by assumption) ?_; rotate_left; focus (intro w hSw; (try dsimp only at hSw); go_simp; try with_reducible rfl))
              (try simp only [List.getElem_toArray, List.getElem_cons_succ, List.getElem_cons_zero, Act.put, List.setIfInBounds_toArray, List.set_cons_zero, List.set_cons_succ])
              (refine wpAnyH_take (i := 1) (v := ?_) rfl (by kernel_rfl) (by kernel_rfl) (by kernel_rfl) (fun _ _ _ h => h) (Or.inl ⟨by rfl, ?_⟩) (by assumption) ?_; rotate_left; focus (intro w hSw; (try dsimp only at hSw); go_simp; try with_reducible rfl))
              (try simp only [List.getElem_toArray, List.getElem_cons_succ, List.getElem_cons_zero, Act.put, List.setIfInBounds_toArray, List.set_cons_zero, List.set_cons_succ])
              (refine wpAnyH_take (i := 2) (v := ?_) rfl (by kernel_rfl) (by kernel_rfl) (by kernel_rfl) (fun _ _ _ h => h) (Or.inl ⟨by rfl, ?_⟩) (by assumption) ?_; rotate_left; focus (intro w hSw; (try dsimp only at hSw); go_simp; try with_reducible rfl))
              (try simp only [List.getElem_toArray, List.getElem_cons_succ, List.getElem_cons_zero, Act.put, List.setIfInBounds_toArray, List.set_cons_zero, List.set_cons_succ])
              (refine wpAnyH_take (i := 3) (v := ?_) rfl (by kernel_rfl) (by kernel_rfl) (by kernel_rfl) (fun _ _ _ h => h) (Or.inl ⟨by rfl, ?_⟩) (by assumption) ?_; rotate_left; focus (intro w hSw; (try dsimp only at hSw); go_simp; try with_reducible rfl))
              (try simp only [List.getElem_toArray, List.getElem_cons_succ, List.getElem_cons_zero, Act.put, List.setIfInBounds_toArray, List.set_cons_zero, List.set_cons_succ])
              (refine wpAnyH_take (i := 4) (v := ?_) rfl (by kernel_rfl) (by kernel_rfl) (by kernel_rfl) (fun _ _ _ h => h) (Or.inl ⟨by rfl, ?_⟩) (by assumption) ?_; rotate_left; focus (intro w hSw; (try dsimp only at hSw); go_simp; try with_reducible rfl))
              (try simp only [List.getElem_toArray, List.getElem_cons_succ, List.getElem_cons_zero, Act.put, List.setIfInBounds_toArray, List.set_cons_zero, List.set_cons_succ])
              (refine wpAnyH_take (i := 5) (v := ?_) rfl (by kernel_rfl) (by kernel_rfl) (by kernel_rfl) (fun _ _ _ h => h) (Or.inl ⟨by rfl, ?_⟩) (by assumption) ?_; rotate_left; focus (intro w hSw; (try dsimp only at hSw); go_simp; try with_reducible rfl))
              (try simp only [List.getElem_toArray, List.getElem_cons_succ, List.getElem_cons_zero, Act.put, List.setIfInBounds_toArray, List.set_cons_zero, List.set_cons_succ])
              (refine wpAnyH_take (i := 6) (v := ?_) rfl (by kernel_rfl) (by kernel_rfl) (by kernel_rfl) (fun _ _ _ h => h) (Or.inl ⟨by rfl, ?_⟩) (by assumption) ?_; rotate_left; focus (intro w hSw; (try dsimp only at hSw); go_simp; try with_reducible rfl))
              (try simp only [List.getElem_toArray, List.getElem_cons_succ, List.getElem_cons_zero, Act.put, List.setIfInBounds_toArray, List.set_cons_zero, List.set_cons_succ])
              (refine wpAnyH_take (i := 7) (v := ?_) rfl (by kernel_rfl) (by kernel_rfl) (by kernel_rfl) (fun _ _ _ h => h) (Or.inl ⟨by rfl, ?_⟩) (by assumption) ?_; rotate_left; focus (intro w hSw; (try dsimp only at hSw); go_simp; try with_reducible rfl))
              (try simp only [List.getElem_toArray, List.getElem_cons_succ, List.getElem_cons_zero, Act.put, List.setIfInBounds_toArray, List.set_cons_zero, List.set_cons_succ])
              (refine wpAnyH_take (i := 8) (v := ?_) rfl (by kernel_rfl) (by kernel_rfl) (by kernel_rfl) (fun _ _ _ h => h) (Or.inl ⟨by rfl, ?_⟩) (by assumption) ?_; rotate_left; focus (intro w hSw; (try dsimp only at hSw); go_simp; try with_reducible rfl))
              (try simp only [List.getElem_toArray, List.getElem_cons_succ, List.getElem_cons_zero, Act.put, List.setIfInBounds_toArray, List.set_cons_zero, List.set_cons_succ])
              (refine wpAnyH_take (i := 9) (v := ?_) rfl (by kernel_rfl) (by kernel_rfl) (by kernel_rfl) (fun _ _ _ h => h) (Or.inl ⟨by rfl, ?_⟩) (by assumption) ?_; rotate_left; focus (intro w hSw; (try dsimp only at hSw); go_simp; try with_reducible rfl))
              (try simp only [List.getElem_toArray, List.getElem_cons_succ, List.getElem_cons_zero, Act.put, List.setIfInBounds_toArray, List.set_cons_zero, List.set_cons_succ])
              refine wpAnyH_ready (rs := [10]) (by kernel_rfl) (by simp) ?_
              refine AllReadyH.cons rfl (fun K hK => ?_) AllReadyH.nil
              go_simp
              rw [← hyl]
              obtain ⟨w5, hw5⟩ : ∃ w5, w5 = (w4.alloc (.cells #[.slice (some ⟨bp, op, none⟩) p.length cp, .slice (some ⟨bp, op + o.length, none⟩) ys.length (cp - o.length)] 96)).drew := ⟨_, rfl⟩
              have nw : ∀ j u, [Value.slice (some ⟨bp, op, none⟩) p.length cp, Value.slice (some ⟨bp, op + o.length, none⟩) ys.length (cp - o.length)][j]? = some u → w5.cell? ⟨w4.heap.size, j, none⟩ = some u := fun j u hj => by rw [hw5]; exact new_here hj
              have b5 : Below w4.heap.size w4 w5 := by rw [hw5]; exact ((Below.refl _ _).alloc (Nat.le_refl _) _).drew
              rw [← hw5]
              clear hw5
              have hB5 := Nat.le_trans hB4 b5.size
              have T5 := Lib.hid (TA4.out.far b5)
              have TB5 := Lib.hid (TB4.out.far b5)
              refine hK.out _ _ (⟨TB5.out.cell0, T5.out.cell0⟩) (fun hHeld => ?_)
              clear hK K
              (try simp only [List.getElem_toArray, List.getElem_cons_succ, List.getElem_cons_zero, Act.put, List.setIfInBounds_toArray, List.set_cons_zero, List.set_cons_succ])
              refine wpAnyH_ready (rs := [11]) (by kernel_rfl) (by simp) ?_
              refine AllReadyH.cons rfl (fun K hK => ?_) AllReadyH.nil
              obtain ⟨cs, hc1, hc2, hc3⟩ := HS4.out.far b5 hB4
              have HC1 := Lib.hid hc1
              have HC3 := Lib.hid hc3
              refine step_append_own hc2 hB5 (.tmp 48) (.tmp 58) 94 Tryz.underlying94 info_wit (by omega) (by unfold maxLen; omega) nw (fun y hy => by simp only [List.mem_cons, List.not_mem_nil, or_false] at hy; rcases hy with rfl | rfl <;> rfl) ⟨rfl, rfl, rfl, rfl, rfl, rfl, by decide⟩ ?_
              intro v6 w6 own6 gr6 _
              have T6 := Lib.hid (T5.out.grown gr6 (T5.out.ne_own hc2 (by decide)))
              have TB6 := Lib.hid (TB5.out.grown gr6 (TB5.out.ne_own hc2 (by decide)))
              refine hK.out _ _ (⟨TB6.out.cell0, T6.out.cell0⟩) (fun hHeld => ?_)
              clear hK K
              (try simp only [List.getElem_toArray, List.getElem_cons_succ, List.getElem_cons_zero, Act.put, List.setIfInBounds_toArray, List.set_cons_zero, List.set_cons_succ])
              (refine wpAnyH_take (i := 12) (v := ?_) rfl (by kernel_rfl) (by kernel_rfl) (by kernel_rfl) (fun _ _ _ h => h) (Or.inl ⟨by rfl, ?_⟩) (by assumption) ?_; rotate_left; focus (intro w hSw; (try dsimp only at hSw); go_simp; try with_reducible rfl))
              (try simp only [List.getElem_toArray, List.getElem_cons_succ, List.getElem_cons_zero, Act.put, List.setIfInBounds_toArray, List.set_cons_zero, List.set_cons_succ])
              refine wpAnyH_done (by kernel_rfl) ?_ _
              first | refine NoPanic.normal ?_ | skip
              have k5 := Keep.of_below (e := 3) b5 hB4
              have HR5 := (HR2.out _ (HB4.out.trans (b5.mono hB4)))
              have RP := Lib.hid (show RowP (w.heap.size + 1) w5 (.slice (some ⟨bp, op, none⟩) p.length cp) p from ⟨_, _, rfl, RowT.of_reads (HR5.more (by omega)), hcp, hcpm⟩)
              have RY := Lib.hid (show RowP (w.heap.size + 1) w5 (.slice (some ⟨bp, op + o.length, none⟩) ys.length (cp - o.length)) ys from ⟨_, _, rfl, RowT.of_reads (by rw [hyl, HYS.out, ints_drop]; exact (reads_suffix HR5 (by omega)).more (by omega)), by omega, by omega⟩)
              have HP := Wits.put HC1.out hc2 HC3.out hB5 RP.out RY.out own6 gr6
              have HS6 := Lib.hid HP.1
              have RS6 := Lib.hid ((RS4.out.far b5 hB4).keep HP.2.1 HP.2.2)
              have HB6 := Lib.hid ((HB4.out.trans (b5.mono hB4)).trans HP.2.1.below)
              have HI6 := Lib.hid (winv_put HI.out (.start HST.out) (by simp; omega) (fun r0 a0 h0 => by cases h0))
              clear hHeld x0 x1 HP hc1 hc2 hc3 own6 gr6 nw b5 k5 HR5
              go_wp2
              go_roundw
              case rel => exact ⟨m + 1, _, by omega, by go_num, HS6.out, RS6.out, winv_weaken HI6.out (fun r a h => by rw [HYS.out]; exact pairQ_next HX.out HY.out h), by simp; omega, HB6.out, T6.out⟩
              case measure => simp [intOf]; omega
          · have l9 : ¬ ((o.length : Int) < (p.length : Int)) := by omega
            have HNO := Lib.hid (show ¬ (o.length < p.length ∧ beginsB p o = true) by rintro ⟨h1, -⟩; exact hlen h1)
            go_upto_region 8 with fail
            rw [← HWB.out, ← HGB.out]
            clear HWB HGB cD1 cD2 i0 i1
            go_wp2
            go_roundw
            case rel => exact ⟨m + 1, O, by omega, by go_num, HS3.out, RS3.out, winv_weaken HI.out (fun r a h => pairQ_miss HX.out HY.out HNO.out h), by omega, HB3.out, TA3.out⟩
            case measure => simp [intOf]; omega
        · obtain rfl : m = l.length := by omega
          go_wp2
          go_roundw
          case rel => exact ⟨k + 1, O, by omega, by go_num, HS.out, RS.out, winv_weaken HI.out (fun r a h => pairQ_row h), by omega, HB.out⟩
          case measure => simp [intOf]; omega
    · obtain rfl : k = l.length := by omega
      have HI0 := Lib.hid (winv_weaken HI.out (Q' := Due (outsD l) (fun r a => (r, a) ∈ ([] : List WtD))) (fun r a h => pairQ_start (due_nil (fun r a h => by cases h) h)))
      have hol1 : O.length ≤ 1600 := by omega
      have HS0 := Lib.hid HS.out
      have RS0 := Lib.hid RS.out
      have HB0 := Lib.hid HB.out
      clear HS RS HB HI hol0 hlt
      go_wp2
      go_loopg [4, 5] (281 * 41 + O.length) (fun n u v wr => ∃ (O D : List WtD), n = (281 - D.length) * 41 + O.length ∧ Wits (w.heap.size + 1) wr u O ∧ Rests (w.heap.size + 1) wr v (D.map (·.1)) ∧ WInv (outsD l) D O (Due (outsD l) (fun r a => (r, a) ∈ D)) ∧ O.length ≤ 1600 + 40 * D.length ∧ Below (w.heap.size + 1) W1 wr)
      case atStart => exact ⟨O, [], by simp, HS0.out, RS0.out, HI0.out, by simp; omega, HB0.out⟩
      case round =>
        clear HS0 RS0 HI0 HB0 hol1
        obtain ⟨O, D, rfl, hS, hRS, hI, hol1, hb⟩ := hrel
        obtain ⟨Au, cu, rfl, hcu, hcum⟩ := hS.slice
        obtain ⟨Ad, cd, rfl, -⟩ := hRS.list
        have hdl := hI.size HE.out HSIX.out
        have HI := Lib.hid hI
        have HS := Lib.hid hS
        have RS := Lib.hid hRS
        have HB := Lib.hid hb
        have HLN := Lib.hid (winv_lens hI HE.out HSIX.out)
        have hbz := hb.size
        have hBr : w.heap.size + 1 ≤ wr.heap.size := by omega
        clear hS hRS hI hb
        by_cases hO : 0 < O.length
        · have o9 : (O.length : Int) > 0 := by omega
          go_wp2
          clear o9
          go_loopw [10, 67] (fun kk ii wr => ∃ (i n : Nat), i ≤ O.length ∧ ii = .int .i64 i ∧ kk = .int .i64 n ∧ n < O.length ∧ (∀ (j : Nat) s, j < i → O[j]? = some s → ∀ t, O[n]? = some t → leA t.2 s.2) ∧ Wits (w.heap.size + 1) wr (.slice Au O.length cu) O ∧ Rests (w.heap.size + 1) wr (.slice Ad (D.map (·.1)).length cd) (D.map (·.1)) ∧ Below (w.heap.size + 1) W1 wr) (fun _ ii _ => O.length - (intOf ii).toNat)
          case atStart => exact ⟨0, 0, Nat.zero_le _, rfl, rfl, hO, fun j s h => absurd h (Nat.not_lt_zero _), HS.out, RS.out, HB.out⟩
          case round =>
            clear HS RS HB hBr hbz
            obtain ⟨i, n, hi, rfl, rfl, hnl, hmin, hS, hRS, hb⟩ := hrel
            have HMIN := Lib.hid hmin
            have HS := Lib.hid hS
            have RS := Lib.hid hRS
            have HB := Lib.hid hb
            have hbz := hb.size
            have hBr : w.heap.size + 1 ≤ wr.heap.size := by omega
            obtain ⟨g, cc, hvv, hg0, hgl, -, -, hcell⟩ := hS.open_ (by omega)
            injection hvv with hv1 hv0 hv2
            clear hv0
            subst hv1 hv2
            obtain ⟨⟨rn, an⟩, hsn⟩ := some_at O hnl
            obtain ⟨⟨un1, un2⟩, ⟨⟨An, cn, hun1, rta, hcn, hcnm⟩, ⟨Rn, crn, hun2, rtr, hcrn, hcrnm⟩⟩, y2, y3⟩ := hcell n _ hsn
            simp only at hun1 hun2 y2 y3
            subst hun1 hun2
            have hlnn := HLN.out _ (List.mem_of_getElem? hsn)
            simp only at hlnn rta rtr hcn hcrn
            have n0 : (0 : Int) ≤ (n : Int) := by omega
            have n1 : (n : Int) < (O.length : Int) := by omega
            clear hmin hS hRS hb
            by_cases hlt : i < O.length
            · obtain ⟨⟨ri, ai⟩, hsi⟩ := some_at O hlt
              obtain ⟨⟨ui1, ui2⟩, ⟨⟨Ai, ci, hui1, ita, -, -⟩, ⟨Ri, cri, hui2, itr, -, -⟩⟩, z2, z3⟩ := hcell i _ hsi
              simp only at hui1 hui2 z2 z3
              subst hui1 hui2
              have hlni := HLN.out _ (List.mem_of_getElem? hsi)
              simp only at hlni ita itr
              have i0 : (0 : Int) ≤ (i : Int) := by omega
              have i1 : (i : Int) < (O.length : Int) := by omega
              obtain ⟨wa, hwa⟩ : ∃ wa, wa = wr.alloc (.cells #[.slice Ai ai.length ci, .slice Ri ri.length cri] 96) := ⟨_, rfl⟩
              obtain ⟨gw, hgw⟩ : ∃ gw, gw = wr.heap.size := ⟨_, rfl⟩
              have ba : Below wr.heap.size wr wa := by rw [hwa]; exact (Below.refl _ _).alloc (Nat.le_refl _) _
              have TW : Two wa gw 96 (.slice Ai ai.length ci) (.slice Ri ri.length cri) := by rw [hwa, hgw]; exact Two.new wr _ _ _
              have HSa := Lib.hid (HS.out.far ba hBr)
              have RSa := Lib.hid (RS.out.far ba hBr)
              have HBa := Lib.hid (HB.out.trans (ba.mono hBr))
              have hBa := Nat.le_trans hBr ba.size
              have ka := Keep.of_below (e := 3) ba hBr
              obtain ⟨lb, hlb⟩ : ∃ lb, lb = ltA ai an := ⟨_, rfl⟩
              obtain ⟨eb, heb⟩ : ∃ eb, eb = decide (ai = an) := ⟨_, rfl⟩
              have HLB := Lib.hid hlb
              have HEB := Lib.hid heb
              have HLESS := Lib.hid (show Calls Tryz.prog 77 #[.agg #[.slice Ai ai.length ci, .slice Ri ri.length cri], .agg #[.slice An an.length cn, .slice Rn rn.length crn]] wa.drew fun e w' => e = .returned (.bool (ltA ai an)) ∧ Below wa.heap.size wa w' from
                (impl_less Ai An ci cn (.slice Ri ri.length cri) (.slice Rn rn.length crn) ai an wa.drew (ita.keep ka).reads (rta.keep ka).reads (by omega) (by omega) rfl rfl).mono fun e w' ⟨h1, h2⟩ => ⟨h1, ((Below.refl _ _).drew : Below wa.heap.size wa wa.drew).trans h2⟩)
              have HEQ := Lib.hid (show ∀ w', Below wa.heap.size wa w' → Calls Tryz.prog 78 #[.slice Ai ai.length ci, .slice An an.length cn] w' fun e w'' => e = .returned (.bool (decide (ai = an))) ∧ ∃ q, w'' = w'.drewN q from fun w' hb' => by
                have kb := Keep.of_below (e := 3) hb' hBa
                exact impl_Equal Ai An ci cn ai an w' ((ita.keep ka).keep kb).reads ((rta.keep ka).keep kb).reads (by omega) (by omega))
              have HMI := Lib.hid (show ltA ai an = true → ∀ (j : Nat) s, j < i + 1 → O[j]? = some s → ∀ t, O[i]? = some t → leA t.2 s.2 from fun h j s hj hs t ht => by
                rw [hsi] at ht
                cases ht
                by_cases e : j = i
                · subst e
                  rw [hsi] at hs
                  cases hs
                  exact leA_refl _
                · exact leA_trans (ltA_true h) (HMIN.out j s (by omega) hs _ hsn))
              have HME := Lib.hid (show decide (ai = an) = true → ∀ (j : Nat) s, j < i + 1 → O[j]? = some s → ∀ t, O[i]? = some t → leA t.2 s.2 from fun h j s hj hs t ht => by
                have h := of_decide_eq_true h
                rw [hsi] at ht
                cases ht
                by_cases e : j = i
                · subst e
                  rw [hsi] at hs
                  cases hs
                  exact leA_refl _
                · simp only; rw [h]; exact HMIN.out j s (by omega) hs _ hsn)
              have HMN := Lib.hid (show ltA ai an = false → ∀ (j : Nat) s, j < i + 1 → O[j]? = some s → ∀ t, O[n]? = some t → leA t.2 s.2 from fun h j s hj hs t ht => by
                by_cases e : j = i
                · subst e
                  rw [hsi] at hs
                  cases hs
                  rw [hsn] at ht
                  cases ht
                  exact ltA_false h
                · exact HMIN.out j s (by omega) hs t ht)
              have hg1 := TW.lt
              have hg2 : g < wa.heap.size := Nat.lt_of_lt_of_le hgl ba.size
              have x0 : wa.drew.cell? ⟨gw, 0, none⟩ = some (.slice Ai ai.length ci) := TW.cell0
              have x1 : wa.drew.cell? ⟨gw, 1, none⟩ = some (.slice Ri ri.length cri) := TW.cell1
              have x2 : wa.drew.cell? ⟨g, n * 2, none⟩ = some (.slice An an.length cn) := (ba.cell (p := ⟨g, n * 2, none⟩) hgl).trans y2
              have x3 : wa.drew.cell? ⟨g, n * 2 + 1, none⟩ = some (.slice Rn rn.length crn) := (ba.cell (p := ⟨g, n * 2 + 1, none⟩) hgl).trans y3
              have HWA := Lib.hid hwa
              have HGW := Lib.hid hgw
              clear hsi hsn hcell ita itr rta rtr hlb heb ka ba TW hwa hgw y2 y3
              go_upto_region 17 with fail
              rw [← HWA.out, ← HGW.out]
              clear HWA HGW z2 z3 i0 i1
              cases lb with
              | true =>
                first | refine wp_region_noPanic ?_ | skip
                refine wp_region_held_drew (S := fun w' => w'.cell? ⟨gw, 0, none⟩ = some (.slice Ai ai.length ci) ∧ w'.cell? ⟨gw, 1, none⟩ = some (.slice Ri ri.length cri) ∧ w'.cell? ⟨g, n * 2, none⟩ = some (.slice An an.length cn) ∧ w'.cell? ⟨g, n * 2 + 1, none⟩ = some (.slice Rn rn.length crn)) (by kernel_rfl) (by exact ⟨x0, x1, x2, x3⟩) (fun hHeld => ?_)
                (refine wpAnyH_take (i := 0) (v := ?_) rfl (by kernel_rfl) (by kernel_rfl) (by kernel_rfl) (fun _ _ _ h => h) (Or.inl ⟨by rfl, ?_⟩) (by assumption) ?_; rotate_left; focus (intro w hSw; (try dsimp only at hSw); go_simp; try with_reducible rfl))
                (try simp only [List.getElem_toArray, List.getElem_cons_succ, List.getElem_cons_zero, Act.put, List.setIfInBounds_toArray, List.set_cons_zero, List.set_cons_succ])
                (refine wpAnyH_take (i := 1) (v := ?_) rfl (by kernel_rfl) (by kernel_rfl) (by kernel_rfl) (fun _ _ _ h => h) (Or.inl ⟨by rfl, ?_⟩) (by assumption) ?_; rotate_left; focus (intro w hSw; (try dsimp only at hSw); go_simp; try with_reducible rfl))
                (try simp only [List.getElem_toArray, List.getElem_cons_succ, List.getElem_cons_zero, Act.put, List.setIfInBounds_toArray, List.set_cons_zero, List.set_cons_succ])
                (refine wpAnyH_take (i := 2) (v := ?_) rfl (by kernel_rfl) (by kernel_rfl) (by kernel_rfl) (fun _ _ _ h => h) (Or.inl ⟨by rfl, ?_⟩) (by assumption) ?_; rotate_left; focus (intro w hSw; (try dsimp only at hSw); go_simp; try with_reducible rfl))
                (try simp only [List.getElem_toArray, List.getElem_cons_succ, List.getElem_cons_zero, Act.put, List.setIfInBounds_toArray, List.set_cons_zero, List.set_cons_succ])
                (refine wpAnyH_take (i := 3) (v := ?_) rfl (by kernel_rfl) (by kernel_rfl) (by kernel_rfl) (fun _ _ _ h => h) (Or.inl ⟨by rfl, ?_⟩) (by assumption) ?_; rotate_left; focus (intro w hSw; (try dsimp only at hSw); go_simp; try with_reducible rfl))
                (try simp only [List.getElem_toArray, List.getElem_cons_succ, List.getElem_cons_zero, Act.put, List.setIfInBounds_toArray, List.set_cons_zero, List.set_cons_succ])
                (refine wpAnyH_take (i := 4) (v := ?_) rfl (by kernel_rfl) (by kernel_rfl) (by kernel_rfl) (fun _ _ _ h => h) (Or.inl ⟨by rfl, ?_⟩) (by assumption) ?_; rotate_left; focus (intro w hSw; (try dsimp only at hSw); go_simp; try with_reducible rfl))
                (try simp only [List.getElem_toArray, List.getElem_cons_succ, List.getElem_cons_zero, Act.put, List.setIfInBounds_toArray, List.set_cons_zero, List.set_cons_succ])
                refine wpAnyH_ready (rs := [5]) (by kernel_rfl) (by simp) ?_
                refine AllReadyH.cons rfl (fun K hK => ?_) AllReadyH.nil
                go_simp
                refine HLESS.out.mono ?_
                rw [← HLB.out]
                rintro e w5 ⟨rfl, b5⟩
                refine hK.out _ _ (⟨(b5.cell (p := ⟨gw, 0, none⟩) hg1).trans x0, (b5.cell (p := ⟨gw, 1, none⟩) hg1).trans x1, (b5.cell (p := ⟨g, n * 2, none⟩) hg2).trans x2, (b5.cell (p := ⟨g, n * 2 + 1, none⟩) hg2).trans x3⟩) (fun hHeld => ?_)
                clear hK K
                (try simp only [List.getElem_toArray, List.getElem_cons_succ, List.getElem_cons_zero, Act.put, List.setIfInBounds_toArray, List.set_cons_zero, List.set_cons_succ])
                (refine wpAnyH_take (i := 6) (v := ?_) rfl (by kernel_rfl) (by kernel_rfl) (by kernel_rfl) (fun _ _ _ h => h) (Or.inl ⟨by rfl, ?_⟩) (by assumption) ?_; rotate_left; focus (intro w hSw; (try dsimp only at hSw); go_simp; try with_reducible rfl))
                (try simp only [List.getElem_toArray, List.getElem_cons_succ, List.getElem_cons_zero, Act.put, List.setIfInBounds_toArray, List.set_cons_zero, List.set_cons_succ])
                refine wpAnyH_take (i := 7) rfl (by kernel_rfl) (by kernel_rfl) (by kernel_rfl) (fun _ _ _ h => h) (Or.inr ⟨by kernel_rfl, rfl⟩) (by assumption) ?_
                (try simp only [List.getElem_toArray, List.getElem_cons_succ, List.getElem_cons_zero, Act.put, List.setIfInBounds_toArray, List.set_cons_zero, List.set_cons_succ])
                refine wpAnyH_take (i := 8) rfl (by kernel_rfl) (by kernel_rfl) (by kernel_rfl) (fun _ _ _ h => h) (Or.inr ⟨by kernel_rfl, rfl⟩) (by assumption) ?_
                (try simp only [List.getElem_toArray, List.getElem_cons_succ, List.getElem_cons_zero, Act.put, List.setIfInBounds_toArray, List.set_cons_zero, List.set_cons_succ])
                refine wpAnyH_take (i := 9) rfl (by kernel_rfl) (by kernel_rfl) (by kernel_rfl) (fun _ _ _ h => h) (Or.inr ⟨by kernel_rfl, rfl⟩) (by assumption) ?_
                (try simp only [List.getElem_toArray, List.getElem_cons_succ, List.getElem_cons_zero, Act.put, List.setIfInBounds_toArray, List.set_cons_zero, List.set_cons_succ])
                refine wpAnyH_take (i := 10) rfl (by kernel_rfl) (by kernel_rfl) (by kernel_rfl) (fun _ _ _ h => h) (Or.inr ⟨by kernel_rfl, rfl⟩) (by assumption) ?_
                (try simp only [List.getElem_toArray, List.getElem_cons_succ, List.getElem_cons_zero, Act.put, List.setIfInBounds_toArray, List.set_cons_zero, List.set_cons_succ])
                refine wpAnyH_take (i := 11) rfl (by kernel_rfl) (by kernel_rfl) (by kernel_rfl) (fun _ _ _ h => h) (Or.inr ⟨by kernel_rfl, rfl⟩) (by assumption) ?_
                (try simp only [List.getElem_toArray, List.getElem_cons_succ, List.getElem_cons_zero, Act.put, List.setIfInBounds_toArray, List.set_cons_zero, List.set_cons_succ])
                refine wpAnyH_take (i := 12) rfl (by kernel_rfl) (by kernel_rfl) (by kernel_rfl) (fun _ _ _ h => h) (Or.inr ⟨by kernel_rfl, rfl⟩) (by assumption) ?_
                (try simp only [List.getElem_toArray, List.getElem_cons_succ, List.getElem_cons_zero, Act.put, List.setIfInBounds_toArray, List.set_cons_zero, List.set_cons_succ])
                refine wpAnyH_take (i := 13) rfl (by kernel_rfl) (by kernel_rfl) (by kernel_rfl) (fun _ _ _ h => h) (Or.inr ⟨by kernel_rfl, rfl⟩) (by assumption) ?_
                (try simp only [List.getElem_toArray, List.getElem_cons_succ, List.getElem_cons_zero, Act.put, List.setIfInBounds_toArray, List.set_cons_zero, List.set_cons_succ])
                refine wpAnyH_take (i := 14) rfl (by kernel_rfl) (by kernel_rfl) (by kernel_rfl) (fun _ _ _ h => h) (Or.inr ⟨by kernel_rfl, rfl⟩) (by assumption) ?_
                (try simp only [List.getElem_toArray, List.getElem_cons_succ, List.getElem_cons_zero, Act.put, List.setIfInBounds_toArray, List.set_cons_zero, List.set_cons_succ])
                refine wpAnyH_take (i := 15) rfl (by kernel_rfl) (by kernel_rfl) (by kernel_rfl) (fun _ _ _ h => h) (Or.inr ⟨by kernel_rfl, rfl⟩) (by assumption) ?_
                (try simp only [List.getElem_toArray, List.getElem_cons_succ, List.getElem_cons_zero, Act.put, List.setIfInBounds_toArray, List.set_cons_zero, List.set_cons_succ])
                refine wpAnyH_take (i := 16) rfl (by kernel_rfl) (by kernel_rfl) (by kernel_rfl) (fun _ _ _ h => h) (Or.inr ⟨by kernel_rfl, rfl⟩) (by assumption) ?_
                (try simp only [List.getElem_toArray, List.getElem_cons_succ, List.getElem_cons_zero, Act.put, List.setIfInBounds_toArray, List.set_cons_zero, List.set_cons_succ])
                refine wpAnyH_take (i := 17) rfl (by kernel_rfl) (by kernel_rfl) (by kernel_rfl) (fun _ _ _ h => h) (Or.inr ⟨by kernel_rfl, rfl⟩) (by assumption) ?_
                (try simp only [List.getElem_toArray, List.getElem_cons_succ, List.getElem_cons_zero, Act.put, List.setIfInBounds_toArray, List.set_cons_zero, List.set_cons_succ])
                refine wpAnyH_take (i := 18) rfl (by kernel_rfl) (by kernel_rfl) (by kernel_rfl) (fun _ _ _ h => h) (Or.inr ⟨by kernel_rfl, rfl⟩) (by assumption) ?_
                (try simp only [List.getElem_toArray, List.getElem_cons_succ, List.getElem_cons_zero, Act.put, List.setIfInBounds_toArray, List.set_cons_zero, List.set_cons_succ])
                refine wpAnyH_take (i := 19) rfl (by kernel_rfl) (by kernel_rfl) (by kernel_rfl) (fun _ _ _ h => h) (Or.inr ⟨by kernel_rfl, rfl⟩) (by assumption) ?_
                (try simp only [List.getElem_toArray, List.getElem_cons_succ, List.getElem_cons_zero, Act.put, List.setIfInBounds_toArray, List.set_cons_zero, List.set_cons_succ])
                refine wpAnyH_take (i := 20) rfl (by kernel_rfl) (by kernel_rfl) (by kernel_rfl) (fun _ _ _ h => h) (Or.inr ⟨by kernel_rfl, rfl⟩) (by assumption) ?_
                (try simp only [List.getElem_toArray, List.getElem_cons_succ, List.getElem_cons_zero, Act.put, List.setIfInBounds_toArray, List.set_cons_zero, List.set_cons_succ])
                (refine wpAnyH_take (i := 21) (v := ?_) rfl (by kernel_rfl) (by kernel_rfl) (by kernel_rfl) (fun _ _ _ h => h) (Or.inl ⟨by rfl, ?_⟩) (by assumption) ?_; rotate_left; focus (intro w hSw; (try dsimp only at hSw); go_simp; try with_reducible rfl))
                (try simp only [List.getElem_toArray, List.getElem_cons_succ, List.getElem_cons_zero, Act.put, List.setIfInBounds_toArray, List.set_cons_zero, List.set_cons_succ])
                refine wpAnyH_done (by kernel_rfl) ?_ _
                first | refine NoPanic.normal ?_ | skip
                have HSF := Lib.hid (HSa.out.far b5 hBa)
                have RSF := Lib.hid (RSa.out.far b5 hBa)
                have HBF := Lib.hid (HBa.out.trans (b5.mono hBa))
                clear hHeld x0 x1 x2 x3 b5 n0 n1
                go_wp2
                go_roundw
                case rel => first | exact ⟨_, _, _, _, ⟨i + 1, hlt, by go_num, i, rfl, hlt, fun j x y hj hs x2 y2 ht => HMI.out HLB.out.symm j (x, y) hj hs (x2, y2) ht, HSF.out, by simpa using RSF.out, HBF.out⟩, rfl, rfl, rfl, rfl⟩ | exact ⟨i + 1, i, hlt, by go_num, rfl, hlt, fun j s hj hs t ht => HMI.out HLB.out.symm j s hj hs t ht, HSF.out, RSF.out, HBF.out⟩
                case measure => simp [intOf]; omega
              | false =>
                by_cases hri : ri.length = 0
                · have g0 : ((ri.length : Int) == 0) = true := by rw [hri]; rfl
                  clear hri
                  first | refine wp_region_noPanic ?_ | skip
                  refine wp_region_held_drew (S := fun w' => w'.cell? ⟨gw, 0, none⟩ = some (.slice Ai ai.length ci) ∧ w'.cell? ⟨gw, 1, none⟩ = some (.slice Ri ri.length cri) ∧ w'.cell? ⟨g, n * 2, none⟩ = some (.slice An an.length cn) ∧ w'.cell? ⟨g, n * 2 + 1, none⟩ = some (.slice Rn rn.length crn)) (by kernel_rfl) (by exact ⟨x0, x1, x2, x3⟩) (fun hHeld => ?_)
                  (refine wpAnyH_take (i := 0) (v := ?_) rfl (by kernel_rfl) (by kernel_rfl) (by kernel_rfl) (fun _ _ _ h => h) (Or.inl ⟨by rfl, ?_⟩) (by assumption) ?_; rotate_left; focus (intro w hSw; (try dsimp only at hSw); go_simp; try with_reducible rfl))
                  (try simp only [List.getElem_toArray, List.getElem_cons_succ, List.getElem_cons_zero, Act.put, List.setIfInBounds_toArray, List.set_cons_zero, List.set_cons_succ])
                  (refine wpAnyH_take (i := 1) (v := ?_) rfl (by kernel_rfl) (by kernel_rfl) (by kernel_rfl) (fun _ _ _ h => h) (Or.inl ⟨by rfl, ?_⟩) (by assumption) ?_; rotate_left; focus (intro w hSw; (try dsimp only at hSw); go_simp; try with_reducible rfl))
                  (try simp only [List.getElem_toArray, List.getElem_cons_succ, List.getElem_cons_zero, Act.put, List.setIfInBounds_toArray, List.set_cons_zero, List.set_cons_succ])
                  (refine wpAnyH_take (i := 2) (v := ?_) rfl (by kernel_rfl) (by kernel_rfl) (by kernel_rfl) (fun _ _ _ h => h) (Or.inl ⟨by rfl, ?_⟩) (by assumption) ?_; rotate_left; focus (intro w hSw; (try dsimp only at hSw); go_simp; try with_reducible rfl))
                  (try simp only [List.getElem_toArray, List.getElem_cons_succ, List.getElem_cons_zero, Act.put, List.setIfInBounds_toArray, List.set_cons_zero, List.set_cons_succ])
                  (refine wpAnyH_take (i := 3) (v := ?_) rfl (by kernel_rfl) (by kernel_rfl) (by kernel_rfl) (fun _ _ _ h => h) (Or.inl ⟨by rfl, ?_⟩) (by assumption) ?_; rotate_left; focus (intro w hSw; (try dsimp only at hSw); go_simp; try with_reducible rfl))
                  (try simp only [List.getElem_toArray, List.getElem_cons_succ, List.getElem_cons_zero, Act.put, List.setIfInBounds_toArray, List.set_cons_zero, List.set_cons_succ])
                  (refine wpAnyH_take (i := 4) (v := ?_) rfl (by kernel_rfl) (by kernel_rfl) (by kernel_rfl) (fun _ _ _ h => h) (Or.inl ⟨by rfl, ?_⟩) (by assumption) ?_; rotate_left; focus (intro w hSw; (try dsimp only at hSw); go_simp; try with_reducible rfl))
                  (try simp only [List.getElem_toArray, List.getElem_cons_succ, List.getElem_cons_zero, Act.put, List.setIfInBounds_toArray, List.set_cons_zero, List.set_cons_succ])
                  refine wpAnyH_ready (rs := [5]) (by kernel_rfl) (by simp) ?_
                  refine AllReadyH.cons rfl (fun K hK => ?_) AllReadyH.nil
                  go_simp
                  refine HLESS.out.mono ?_
                  rw [← HLB.out]
                  rintro e w5 ⟨rfl, b5⟩
                  refine hK.out _ _ (⟨(b5.cell (p := ⟨gw, 0, none⟩) hg1).trans x0, (b5.cell (p := ⟨gw, 1, none⟩) hg1).trans x1, (b5.cell (p := ⟨g, n * 2, none⟩) hg2).trans x2, (b5.cell (p := ⟨g, n * 2 + 1, none⟩) hg2).trans x3⟩) (fun hHeld => ?_)
                  clear hK K
                  (try simp only [List.getElem_toArray, List.getElem_cons_succ, List.getElem_cons_zero, Act.put, List.setIfInBounds_toArray, List.set_cons_zero, List.set_cons_succ])
                  (refine wpAnyH_take (i := 6) (v := ?_) rfl (by kernel_rfl) (by kernel_rfl) (by kernel_rfl) (fun _ _ _ h => h) (Or.inl ⟨by rfl, ?_⟩) (by assumption) ?_; rotate_left; focus (intro w hSw; (try dsimp only at hSw); go_simp; try with_reducible rfl))
                  (try simp only [List.getElem_toArray, List.getElem_cons_succ, List.getElem_cons_zero, Act.put, List.setIfInBounds_toArray, List.set_cons_zero, List.set_cons_succ])
                  (refine wpAnyH_take (i := 7) (v := ?_) rfl (by kernel_rfl) (by kernel_rfl) (by kernel_rfl) (fun _ _ _ h => h) (Or.inl ⟨by rfl, ?_⟩) (by assumption) ?_; rotate_left; focus (intro w hSw; (try dsimp only at hSw); go_simp; try with_reducible rfl))
                  (try simp only [List.getElem_toArray, List.getElem_cons_succ, List.getElem_cons_zero, Act.put, List.setIfInBounds_toArray, List.set_cons_zero, List.set_cons_succ])
                  (refine wpAnyH_take (i := 8) (v := ?_) rfl (by kernel_rfl) (by kernel_rfl) (by kernel_rfl) (fun _ _ _ h => h) (Or.inl ⟨by rfl, ?_⟩) (by assumption) ?_; rotate_left; focus (intro w hSw; (try dsimp only at hSw); go_simp; try with_reducible rfl))
                  (try simp only [List.getElem_toArray, List.getElem_cons_succ, List.getElem_cons_zero, Act.put, List.setIfInBounds_toArray, List.set_cons_zero, List.set_cons_succ])
                  (refine wpAnyH_take (i := 9) (v := ?_) rfl (by kernel_rfl) (by kernel_rfl) (by kernel_rfl) (fun _ _ _ h => h) (Or.inl ⟨by rfl, ?_⟩) (by assumption) ?_; rotate_left; focus (intro w hSw; (try dsimp only at hSw); go_simp; try with_reducible rfl))
                  (try simp only [List.getElem_toArray, List.getElem_cons_succ, List.getElem_cons_zero, Act.put, List.setIfInBounds_toArray, List.set_cons_zero, List.set_cons_succ])
                  (refine wpAnyH_take (i := 10) (v := ?_) rfl (by kernel_rfl) (by kernel_rfl) (by kernel_rfl) (fun _ _ _ h => h) (Or.inl ⟨by rfl, ?_⟩) (by assumption) ?_; rotate_left; focus (intro w hSw; (try dsimp only at hSw); go_simp; try with_reducible rfl))
                  (try simp only [List.getElem_toArray, List.getElem_cons_succ, List.getElem_cons_zero, Act.put, List.setIfInBounds_toArray, List.set_cons_zero, List.set_cons_succ])
                  (refine wpAnyH_take (i := 11) (v := ?_) rfl (by kernel_rfl) (by kernel_rfl) (by kernel_rfl) (fun _ _ _ h => h) (Or.inl ⟨by rfl, ?_⟩) (by assumption) ?_; rotate_left; focus (intro w hSw; (try dsimp only at hSw); go_simp; try with_reducible rfl))
                  (try simp only [List.getElem_toArray, List.getElem_cons_succ, List.getElem_cons_zero, Act.put, List.setIfInBounds_toArray, List.set_cons_zero, List.set_cons_succ])
                  (refine wpAnyH_take (i := 12) (v := ?_) rfl (by kernel_rfl) (by kernel_rfl) (by kernel_rfl) (fun _ _ _ h => h) (Or.inl ⟨by rfl, ?_⟩) (by assumption) ?_; rotate_left; focus (intro w hSw; (try dsimp only at hSw); go_simp; try with_reducible rfl))
                  (try simp only [List.getElem_toArray, List.getElem_cons_succ, List.getElem_cons_zero, Act.put, List.setIfInBounds_toArray, List.set_cons_zero, List.set_cons_succ])
                  (refine wpAnyH_take (i := 13) (v := ?_) rfl (by kernel_rfl) (by kernel_rfl) (by kernel_rfl) (fun _ _ _ h => h) (Or.inl ⟨by rfl, ?_⟩) (by assumption) ?_; rotate_left; focus (intro w hSw; (try dsimp only at hSw); go_simp; try with_reducible rfl))
                  (try simp only [List.getElem_toArray, List.getElem_cons_succ, List.getElem_cons_zero, Act.put, List.setIfInBounds_toArray, List.set_cons_zero, List.set_cons_succ])
                  (refine wpAnyH_take (i := 14) (v := ?_) rfl (by kernel_rfl) (by kernel_rfl) (by kernel_rfl) (fun _ _ _ h => h) (Or.inl ⟨by rfl, ?_⟩) (by assumption) ?_; rotate_left; focus (intro w hSw; (try dsimp only at hSw); go_simp; try with_reducible rfl))
                  (try simp only [List.getElem_toArray, List.getElem_cons_succ, List.getElem_cons_zero, Act.put, List.setIfInBounds_toArray, List.set_cons_zero, List.set_cons_succ])
                  (refine wpAnyH_take (i := 15) (v := ?_) rfl (by kernel_rfl) (by kernel_rfl) (by kernel_rfl) (fun _ _ _ h => h) (Or.inl ⟨by rfl, ?_⟩) (by assumption) ?_; rotate_left; focus (intro w hSw; (try dsimp only at hSw); go_simp; try with_reducible rfl))
                  (try simp only [List.getElem_toArray, List.getElem_cons_succ, List.getElem_cons_zero, Act.put, List.setIfInBounds_toArray, List.set_cons_zero, List.set_cons_succ])
                  (refine wpAnyH_take (i := 16) (v := ?_) rfl (by kernel_rfl) (by kernel_rfl) (by kernel_rfl) (fun _ _ _ h => h) (Or.inl ⟨by rfl, ?_⟩) (by assumption) ?_; rotate_left; focus (intro w hSw; (try dsimp only at hSw); go_simp; try with_reducible rfl))
                  (try simp only [List.getElem_toArray, List.getElem_cons_succ, List.getElem_cons_zero, Act.put, List.setIfInBounds_toArray, List.set_cons_zero, List.set_cons_succ])
                  (refine wpAnyH_take (i := 17) (v := ?_) rfl (by kernel_rfl) (by kernel_rfl) (by kernel_rfl) (fun _ _ _ h => h) (Or.inl ⟨by rfl, ?_⟩) (by assumption) ?_; rotate_left; focus (intro w hSw; (try dsimp only at hSw); go_simp; try with_reducible rfl))
                  (try simp only [List.getElem_toArray, List.getElem_cons_succ, List.getElem_cons_zero, Act.put, List.setIfInBounds_toArray, List.set_cons_zero, List.set_cons_succ])
                  (refine wpAnyH_take (i := 18) (v := ?_) rfl (by kernel_rfl) (by kernel_rfl) (by kernel_rfl) (fun _ _ _ h => h) (Or.inl ⟨by rfl, ?_⟩) (by assumption) ?_; rotate_left; focus (intro w hSw; (try dsimp only at hSw); go_simp; try with_reducible rfl))
                  (try simp only [List.getElem_toArray, List.getElem_cons_succ, List.getElem_cons_zero, Act.put, List.setIfInBounds_toArray, List.set_cons_zero, List.set_cons_succ])
                  refine wpAnyH_ready (rs := [19]) (by kernel_rfl) (by simp) ?_
                  refine AllReadyH.cons rfl (fun K hK => ?_) AllReadyH.nil
                  go_simp
                  refine (HEQ.out w5 b5).mono ?_
                  rw [← HEB.out]
                  rintro e w6 ⟨rfl, qd, rfl⟩
                  have b6 : Below wa.heap.size wa (w5.drewN qd) := below_drewN b5 qd
                  refine hK.out _ _ (⟨(b6.cell (p := ⟨gw, 0, none⟩) hg1).trans x0, (b6.cell (p := ⟨gw, 1, none⟩) hg1).trans x1, (b6.cell (p := ⟨g, n * 2, none⟩) hg2).trans x2, (b6.cell (p := ⟨g, n * 2 + 1, none⟩) hg2).trans x3⟩) (fun hHeld => ?_)
                  clear hK K
                  (try simp only [List.getElem_toArray, List.getElem_cons_succ, List.getElem_cons_zero, Act.put, List.setIfInBounds_toArray, List.set_cons_zero, List.set_cons_succ])
                  (refine wpAnyH_take (i := 20) (v := ?_) rfl (by kernel_rfl) (by kernel_rfl) (by kernel_rfl) (fun _ _ _ h => h) (Or.inl ⟨by rfl, ?_⟩) (by assumption) ?_; rotate_left; focus (intro w hSw; (try dsimp only at hSw); go_simp; try with_reducible rfl))
                  (try simp only [List.getElem_toArray, List.getElem_cons_succ, List.getElem_cons_zero, Act.put, List.setIfInBounds_toArray, List.set_cons_zero, List.set_cons_succ])
                  (refine wpAnyH_take (i := 21) (v := ?_) rfl (by kernel_rfl) (by kernel_rfl) (by kernel_rfl) (fun _ _ _ h => h) (Or.inl ⟨by rfl, ?_⟩) (by assumption) ?_; rotate_left; focus (intro w hSw; (try dsimp only at hSw); go_simp; try with_reducible rfl))
                  (try simp only [List.getElem_toArray, List.getElem_cons_succ, List.getElem_cons_zero, Act.put, List.setIfInBounds_toArray, List.set_cons_zero, List.set_cons_succ])
                  refine wpAnyH_done (by kernel_rfl) ?_ _
                  first | refine NoPanic.normal ?_ | skip
                  have HSF := Lib.hid (HSa.out.far b6 hBa)
                  have RSF := Lib.hid (RSa.out.far b6 hBa)
                  have HBF := Lib.hid (HBa.out.trans (b6.mono hBa))
                  clear hHeld x0 x1 x2 x3 b5 b6 n0 n1 g0
                  cases eb with
                  | true =>
                    go_wp2
                    go_roundw
                    case rel => first | exact ⟨_, _, _, _, ⟨i + 1, hlt, by go_num, i, rfl, hlt, fun j x y hj hs x2 y2 ht => HME.out HEB.out.symm j (x, y) hj hs (x2, y2) ht, HSF.out, by simpa using RSF.out, HBF.out⟩, rfl, rfl, rfl, rfl⟩ | exact ⟨i + 1, i, hlt, by go_num, rfl, hlt, fun j s hj hs t ht => HME.out HEB.out.symm j s hj hs t ht, HSF.out, RSF.out, HBF.out⟩
                    case measure => simp [intOf]; omega
                  | false =>
                    go_wp2
                    go_roundw
                    case rel => first | exact ⟨_, _, _, _, ⟨i + 1, hlt, by go_num, n, rfl, hnl, fun j x y hj hs x2 y2 ht => HMN.out HLB.out.symm j (x, y) hj hs (x2, y2) ht, HSF.out, by simpa using RSF.out, HBF.out⟩, rfl, rfl, rfl, rfl⟩ | exact ⟨i + 1, n, hlt, by go_num, rfl, hnl, fun j s hj hs t ht => HMN.out HLB.out.symm j s hj hs t ht, HSF.out, RSF.out, HBF.out⟩
                    case measure => simp [intOf]; omega
                · have g0 : ((ri.length : Int) == 0) = false := by rw [beq_eq_false_iff_ne]; omega
                  clear hri
                  first | refine wp_region_noPanic ?_ | skip
                  refine wp_region_held_drew (S := fun w' => w'.cell? ⟨gw, 0, none⟩ = some (.slice Ai ai.length ci) ∧ w'.cell? ⟨gw, 1, none⟩ = some (.slice Ri ri.length cri) ∧ w'.cell? ⟨g, n * 2, none⟩ = some (.slice An an.length cn) ∧ w'.cell? ⟨g, n * 2 + 1, none⟩ = some (.slice Rn rn.length crn)) (by kernel_rfl) (by exact ⟨x0, x1, x2, x3⟩) (fun hHeld => ?_)
                  (refine wpAnyH_take (i := 0) (v := ?_) rfl (by kernel_rfl) (by kernel_rfl) (by kernel_rfl) (fun _ _ _ h => h) (Or.inl ⟨by rfl, ?_⟩) (by assumption) ?_; rotate_left; focus (intro w hSw; (try dsimp only at hSw); go_simp; try with_reducible rfl))
                  (try simp only [List.getElem_toArray, List.getElem_cons_succ, List.getElem_cons_zero, Act.put, List.setIfInBounds_toArray, List.set_cons_zero, List.set_cons_succ])
                  (refine wpAnyH_take (i := 1) (v := ?_) rfl (by kernel_rfl) (by kernel_rfl) (by kernel_rfl) (fun _ _ _ h => h) (Or.inl ⟨by rfl, ?_⟩) (by assumption) ?_; rotate_left; focus (intro w hSw; (try dsimp only at hSw); go_simp; try with_reducible rfl))
                  (try simp only [List.getElem_toArray, List.getElem_cons_succ, List.getElem_cons_zero, Act.put, List.setIfInBounds_toArray, List.set_cons_zero, List.set_cons_succ])
                  (refine wpAnyH_take (i := 2) (v := ?_) rfl (by kernel_rfl) (by kernel_rfl) (by kernel_rfl) (fun _ _ _ h => h) (Or.inl ⟨by rfl, ?_⟩) (by assumption) ?_; rotate_left; focus (intro w hSw; (try dsimp only at hSw); go_simp; try with_reducible rfl))
                  (try simp only [List.getElem_toArray, List.getElem_cons_succ, List.getElem_cons_zero, Act.put, List.setIfInBounds_toArray, List.set_cons_zero, List.set_cons_succ])
                  (refine wpAnyH_take (i := 3) (v := ?_) rfl (by kernel_rfl) (by kernel_rfl) (by kernel_rfl) (fun _ _ _ h => h) (Or.inl ⟨by rfl, ?_⟩) (by assumption) ?_; rotate_left; focus (intro w hSw; (try dsimp only at hSw); go_simp; try with_reducible rfl))
                  (try simp only [List.getElem_toArray, List.getElem_cons_succ, List.getElem_cons_zero, Act.put, List.setIfInBounds_toArray, List.set_cons_zero, List.set_cons_succ])
                  (refine wpAnyH_take (i := 4) (v := ?_) rfl (by kernel_rfl) (by kernel_rfl) (by kernel_rfl) (fun _ _ _ h => h) (Or.inl ⟨by rfl, ?_⟩) (by assumption) ?_; rotate_left; focus (intro w hSw; (try dsimp only at hSw); go_simp; try with_reducible rfl))
                  (try simp only [List.getElem_toArray, List.getElem_cons_succ, List.getElem_cons_zero, Act.put, List.setIfInBounds_toArray, List.set_cons_zero, List.set_cons_succ])
                  refine wpAnyH_ready (rs := [5]) (by kernel_rfl) (by simp) ?_
                  refine AllReadyH.cons rfl (fun K hK => ?_) AllReadyH.nil
                  go_simp
                  refine HLESS.out.mono ?_
                  rw [← HLB.out]
                  rintro e w5 ⟨rfl, b5⟩
                  refine hK.out _ _ (⟨(b5.cell (p := ⟨gw, 0, none⟩) hg1).trans x0, (b5.cell (p := ⟨gw, 1, none⟩) hg1).trans x1, (b5.cell (p := ⟨g, n * 2, none⟩) hg2).trans x2, (b5.cell (p := ⟨g, n * 2 + 1, none⟩) hg2).trans x3⟩) (fun hHeld => ?_)
                  clear hK K
                  (try simp only [List.getElem_toArray, List.getElem_cons_succ, List.getElem_cons_zero, Act.put, List.setIfInBounds_toArray, List.set_cons_zero, List.set_cons_succ])
                  (refine wpAnyH_take (i := 6) (v := ?_) rfl (by kernel_rfl) (by kernel_rfl) (by kernel_rfl) (fun _ _ _ h => h) (Or.inl ⟨by rfl, ?_⟩) (by assumption) ?_; rotate_left; focus (intro w hSw; (try dsimp only at hSw); go_simp; try with_reducible rfl))
                  (try simp only [List.getElem_toArray, List.getElem_cons_succ, List.getElem_cons_zero, Act.put, List.setIfInBounds_toArray, List.set_cons_zero, List.set_cons_succ])
                  (refine wpAnyH_take (i := 7) (v := ?_) rfl (by kernel_rfl) (by kernel_rfl) (by kernel_rfl) (fun _ _ _ h => h) (Or.inl ⟨by rfl, ?_⟩) (by assumption) ?_; rotate_left; focus (intro w hSw; (try dsimp only at hSw); go_simp; try with_reducible rfl))
                  (try simp only [List.getElem_toArray, List.getElem_cons_succ, List.getElem_cons_zero, Act.put, List.setIfInBounds_toArray, List.set_cons_zero, List.set_cons_succ])
                  (refine wpAnyH_take (i := 8) (v := ?_) rfl (by kernel_rfl) (by kernel_rfl) (by kernel_rfl) (fun _ _ _ h => h) (Or.inl ⟨by rfl, ?_⟩) (by assumption) ?_; rotate_left; focus (intro w hSw; (try dsimp only at hSw); go_simp; try with_reducible rfl))
                  (try simp only [List.getElem_toArray, List.getElem_cons_succ, List.getElem_cons_zero, Act.put, List.setIfInBounds_toArray, List.set_cons_zero, List.set_cons_succ])
                  (refine wpAnyH_take (i := 9) (v := ?_) rfl (by kernel_rfl) (by kernel_rfl) (by kernel_rfl) (fun _ _ _ h => h) (Or.inl ⟨by rfl, ?_⟩) (by assumption) ?_; rotate_left; focus (intro w hSw; (try dsimp only at hSw); go_simp; try with_reducible rfl))
                  (try simp only [List.getElem_toArray, List.getElem_cons_succ, List.getElem_cons_zero, Act.put, List.setIfInBounds_toArray, List.set_cons_zero, List.set_cons_succ])
                  (refine wpAnyH_take (i := 10) (v := ?_) rfl (by kernel_rfl) (by kernel_rfl) (by kernel_rfl) (fun _ _ _ h => h) (Or.inl ⟨by rfl, ?_⟩) (by assumption) ?_; rotate_left; focus (intro w hSw; (try dsimp only at hSw); go_simp; try with_reducible rfl))
                  (try simp only [List.getElem_toArray, List.getElem_cons_succ, List.getElem_cons_zero, Act.put, List.setIfInBounds_toArray, List.set_cons_zero, List.set_cons_succ])
                  (refine wpAnyH_take (i := 11) (v := ?_) rfl (by kernel_rfl) (by kernel_rfl) (by kernel_rfl) (fun _ _ _ h => h) (Or.inl ⟨by rfl, ?_⟩) (by assumption) ?_; rotate_left; focus (intro w hSw; (try dsimp only at hSw); go_simp; try with_reducible rfl))
                  (try simp only [List.getElem_toArray, List.getElem_cons_succ, List.getElem_cons_zero, Act.put, List.setIfInBounds_toArray, List.set_cons_zero, List.set_cons_succ])
                  refine wpAnyH_take (i := 12) rfl (by kernel_rfl) (by kernel_rfl) (by kernel_rfl) (fun _ _ _ h => h) (Or.inr ⟨by kernel_rfl, rfl⟩) (by assumption) ?_
                  (try simp only [List.getElem_toArray, List.getElem_cons_succ, List.getElem_cons_zero, Act.put, List.setIfInBounds_toArray, List.set_cons_zero, List.set_cons_succ])
                  refine wpAnyH_take (i := 13) rfl (by kernel_rfl) (by kernel_rfl) (by kernel_rfl) (fun _ _ _ h => h) (Or.inr ⟨by kernel_rfl, rfl⟩) (by assumption) ?_
                  (try simp only [List.getElem_toArray, List.getElem_cons_succ, List.getElem_cons_zero, Act.put, List.setIfInBounds_toArray, List.set_cons_zero, List.set_cons_succ])
                  refine wpAnyH_take (i := 14) rfl (by kernel_rfl) (by kernel_rfl) (by kernel_rfl) (fun _ _ _ h => h) (Or.inr ⟨by kernel_rfl, rfl⟩) (by assumption) ?_
                  (try simp only [List.getElem_toArray, List.getElem_cons_succ, List.getElem_cons_zero, Act.put, List.setIfInBounds_toArray, List.set_cons_zero, List.set_cons_succ])
                  refine wpAnyH_take (i := 15) rfl (by kernel_rfl) (by kernel_rfl) (by kernel_rfl) (fun _ _ _ h => h) (Or.inr ⟨by kernel_rfl, rfl⟩) (by assumption) ?_
                  (try simp only [List.getElem_toArray, List.getElem_cons_succ, List.getElem_cons_zero, Act.put, List.setIfInBounds_toArray, List.set_cons_zero, List.set_cons_succ])
                  refine wpAnyH_take (i := 16) rfl (by kernel_rfl) (by kernel_rfl) (by kernel_rfl) (fun _ _ _ h => h) (Or.inr ⟨by kernel_rfl, rfl⟩) (by assumption) ?_
                  (try simp only [List.getElem_toArray, List.getElem_cons_succ, List.getElem_cons_zero, Act.put, List.setIfInBounds_toArray, List.set_cons_zero, List.set_cons_succ])
                  refine wpAnyH_take (i := 17) rfl (by kernel_rfl) (by kernel_rfl) (by kernel_rfl) (fun _ _ _ h => h) (Or.inr ⟨by kernel_rfl, rfl⟩) (by assumption) ?_
                  (try simp only [List.getElem_toArray, List.getElem_cons_succ, List.getElem_cons_zero, Act.put, List.setIfInBounds_toArray, List.set_cons_zero, List.set_cons_succ])
                  refine wpAnyH_take (i := 18) rfl (by kernel_rfl) (by kernel_rfl) (by kernel_rfl) (fun _ _ _ h => h) (Or.inr ⟨by kernel_rfl, rfl⟩) (by assumption) ?_
                  (try simp only [List.getElem_toArray, List.getElem_cons_succ, List.getElem_cons_zero, Act.put, List.setIfInBounds_toArray, List.set_cons_zero, List.set_cons_succ])
                  refine wpAnyH_take (i := 19) rfl (by kernel_rfl) (by kernel_rfl) (by kernel_rfl) (fun _ _ _ h => h) (Or.inr ⟨by kernel_rfl, rfl⟩) (by assumption) ?_
                  (try simp only [List.getElem_toArray, List.getElem_cons_succ, List.getElem_cons_zero, Act.put, List.setIfInBounds_toArray, List.set_cons_zero, List.set_cons_succ])
                  (refine wpAnyH_take (i := 20) (v := ?_) rfl (by kernel_rfl) (by kernel_rfl) (by kernel_rfl) (fun _ _ _ h => h) (Or.inl ⟨by rfl, ?_⟩) (by assumption) ?_; rotate_left; focus (intro w hSw; (try dsimp only at hSw); go_simp; try with_reducible rfl))
                  (try simp only [List.getElem_toArray, List.getElem_cons_succ, List.getElem_cons_zero, Act.put, List.setIfInBounds_toArray, List.set_cons_zero, List.set_cons_succ])
                  (refine wpAnyH_take (i := 21) (v := ?_) rfl (by kernel_rfl) (by kernel_rfl) (by kernel_rfl) (fun _ _ _ h => h) (Or.inl ⟨by rfl, ?_⟩) (by assumption) ?_; rotate_left; focus (intro w hSw; (try dsimp only at hSw); go_simp; try with_reducible rfl))
                  (try simp only [List.getElem_toArray, List.getElem_cons_succ, List.getElem_cons_zero, Act.put, List.setIfInBounds_toArray, List.set_cons_zero, List.set_cons_succ])
                  refine wpAnyH_done (by kernel_rfl) ?_ _
                  first | refine NoPanic.normal ?_ | skip
                  have HSF := Lib.hid (HSa.out.far b5 hBa)
                  have RSF := Lib.hid (RSa.out.far b5 hBa)
                  have HBF := Lib.hid (HBa.out.trans (b5.mono hBa))
                  clear hHeld x0 x1 x2 x3 b5 n0 n1 g0
                  go_wp2
                  go_roundw
                  case rel => first | exact ⟨_, _, _, _, ⟨i + 1, hlt, by go_num, n, rfl, hnl, fun j x y hj hs x2 y2 ht => HMN.out HLB.out.symm j (x, y) hj hs (x2, y2) ht, HSF.out, by simpa using RSF.out, HBF.out⟩, rfl, rfl, rfl, rfl⟩ | exact ⟨i + 1, n, hlt, by go_num, rfl, hnl, fun j s hj hs t ht => HMN.out HLB.out.symm j s hj hs t ht, HSF.out, RSF.out, HBF.out⟩
                  case measure => simp [intOf]; omega
            · obtain rfl : i = O.length := by omega
              have HMN := Lib.hid (show ∀ s ∈ O, leA an s.2 from fun s hs => by
                obtain ⟨j, hj⟩ := List.mem_iff_getElem?.1 hs
                exact HMIN.out j s (List.getElem?_eq_some_iff.1 hj).1 hj _ hsn)
              have hmem := List.mem_of_getElem? hsn
              have hal := HI.out.lenO _ hmem
              have HRCH := Lib.hid (HI.out.srch.reach _ _ hmem)
              simp only at hal
              have HSN := Lib.hid hsn
              obtain ⟨N, hN⟩ : ∃ N, O.length = N + 1 := ⟨O.length - 1, by omega⟩
              obtain ⟨wa, hwa⟩ : ∃ wa, wa = wr.alloc (.cells #[.slice An an.length cn, .slice Rn rn.length crn] 96) := ⟨_, rfl⟩
              obtain ⟨gw, hgw⟩ : ∃ gw, gw = wr.heap.size := ⟨_, rfl⟩
              have ba : Below wr.heap.size wr wa := by rw [hwa]; exact (Below.refl _ _).alloc (Nat.le_refl _) _
              have TW : Two wa gw 96 (.slice An an.length cn) (.slice Rn rn.length crn) := by rw [hwa, hgw]; exact Two.new wr _ _ _
              have hBa := Nat.le_trans hBr ba.size
              have ka := Keep.of_below (e := 3) ba hBr
              obtain ⟨cs, hc1, hc2, hc3⟩ := HS.out.far ba hBr
              have hone := wits_one hc1 hc3
              have HC2 := Lib.hid hc2
              rw [hN] at hc2
              have HDEL := Lib.hid (slices_Delete_wit (w.heap.size + 1) g cu N n (flat2 cs) wa hc2 (by omega) (by omega) hone)
              have HC1 := Lib.hid hc1
              have HC3 := Lib.hid hc3
              have TWA := Lib.hid TW
              have RSa := Lib.hid (RS.out.far ba hBr)
              have HBa := Lib.hid (HB.out.trans (ba.mono hBr))
              have RPA := Lib.hid (show RowP (w.heap.size + 1) wa (.slice An an.length cn) an from ⟨_, _, rfl, rta.keep ka, hcn, hcnm⟩)
              have RPR := Lib.hid (show RowP (w.heap.size + 1) wa (.slice Rn rn.length crn) rn from ⟨_, _, rfl, rtr.keep ka, hcrn, hcrnm⟩)
              have HWA := Lib.hid hwa
              have HGW := Lib.hid hgw
              have hgwg : g < gw := by omega
              have n2 : IntKind.i64.wrap ((n : Int) + 1) = (n : Int) + 1 := IntWalk.i64_in _ (by omega)
              have HN := Lib.hid hN
              clear hmem hsn hcell ba TW hc1 hc2 hc3 hone hwa hgw rta rtr ka HS RS HB hN
              go_upto_region 21 with fail
              rw [← HWA.out, ← HGW.out]
              clear HWA HGW y2 y3 n1
              go_wp2_with fail
              rw [HN.out]
              refine HDEL.out.mono ?_
              rintro e w5 ⟨rfl, own5, o5⟩
              have kp : Keep 3 (w.heap.size + 1) wa w5 := keep_only HC2.out o5 (by decide)
              have kr : Keep 26 (w.heap.size + 1) wa w5 := keep_only HC2.out o5 (by decide)
              have HS5 := Lib.hid (show Wits (w.heap.size + 1) w5 (.slice (some ⟨g, 0, none⟩) N cu) (without O n) from wits_cut HC1.out HC3.out hnl (by rw [show O.length - 1 = N by have := HN.out; omega]; exact own5) kp)
              have RS5 := Lib.hid (RSa.out.keep kp kr)
              have HB5 := Lib.hid (HBa.out.trans kp.below)
              have TW5 := Lib.hid (TWA.out.only o5 (.inr (by omega)))
              have RPA5 := Lib.hid (RPA.out.keep kp)
              have RPR5 := Lib.hid (RPR.out.keep kp)
              have hB5 := Nat.le_trans hBa o5.size
              have hln5 := without_len hnl
              have hNl : O.length = N + 1 := HN.out
              have cw1 := TW5.out.cell1
              have cw0 := TW5.out.cell0
              clear HDEL HC1 HC2 HC3 TWA RSa HBa RPA RPR own5 o5 kp kr n0 n2
              by_cases hr0 : rn = []
              · have g0 : ((rn.length : Int) == 0) = true := by rw [hr0]; rfl
                have HR := Lib.hid (search_found HI.out.srch (a := an) (by have := List.mem_of_getElem? HSN.out; rw [hr0] at this; exact this) (fun r x h => HMN.out (r, x) h))
                have HA := Lib.hid (ambD_eq HR.out (by omega))
                obtain ⟨-, rda, -, -, -⟩ := RPA5.out.reads'
                have HRD := Lib.hid rda
                clear hr0 hNl hln5 rda
                go_wp2_with fail
                refine (impl_copyOfW An cn an _ HRD.out (by omega)).mono ?_
                rintro e w6 ⟨v6, rfl, o6, b6⟩
                have bF := HBW.out _ (HB5.out.trans (b6.mono hB5))
                have O6 := Lib.hid o6
                clear o6 b6
                go_wp2
                go_ret2
                refine ⟨v6, ?_, ?_, ?_, bF⟩
                · rw [HA.out, show decide (0 < an.length) = true from decide_eq_true hlnn.2.2]
                  try rfl
                · rw [HA.out]; exact Own.of_row (O6.out.base (by omega))
                · rw [HA.out]; exact HR.out
              · have hr1 := List.length_pos_iff.2 hr0
                have g0 : ((rn.length : Int) == 0) = false := by rw [beq_eq_false_iff_ne]; omega
                obtain ⟨Ax, cx, hvx, hlr⟩ := RS5.out.list
                injection hvx with hx1 hx0 hx2
                clear hx0
                subst hx1 hx2
                obtain ⟨-, rdr, -, -, -⟩ := RPR5.out.reads'
                have HCT := Lib.hid (ContainsFunc_rows Ad Rn cd crn gw (D.map (·.1)) rn (.slice An an.length cn) w5 hlr rdr TW5.out (by omega) (by simp; omega) (fun x hx => by
                  obtain ⟨s, hs, rfl⟩ := List.mem_map.1 hx
                  have := rest_len HSIX.out (HI.out.reach s hs)
                  omega))
                simp only [List.length_map] at HCT
                have hmf : ∀ (fn : Fn) (first cap : Array Value) (w : World), (Instr.makeFunc fn first cap).run Tryz.prog w = .ok (.func fn first cap) w := fun _ _ _ _ => rfl
                have HR0 := Lib.hid hr0
                clear hlr rdr hr0
                go_wp2_with fail
                refine HCT.out.mono ?_
                rintro e w6 ⟨rfl, qd, rfl⟩
                clear HCT g0
                have HSq := Lib.hid (HS5.out.far (below_drewN (Below.refl w5.heap.size w5) qd) hB5)
                have RSq := Lib.hid (RS5.out.far (below_drewN (Below.refl w5.heap.size w5) qd) hB5)
                have HBq := Lib.hid (HB5.out.trans ((below_drewN (Below.refl w5.heap.size w5) qd).mono hB5))
                have TWq := Lib.hid (TW5.out.far (below_drewN (Below.refl w5.heap.size w5) qd))
                have RPAq := Lib.hid (RPA5.out.keep (Keep.of_below (below_drewN (Below.refl w5.heap.size w5) qd) hB5))
                have RPRq := Lib.hid (RPR5.out.keep (Keep.of_below (below_drewN (Below.refl w5.heap.size w5) qd) hB5))
                have hBq : w.heap.size + 1 ≤ (w5.drewN qd).heap.size := hB5
                have cq1 := TWq.out.cell1
                clear cw0 cw1 HS5 RS5 HB5 TW5 RPA5 RPR5 hmf
                obtain ⟨wq, hwq⟩ : ∃ wq, wq = w5.drewN qd := ⟨_, rfl⟩
                rw [← hwq] at HSq RSq HBq TWq RPAq RPRq hBq cq1 ⊢
                clear hwq
                by_cases hmem : rn ∈ D.map (·.1)
                · rw [show decide (rn ∈ D.map (·.1)) = true from decide_eq_true hmem]
                  have HIS := Lib.hid (winv_skip HI.out HSN.out (by
                    obtain ⟨s, hs, e⟩ := List.mem_map.1 hmem
                    exact ⟨s.2, by rw [← e]; exact hs⟩))
                  clear hmem cq1
                  go_wp2
                  go_roundg ((281 - D.length) * 41 + (O.length - 1))
                  case measure => omega
                  case rel => exact ⟨without O n, D, by rw [hln5], HSq.out, by simpa using RSq.out, HIS.out, by omega, HBq.out⟩
                · rw [show decide (rn ∈ D.map (·.1)) = false from decide_eq_false hmem]
                  obtain ⟨hwd, hle⟩ := winv_done HI.out HSN.out HR0.out (fun d hd => hmem (List.mem_map.2 ⟨_, hd, rfl⟩)) HMN.out
                  have HWD := Lib.hid hwd
                  have HLE := Lib.hid hle
                  have hd2 := hwd.size HE.out HSIX.out
                  obtain ⟨vs, hd1, hdo, hd3⟩ := RSq.out
                  have HD1 := Lib.hid hd1
                  have HD3 := Lib.hid hd3
                  have hml : (D.map (·.1)).length = D.length := by simp
                  rw [hml] at hdo
                  clear hmem hwd hle hd1 hd3
                  have HDO := Lib.hid hdo
                  go_wp2_with (at_builtin; refine wpList_append_at (ys := [.slice Rn rn.length crn]) hdo hBq (.tmp 115) (.tmp 118) 41 Tryz.underlying41 info_rowW (by omega) (by unfold maxLen; omega) ⟨rfl, rfl, rfl, rfl, (fun y hy => by rw [List.mem_singleton] at hy; rw [hy]; rfl), rfl, rfl, by decide⟩ rfl ?_; intro v7 w7 own7 gr7 at7; have HP7 := Rests.put HD1.out (by rw [hml]; exact HDO.out) HD3.out hBq RPRq.out (by rw [hml]; exact own7) gr7; have HB7 := Lib.hid (HBq.out.trans HP7.2.1.below); have cP7 := HBX.out _ HB7.out)
                  have RS7 := Lib.hid (show Rests (w.heap.size + 1) w7 v7 ((D ++ [(rn, an)]).map (·.1)) by rw [List.map_append]; exact HP7.1)
                  have HS7 := Lib.hid (HSq.out.keep HP7.2.1 HP7.2.2)
                  have TW7 := Lib.hid (TWq.out.grown gr7 (TWq.out.ne_own HDO.out (by decide)))
                  have RPA7 := Lib.hid (RPAq.out.keep HP7.2.1)
                  have RPR7 := Lib.hid (RPRq.out.keep HP7.2.1)
                  have hdl2 : (D ++ [(rn, an)]).length = D.length + 1 := by simp
                  obtain ⟨D2, hD2⟩ : ∃ D2, D2 = D ++ [(rn, an)] := ⟨_, rfl⟩
                  rw [← hD2] at RS7 HWD HLE hd2 hdl2
                  have HD2 := Lib.hid hD2
                  clear HP7 hdo own7 gr7 at7 cq1 HD1 HD3 HDO HSq RSq HBq TWq RPAq RPRq hml cP7 hD2
                  go_loopw [4, 123] (fun u j wr => ∃ (k : Nat) (O2 : List WtD), k ≤ l.length ∧ j = .int .i64 k ∧ Wits (w.heap.size + 1) wr u O2 ∧ u.ownBlock ≠ some gw ∧ Rests (w.heap.size + 1) wr v7 (D2.map (·.1)) ∧ WInv (outsD l) D2 O2 (fun r a => Due (outsD l) (fun r a => (r, a) ∈ D) r a ∨ StepQ l k rn an r a) ∧ O2.length ≤ N + k ∧ Below (w.heap.size + 1) W1 wr ∧ Two wr gw 96 (.slice An an.length cn) (.slice Rn rn.length crn) ∧ RowP (w.heap.size + 1) wr (.slice An an.length cn) an ∧ RowP (w.heap.size + 1) wr (.slice Rn rn.length crn) rn) (fun _ j _ => l.length - (intOf j).toNat)
                  case atStart => exact ⟨0, without O n, Nat.zero_le _, rfl, HS7.out, (fun h => by simp [Value.ownBlock] at h; omega), RS7.out, winv_weaken HWD.out (fun r a h => h.resolve_right stepQ_zero), by omega, HB7.out, TW7.out, RPA7.out, RPR7.out⟩
                  case round =>
                    clear HS7 RS7 HWD HB7 TW7 RPA7 RPR7
                    obtain ⟨k, O2, hk, rfl, hS, hub, hRS, hI2, hO2, hb, hTW, hRA, hRR⟩ := hrel
                    have HS := Lib.hid hS
                    have HUB := Lib.hid hub
                    have RS := Lib.hid hRS
                    have II := Lib.hid hI2
                    have HB := Lib.hid hb
                    have TW := Lib.hid hTW
                    have RA := Lib.hid hRA
                    have RR := Lib.hid hRR
                    have hbz := hb.size
                    have hBr : w.heap.size + 1 ≤ wr.heap.size := by omega
                    clear hS hub hRS hI2 hb hTW hRA hRR
                    by_cases hlt : k < l.length
                    · obtain ⟨⟨o, t⟩, hx⟩ := some_at l hlt
                      have hol := dict_out HV.out hx
                      simp only at hol
                      have HX := Lib.hid hx
                      obtain ⟨bD, oD, hA, hb0, hc⟩ := (HRT.out _ HB.out) (by omega)
                      obtain ⟨ao, co, cD1, cD2, r1, hco, hcom⟩ := DictR.at_ hc hx
                      have i0 : (0 : Int) ≤ (k : Int) := by omega
                      have i1 : (k : Int) < (l.length : Int) := by omega
                      obtain ⟨wa, hwa⟩ : ∃ wa, wa = wr.alloc (.cells #[.slice ao o.length co, .string t] 50) := ⟨_, rfl⟩
                      obtain ⟨ge, hge⟩ : ∃ ge, ge = wr.heap.size := ⟨_, rfl⟩
                      have ba : Below wr.heap.size wr wa := by rw [hwa]; exact (Below.refl _ _).alloc (Nat.le_refl _) _
                      have TE : Two wa ge 50 (.slice ao o.length co) (.string t) := by rw [hwa, hge]; exact Two.new wr _ _ _
                      have ka := Keep.of_below (e := 3) ba hBr
                      have hBa := Nat.le_trans hBr ba.size
                      have HSa := Lib.hid (HS.out.far ba hBr)
                      have RSa := Lib.hid (RS.out.far ba hBr)
                      have HBa := Lib.hid (HB.out.trans (ba.mono hBr))
                      have TWa := Lib.hid (TW.out.far ba)
                      have RAa := Lib.hid (RA.out.keep ka)
                      have RRa := Lib.hid (RR.out.keep ka)
                      obtain ⟨-, -, rta, hcn1, hcn2⟩ := RAa.out.reads'
                      obtain ⟨-, -, rtr, hcr1, hcr2⟩ := RRa.out.reads'
                      have HST := Lib.hid (impl_step (w.heap.size + 1) An Rn ao cn crn co o rn an wa hBa rta rtr ((RowT.of_reads (r1.more (by omega))).keep ka) (by omega) (by omega) (by omega) (by omega) (by omega) (by omega) hcn1 hcn2 hcr1 hcr2 hco hcom)
                      have ce0 := TE.cell0
                      have cw0 := TWa.out.cell0
                      have cw1 := TWa.out.cell1
                      have HWA := Lib.hid hwa
                      have HGE := Lib.hid hge
                      subst hA
                      clear hx hc r1 hb0 hwa hge ba TE ka rta rtr HS RS HB TW RA RR
                      go_upto_region 29 with fail
                      rw [← HWA.out, ← HGE.out]
                      clear HWA HGE cD1 cD2 i0 i1
                      go_wp2_with fail
                      refine HST.out.mono ?_
                      rintro e w6 ⟨v6, rfl, ⟨X, nx, cx, Y, ny, cy, rfl⟩, hsome, b6⟩
                      have HSO := Lib.hid hsome
                      obtain ⟨w7x, hw7⟩ : ∃ x, x = w6.alloc (.cells #[.slice X nx cx, .slice Y ny cy] 96) := ⟨_, rfl⟩
                      obtain ⟨gn, hgn⟩ : ∃ x, x = w6.heap.size := ⟨_, rfl⟩
                      have bn : Below w6.heap.size w6 w7x := by rw [hw7]; exact (Below.refl _ _).alloc (Nat.le_refl _) _
                      have b7 := b6.trans (bn.mono b6.size)
                      have TN : Two w7x gn 96 (.slice X nx cx) (.slice Y ny cy) := by rw [hw7, hgn]; exact Two.new w6 _ _ _
                      have k7 := Keep.of_below (e := 3) b7 hBa
                      have HSn := Lib.hid (HSa.out.far b7 hBa)
                      have RSn := Lib.hid (RSa.out.far b7 hBa)
                      have HBn := Lib.hid (HBa.out.trans (b7.mono hBa))
                      have TWn := Lib.hid (TWa.out.far b7)
                      have RAn := Lib.hid (RAa.out.keep k7)
                      have RRn := Lib.hid (RRa.out.keep k7)
                      have hBn := Nat.le_trans hBa b7.size
                      have hgwl := TWn.out.lt
                      have cn0 := TN.cell0
                      have cn1 := TN.cell1
                      have kn := Keep.of_below (e := 3) bn (Nat.le_trans hBa b6.size)
                      have KN := Lib.hid kn
                      have HW7 := Lib.hid hw7
                      have HGN := Lib.hid hgn
                      clear hsome hw7 hgn bn b6 b7 TN k7 kn HST HSa RSa HBa TWa RAa RRa ce0 cw0 cw1
                      cases hst : stepO o rn an with
                      | none =>
                        have HNO := Lib.hid (show stepO (o, t).1 rn an = none from hst)
                        simp only [Option.isSome_none]
                        clear hst
                        go_upto_region 30 with fail
                        rw [← HW7.out, ← HGN.out]
                        clear HW7 HGN
                        go_wp2
                        go_roundw
                        case rel => exact ⟨k + 1, O2, by omega, by go_num, HSn.out, HUB.out, RSn.out, winv_weaken II.out (fun r' a' h => h.elim .inl (fun h => .inr (stepQ_miss HX.out HNO.out h))), by omega, HBn.out, TWn.out, RAn.out, RRn.out⟩
                        case measure => simp [intOf]; omega
                      | some ra =>
                        obtain ⟨r2, a2⟩ := ra
                        have HYES := Lib.hid (show stepO (o, t).1 rn an = some (r2, a2) from hst)
                        obtain ⟨X', Y', cx', cy', hag, rx, ry, x1, x2, x3, x4⟩ := HSO.out r2 a2 hst
                        injection hag with hag
                        injection hag with hag
                        injection hag with ha1 ha2
                        injection ha2 with ha2 ha3
                        injection ha1 with e1 e2 e3
                        injection ha2 with e4 e5 e6
                        clear ha3
                        subst e1 e2 e3 e4 e5 e6
                        have RX := Lib.hid (show RowP (w.heap.size + 1) w7x (.slice X a2.length cx) a2 from ⟨_, _, rfl, rx.keep KN.out, x1, x2⟩)
                        have RY := Lib.hid (show RowP (w.heap.size + 1) w7x (.slice Y r2.length cy) r2 from ⟨_, _, rfl, ry.keep KN.out, x3, x4⟩)
                        have ha2l := stepO_len hst
                        simp only [Option.isSome_some]
                        obtain ⟨cs, hc1, hc2, hc3⟩ := HSn.out
                        have HC1 := Lib.hid hc1
                        have HC3 := Lib.hid hc3
                        clear hst rx ry x1 x2 x3 x4 hc1 hc3
                        go_upto_region 30 with fail
                        rw [← HW7.out, ← HGN.out]
                        clear HW7 HGN
                        go_wp2_with (at_builtin; refine wpList_append_at (ys := [.slice X a2.length cx, .slice Y r2.length cy]) hc2 hBn (.tmp 135) (.tmp 137) 94 Tryz.underlying94 info_wit (by omega) (by unfold maxLen; omega) ⟨rfl, rfl, rfl, rfl, (fun y hy => by simp only [List.mem_cons, List.not_mem_nil, or_false] at hy; rcases hy with rfl | rfl <;> rfl), rfl, rfl, by decide⟩ rfl ?_; intro v8 w8 own8 gr8 at8)
                        have HP := Wits.put HC1.out hc2 HC3.out hBn RX.out RY.out own8 gr8
                        have HS8 := Lib.hid HP.1
                        have RS8 := Lib.hid (RSn.out.keep HP.2.1 HP.2.2)
                        have HB8 := Lib.hid (HBn.out.trans HP.2.1.below)
                        have TW8 := Lib.hid (TWn.out.grown gr8 HUB.out)
                        have RA8 := Lib.hid (RAn.out.keep HP.2.1)
                        have RR8 := Lib.hid (RRn.out.keep HP.2.1)
                        have HU8 := Lib.hid (apart_next HUB.out hgwl at8)
                        have HI8 := Lib.hid (winv_put II.out (.step HRCH.out (outs_mem HX.out) HYES.out) (by omega) (fun r0 a0 h0 => leA_trans (HLE.out r0 a0 h0) (stepO_grow HYES.out)))
                        clear HP own8 gr8 at8 hc2
                        go_roundw
                        case rel => exact ⟨k + 1, _, by omega, by go_num, HS8.out, HU8.out, RS8.out, winv_weaken HI8.out (fun r' a' h => h.elim (fun h => .inl (.inl h)) (fun h => (stepQ_next HX.out HYES.out h).elim (fun h => .inl (.inr h)) .inr)), by simp; omega, HB8.out, TW8.out, RA8.out, RR8.out⟩
                        case measure => simp [intOf]; omega
                    · obtain rfl : k = l.length := by omega
                      go_wp2
                      go_roundg ((281 - D2.length) * 41 + O2.length)
                      case measure => omega
                      case rel => exact ⟨O2, D2, rfl, HS.out, RS.out, winv_weaken II.out (fun r' a' h => stepQ_due (fun r0 a0 h0 => by rw [HD2.out] at h0; rcases List.mem_append.1 h0 with h1 | h1; exact .inl h1; exact .inr (by simpa using h1)) h), by omega, HB.out⟩
        · obtain rfl : O = [] := List.eq_nil_of_length_eq_zero (by omega)
          have HR := Lib.hid (search_none HI.out.srch (fun r a h => by cases h))
          have HA := Lib.hid (ambD_eq HR.out (by simp))
          have own0 : (wr.alloc (.cells #[] 3)).ownsRow w.heap.size 3 1 (.slice (some ⟨wr.heap.size, 0, none⟩) 0 0) 0 [] := World.ownsRow_made wr #[] 0 (by omega) (by simp) rfl
          have bF := HBW.out _ (HB.out.alloc (by omega) (.cells #[] 3))
          go_wp2
          go_ret2
          refine ⟨.slice (some ⟨wr.heap.size, 0, none⟩) 0 0, ?_, ?_, ?_, bF⟩
          · rw [HA.out]; rfl
          · rw [HA.out]; exact Own.of_row own0
          · rw [HA.out]; exact HR.out
end Go.Proofs.YtekidodfcanjaaaGreatDoor
namespace Go.Proofs.YtekidodfcanjaaaGreatDoor
open Go.RowKit
set_option linter.unusedVariables false
set_option linter.unusedSimpArgs false
set_option maxRecDepth 100000

/-- What AmbiguousStrokes returns. -/
def AmbOut (l : List EntD) (w : World) (e : Ending) (w' : World) : Prop := (∃ v, e = .returned (.tuple #[v, .bool (ambVB l)]) ∧ Own w' w.heap.size w'.heap.size 3 1 v (ambV l).length (ints (ambV l)) ∧ Below w.heap.size w w') ∧ (dictB l = true → AmbRes (outsD l) (ambD l))
theorem ambOut_no {l : List EntD} {w w' : World} (h : dictB l = false) (hb : Below w.heap.size w w') : AmbOut l w (.returned (.tuple #[.slice none 0 0, .bool false])) w' := by
  refine ⟨⟨.slice none 0 0, ?_, ?_, hb⟩, fun h1 => by rw [h] at h1; cases h1⟩
  · simp [ambVB, ambV_no h]
  · rw [ambV_no h]; exact Own.none_
theorem ambVB_yes {l : List EntD} (h : dictB l = true) : ambVB l = decide (0 < (ambD l).length) := by rw [ambVB, ambV_yes h]
set_option maxHeartbeats 2000000 in
theorem spec_AmbiguousStrokes (A : Option Addr) (cap : Nat) (l : List EntD) (w : World) (hr : DictR w w.heap.size A l) (hn : l.length ≤ 1048576) (hs : ShortD l) :
    Calls Tryz.prog 9 #[.agg #[.slice A l.length cap]] w (AmbOut l w) := by
  obtain ⟨W1, hW1⟩ : ∃ W1, W1 = w.alloc (.cells #[.slice A l.length cap] 31) := ⟨_, rfl⟩
  have hb1 : Below w.heap.size w W1 := by rw [hW1]; exact (Below.refl _ _).alloc (Nat.le_refl _) _
  have bP : Box W1 w.heap.size 31 (.slice A l.length cap) := by rw [hW1]; exact Box.new w _ _
  have HG := Lib.hid (spec_l6Good A cap l W1 ((hr.below hb1).more hb1.size) hn hs)
  have cP := bP.cell
  have HR := Lib.hid hr
  clear hs hr
  go_enter Tryz.func9, Tryz.ntmps9
  go_wp2_with fail
  rw [← hW1]
  clear hW1
  refine HG.out.mono ?_
  rintro e w2 ⟨rfl, b2⟩
  have B2 := hb1.trans (b2.mono hb1.size)
  have c2 := (bP.far b2).cell
  clear cP bP b2 hb1
  cases hv : dictB l with
  | false =>
    have HN := Lib.hid hv
    clear hv
    go_wp2
    go_ret2
    exact ambOut_no HN.out B2
  | true =>
    have HV := Lib.hid hv
    clear hv
    go_wp2_with fail
    refine (spec_l22Witness A cap l _ ((HR.out.below B2).more B2.size) HV.out).mono ?_
    rintro e w3 ⟨v3, rfl, o3, hres, b3⟩
    obtain ⟨A3, c3, rfl, -, -, -⟩ := o3.slice
    have O3 := Lib.hid o3
    have HRES := Lib.hid hres
    have B3 := B2.trans (b3.mono B2.size)
    have hz := B2.size
    clear o3 hres b3 c2
    by_cases h0 : 0 < (ambD l).length
    · have i0 : ((ambD l).length : Int) > 0 := by omega
      have hb0 : ambVB l = true := by rw [ambVB_yes HV.out]; exact decide_eq_true h0
      have HB0 := Lib.hid hb0
      clear hb0
      go_wp2
      go_ret2
      exact ⟨⟨_, by rw [HB0.out] <;> rfl, by rw [ambV_yes HV.out]; exact ⟨O3.out.1.base hz, O3.out.2⟩, B3⟩, fun _ => HRES.out⟩
    · have i0 : ¬ ((ambD l).length : Int) > 0 := by omega
      have hb0 : ambVB l = false := by rw [ambVB_yes HV.out]; exact decide_eq_false h0
      have HB0 := Lib.hid hb0
      clear hb0
      go_wp2
      go_ret2
      exact ⟨⟨_, by rw [HB0.out] <;> rfl, by rw [ambV_yes HV.out]; exact ⟨O3.out.1.base hz, O3.out.2⟩, B3⟩, fun _ => HRES.out⟩
set_option maxHeartbeats 2000000 in
theorem impl_AmbiguousStrokes (A : Option Addr) (cap : Nat) (l : List EntD) (w : World) (hr : DictR w w.heap.size A l) (hn : l.length ≤ 1048576) (hs : ShortD l) (hmx : MaxOk w) :
    Calls Tryz.prog 11 #[.agg #[.slice A l.length cap]] w (AmbOut l w) := by
  obtain ⟨W1, hW1⟩ : ∃ W1, W1 = w.alloc (.cells #[.slice A l.length cap] 31) := ⟨_, rfl⟩
  have hb1 : Below w.heap.size w W1 := by rw [hW1]; exact (Below.refl _ _).alloc (Nat.le_refl _) _
  have bP : Box W1 w.heap.size 31 (.slice A l.length cap) := by rw [hW1]; exact Box.new w _ _
  have HG := Lib.hid (impl_IsValidDictionary A cap l W1 ((hr.below hb1).more hb1.size) hn hs (hmx.below hb1))
  have cP := bP.cell
  have HR := Lib.hid hr
  clear hs hr hmx
  go_enter Tryz.func11, Tryz.ntmps11
  go_wp2_with fail
  rw [← hW1]
  clear hW1
  refine HG.out.mono ?_
  rintro e w2 ⟨rfl, b2⟩
  have B2 := hb1.trans (b2.mono hb1.size)
  have c2 := (bP.far b2).cell
  clear cP bP b2 hb1
  cases hv : dictB l with
  | false =>
    have HN := Lib.hid hv
    clear hv
    go_wp2
    go_ret2
    exact ambOut_no HN.out B2
  | true =>
    have HV := Lib.hid hv
    clear hv
    go_wp2_with fail
    refine (impl_ambiguous A cap l _ ((HR.out.below B2).more B2.size) HV.out).mono ?_
    rintro e w3 ⟨v3, rfl, o3, hres, b3⟩
    have O3 := Lib.hid o3
    have HRES := Lib.hid hres
    have B3 := B2.trans (b3.mono B2.size)
    have hz := B2.size
    clear o3 hres b3 c2
    go_wp2
    go_ret2
    exact ⟨⟨_, by rw [ambVB_yes HV.out] <;> rfl, by rw [ambV_yes HV.out]; exact ⟨O3.out.1.base hz, O3.out.2⟩, B3⟩, fun _ => HRES.out⟩
set_option maxHeartbeats 2000000 in
theorem impl_IsUniquelyReadable (A : Option Addr) (cap : Nat) (l : List EntD) (w : World) (hr : DictR w w.heap.size A l) (hn : l.length ≤ 1048576) (hs : ShortD l) (hmx : MaxOk w) :
    Calls Tryz.prog 24 #[.agg #[.slice A l.length cap]] w fun e w' => e = .returned (.tuple #[.bool (uniqB l), .bool (dictB l)]) ∧ Below w.heap.size w w' ∧ (dictB l = true → AmbRes (outsD l) (ambD l)) := by
  obtain ⟨W1, hW1⟩ : ∃ W1, W1 = w.alloc (.cells #[.slice A l.length cap] 31) := ⟨_, rfl⟩
  have hb1 : Below w.heap.size w W1 := by rw [hW1]; exact (Below.refl _ _).alloc (Nat.le_refl _) _
  have bP : Box W1 w.heap.size 31 (.slice A l.length cap) := by rw [hW1]; exact Box.new w _ _
  have HG := Lib.hid (impl_IsValidDictionary A cap l W1 ((hr.below hb1).more hb1.size) hn hs (hmx.below hb1))
  have cP := bP.cell
  have HR := Lib.hid hr
  clear hs hr hmx
  go_enter Tryz.func24, Tryz.ntmps24
  go_wp2_with fail
  rw [← hW1]
  clear hW1
  refine HG.out.mono ?_
  rintro e w2 ⟨rfl, b2⟩
  have B2 := hb1.trans (b2.mono hb1.size)
  have c2 := (bP.far b2).cell
  clear cP bP b2 hb1
  cases hv : dictB l with
  | false =>
    have HU := Lib.hid (show uniqB l = false by unfold uniqB; rw [hv]; rfl)
    have HN := Lib.hid hv
    clear hv
    go_wp2
    go_ret2
    exact ⟨by first | (rw [HU.out, HN.out]; done) | (rw [HU.out, HN.out]; rfl) | (rw [HU.out]; done) | (rw [HU.out]; rfl), B2, fun h => by rw [HN.out] at h; cases h⟩
  | true =>
    have HV := Lib.hid hv
    clear hv
    go_wp2_with fail
    refine (impl_ambiguous A cap l _ ((HR.out.below B2).more B2.size) HV.out).mono ?_
    rintro e w3 ⟨v3, rfl, o3, hres, b3⟩
    obtain ⟨A3, c3, rfl, -, -, -⟩ := o3.slice
    have B3 := B2.trans (b3.mono B2.size)
    have HRES := Lib.hid hres
    clear o3 hres b3 c2
    by_cases h0 : (ambD l).length = 0
    · have HU := Lib.hid (show uniqB l = true by unfold uniqB; rw [HV.out, h0]; rfl)
      rw [show decide (0 < (ambD l).length) = false from decide_eq_false (by omega)]
      clear h0
      go_wp2
      go_ret2
      exact ⟨by first | (rw [HU.out, HV.out]; done) | (rw [HU.out, HV.out]; rfl) | (rw [HU.out]; done) | (rw [HU.out]; rfl), B3, fun _ => HRES.out⟩
    · have HU := Lib.hid (show uniqB l = false by unfold uniqB; rw [HV.out, decide_eq_false h0]; rfl)
      rw [show decide (0 < (ambD l).length) = true from decide_eq_true (by omega)]
      clear h0
      go_wp2
      go_ret2
      exact ⟨by first | (rw [HU.out, HV.out]; done) | (rw [HU.out, HV.out]; rfl) | (rw [HU.out]; done) | (rw [HU.out]; rfl), B3, fun _ => HRES.out⟩
end Go.Proofs.YtekidodfcanjaaaGreatDoor
