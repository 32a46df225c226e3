/-
  The law FnTranscriptIndex returns true for every code: its walk over the contracts.
-/
import Derived.Test.YthokekgdiebhjaaDoorIdxI
import Derived.Test.YthokekgdiebhjaaDoorFindI
import Derived.Test.YthokekgdiebhjaaDoorDrawIdx
import Derived.Test.YthokekgdiebhjaaDoorIdxFindPl
import Derived.Test.YthokekgdiebhjaaDoorRText
import Derived.Test.YthokekgdiebhjaaDoorRSum
import Derived.StillTailTactics
import Derived.Deep.RegionHeld3
namespace Go.Proofs.YthokekgdiebhjaaDoor
open Go.RowKit
set_option linter.unusedVariables false
set_option linter.unusedSimpArgs false
set_option maxRecDepth 100000

theorem TameT.shortI {l : List TurnD} (h : TameT l) : ShortT l := fun c hc => by have := h c hc; omega
theorem ownSS_readsI {w : World} {lo hi : Nat} {v : Value} {rows : List (List Int)} (h : OwnSS w lo hi v rows) : ∃ A cap, v = .slice A rows.length cap ∧ rows.length ≤ cap ∧ ∀ W', Below w.heap.size w W' → ∀ (k : Nat) r, rows[k]? = some r → ∃ (b off : Nat) (a : Option Addr) (c : Nat), A = some ⟨b, off, none⟩ ∧ b < w.heap.size ∧ W'.cell? ⟨b, off + k, none⟩ = some (.slice a r.length c) ∧ Reads W' w.heap.size 1 a r.length (ints r) := by
  obtain ⟨vs, h1, h2, h3⟩ := h
  obtain ⟨A, cap, rfl, hr, hn, hm⟩ := h1.slice
  refine ⟨A, cap, rfl, hn, fun W' hb k r hk => ?_⟩
  have hkl := (List.getElem?_eq_some_iff.1 hk).1
  obtain ⟨b, off, hA, hbl, hc⟩ := hr.2 (by omega)
  obtain ⟨u, hu, ru⟩ := h2.at_ hk
  obtain ⟨a, c, rfl, rd, -, -⟩ := (Own.of_row ru).slice
  exact ⟨b, off, a, c, hA, hbl, (hb.cell (p := ⟨b, off + k, none⟩) hbl).trans (hc k _ hu), rd.below hb⟩
theorem evL_lenI {l : List TurnD} (h : transB l = true) : (evT l l.length).length ≤ 1200 := by
  have h1 := evT_len h l.length
  have h2 := trans_len h
  omega
theorem indexL_lenI (l : List TurnD) : (indexL l).length ≤ 1200 := by
  unfold indexL
  split
  · next h =>
    unfold idxE
    rw [idxW_len]
    exact Nat.le_trans (namesE_len _) (evL_lenI h)
  · simp
theorem indexL_twoI (l : List TurnD) : ∀ c ∈ indexL l, c.2.length ≤ 1200 := by
  unfold indexL
  split
  · next h =>
    intro c hc
    unfold idxE idxW at hc
    obtain ⟨x, -, rfl⟩ := List.mem_map.1 hc
    exact Nat.le_trans (turnsE_len _ _) (evL_lenI h)
  · intro c hc
    cases hc
/-- An index in memory, read: in every later world. -/
theorem idx_reads {lo : Nat} {w : World} {v : Value} {L : List IdxD} (h : IdxS lo w v L) : ∃ A cap, v = .slice A L.length cap ∧ L.length ≤ cap ∧ ∀ W', Below w.heap.size w W' → ∀ (k : Nat) c, L[k]? = some c →
    ∃ (g : Nat) (a : Option Addr) (d : Nat), A = some ⟨g, 0, none⟩ ∧ g < w.heap.size ∧ W'.cell? ⟨g, k * 2, none⟩ = some (.string c.1) ∧ W'.cell? ⟨g, k * 2 + 1, none⟩ = some (.slice a c.2.length d) ∧ Reads W' w.heap.size 1 a c.2.length (ints c.2) := by
  obtain ⟨A, cap, hv, hc, -⟩ := h.slice
  refine ⟨A, cap, hv, hc, fun W' hb k c hk => ?_⟩
  have hkl := (List.getElem?_eq_some_iff.1 hk).1
  subst hv
  obtain ⟨g, cap2, hv2, h1, h2, -, -, -, h3⟩ := h.open_ (by omega)
  injection hv2 with hv2 _ _
  obtain ⟨u, c1, c2, ru⟩ := h3 k c hk
  obtain ⟨a, d, rfl, rd, -, -⟩ := (Own.of_row ru).slice
  exact ⟨g, a, d, hv2, h2, (hb.cell (p := ⟨g, k * 2, none⟩) h2).trans c1, (hb.cell (p := ⟨g, k * 2 + 1, none⟩) h2).trans c2, rd.below hb⟩
theorem four_step {w wx w1 : World} {p q r s : Addr} {a b c d : Value} (h1 : p.block < w.heap.size) (h2 : q.block < w.heap.size) (h3 : r.block < w.heap.size) (h4 : s.block < w.heap.size)
    (h : wx.cell? p = some a ∧ wx.cell? q = some b ∧ wx.cell? r = some c ∧ wx.cell? s = some d ∧ Below w.heap.size w wx) (hb : Below wx.heap.size wx w1) :
    w1.cell? p = some a ∧ w1.cell? q = some b ∧ w1.cell? r = some c ∧ w1.cell? s = some d ∧ Below w.heap.size w w1 :=
  ⟨(hb.cell (Nat.lt_of_lt_of_le h1 h.2.2.2.2.size)).trans h.1, (hb.cell (Nat.lt_of_lt_of_le h2 h.2.2.2.2.size)).trans h.2.1, (hb.cell (Nat.lt_of_lt_of_le h3 h.2.2.2.2.size)).trans h.2.2.1, (hb.cell (Nat.lt_of_lt_of_le h4 h.2.2.2.2.size)).trans h.2.2.2.1, h.2.2.2.2.trans (hb.mono h.2.2.2.2.size)⟩
theorem four_drew {w wx : World} {p q r s : Addr} {a b c d : Value} (h : wx.cell? p = some a ∧ wx.cell? q = some b ∧ wx.cell? r = some c ∧ wx.cell? s = some d ∧ Below w.heap.size w wx) :
    wx.drew.cell? p = some a ∧ wx.drew.cell? q = some b ∧ wx.drew.cell? r = some c ∧ wx.drew.cell? s = some d ∧ Below w.heap.size w wx.drew := ⟨h.1, h.2.1, h.2.2.1, h.2.2.2.1, h.2.2.2.2.drew⟩
theorem four_below {w wx : World} {p q r s : Addr} {a b c d : Value} (h : wx.cell? p = some a ∧ wx.cell? q = some b ∧ wx.cell? r = some c ∧ wx.cell? s = some d ∧ Below w.heap.size w wx) : Below w.heap.size w wx := h.2.2.2.2

set_option maxHeartbeats 16000000 in
theorem law_TransIndex (A : Option Addr) (n cap : Nat) (zs : List Int) (W : World) (h : Ints .u8 W A n cap zs) (hm : MaxOk W) :
    Calls Tryd.prog 3 #[.slice A n cap] W fun e W' => e = .returned (.bool true) ∧ Below W.heap.size W W' := by
  have HM := Lib.hid (show ∀ W', Below W.heap.size W W' → MaxOk W' from fun W' hb => hm.below hb)
  clear hm
  by_cases hbig : 65536 < n
  · go_enter Tryd.func3, Tryd.ntmps3
    go_wp2_with fail
    refine (rBigT_calls A n cap _).mono ?_
    rw [show decide (65536 < n) = true by simp [hbig]]
    rintro e w1 ⟨rfl, rfl⟩
    go_wp2
    go_ret
    exact ⟨rfl, Below.refl _ _⟩
  go_enter Tryd.func3, Tryd.ntmps3
  go_wp2_with fail
  refine (rBigT_calls A n cap _).mono ?_
  rw [show decide (65536 < n) = false by simp [hbig]]
  rintro e w0 ⟨rfl, rfl⟩
  go_wp2_with fail
  refine (drawWordIndex_calls A n cap zs _ h).mono ?_
  rintro e w1 ⟨v, l, rfl, own1, hl, ht, b1⟩
  obtain ⟨A1, c1, rfl, r1, -, -⟩ := own1.slice
  have HSH := Lib.hid ht.shortI
  have hlm : l.length ≤ 1048576 := by omega
  have B1 := b1.alloc b1.size (.cells #[.slice A1 l.length c1] 26)
  have HCT := Lib.hid (show ∀ W', Below (w1.alloc (.cells #[.slice A1 l.length c1] 26)).heap.size (w1.alloc (.cells #[.slice A1 l.length c1] 26)) W' → W'.cell? ⟨w1.heap.size, 0, none⟩ = some (.slice A1 l.length c1) from fun W' hb => ((Box.new w1 26 (.slice A1 l.length c1)).far hb).cell)
  have HRT := Lib.hid (show ∀ W', Below (w1.alloc (.cells #[.slice A1 l.length c1] 26)).heap.size (w1.alloc (.cells #[.slice A1 l.length c1] 26)) W' → Reads W' W'.heap.size 2 A1 l.length (turnsV l) from fun W' hb => (((r1.below ((Below.refl _ _).alloc (Nat.le_refl _) _)).more (by simp)).below hb).more hb.size)
  have hbz : w1.heap.size < (w1.alloc (.cells #[.slice A1 l.length c1] 26)).heap.size := by simp
  have HBZ := Lib.hid hbz
  have cT := HCT.out _ (Below.refl _ _)
  obtain ⟨q, hq⟩ : ∃ q, q = transB l := ⟨_, rfl⟩
  have HQ := Lib.hid hq
  clear h ht own1 r1 b1 hl hq hbz
  go_wp2_with fail
  generalize hWT : w1.alloc (.cells #[.slice A1 l.length c1] 26) = wt at *
  clear hWT
  refine (impl_WordIndex A1 c1 l _ (HRT.out _ (Below.refl _ _)) hlm HSH.out (HM.out _ B1)).mono ?_
  unfold IndexRes
  rw [← HQ.out]
  rintro e w2 ⟨v2, rfl, idx2, b2⟩
  have B2 := B1.trans (b2.mono B1.size)
  clear cT
  have cT := HCT.out _ b2
  go_wp2_with fail
  refine (spec_WordIndex A1 c1 l _ (HRT.out _ b2) hlm HSH.out).mono ?_
  unfold IndexRes
  rw [← HQ.out]
  rintro e w3 ⟨v3, rfl, idx3, b3⟩
  have B3 := B2.trans (b3.mono B2.size)
  have T3 := b2.trans (b3.mono b2.size)
  obtain ⟨A2, c2, rfl, hc2, hR2⟩ := idx_reads (idx2.far b3)
  obtain ⟨A3, c3, rfl, hc3, hR3⟩ := idx_reads idx3
  have HR2 := Lib.hid hR2
  have HR3 := Lib.hid hR3
  have hN : (indexL l).length ≤ 1200 := indexL_lenI l
  have HTL := Lib.hid (indexL_twoI l)
  have HIW := Lib.hid (fun (k : Nat) (x : ByteArray) (ts : List Int) (h : (indexL l)[k]? = some (x, ts)) => index_word h)
  generalize hL : indexL l = L at *
  clear cT idx2 idx3 hR2 hR3 hL b2 b3
  have hqq : (q != q) = false := by cases q <;> rfl
  have hll : ((L.length : Int) != (L.length : Int)) = false := by simp
  have HB3 := Lib.hid B3
  have HT3 := Lib.hid T3
  clear B1 B2 B3 T3
  go_wp2
  go_loopw [8] (fun i wr => ∃ k : Nat, k ≤ L.length ∧ i = .int .i64 k ∧ Below w3.heap.size w3 wr) (fun i _ => L.length - (intOf i).toNat)
  case atStart => exact ⟨0, Nat.zero_le _, rfl, Below.refl _ _⟩
  case round =>
    obtain ⟨k, hk, rfl, hb⟩ := hrel
    have HB := Lib.hid hb
    by_cases hlt : k < L.length
    · obtain ⟨⟨x, ts⟩, hx⟩ := some_at L hlt
      have hw := HIW.out k x ts hx
      have hts := HTL.out _ (List.mem_of_getElem? hx)
      obtain ⟨g2, a2, d2, hA2, hg2, cx2, cy2, rd2⟩ := HR2.out wr hb k _ hx
      obtain ⟨g3, a3, d3, hA3, hg3, cx3, cy3, rd3⟩ := HR3.out wr hb k _ hx
      simp only at hts cx2 cy2 rd2 cx3 cy3 rd3
      subst hA2 hA3
      have sz := hb.size
      have HW := Lib.hid hw
      have HX := Lib.hid hx
      have hxs := hw.small
      have HNW := Lib.hid (show ∀ w, Calls Tryd.prog 10 #[.string x] w fun e w' => e = .returned (.string x) ∧ Below w.heap.size w w' from fun w => by
        have := impl_NormalizeWord x w (by omega)
        rw [HW.out.fix] at this
        exact this)
      have HRI := Lib.hid (show ∀ W', Below wr.heap.size wr W' → Calls Tryd.prog 9 #[.slice a2 ts.length d2, .slice a3 ts.length d3] W' fun e w' => e = .returned (.bool true) ∧ Below W'.heap.size W' w' from fun W' hb' =>
        rInts_same a2 a3 d2 d3 ts W' (by omega) ((rd2.more (Nat.le_trans sz (Nat.le_refl _))).below hb' |>.more hb'.size) ((rd3.more (Nat.le_trans sz (Nat.le_refl _))).below hb' |>.more hb'.size))
      have e1 : (x.toList != x.toList) = false := by simp
      have i1 : (k : Int) < (L.length : Int) := by omega
      have z2 : g2 < wr.heap.size := by omega
      have z3 : g3 < wr.heap.size := by omega
      have S0 : wr.cell? ⟨g2, k * 2, none⟩ = some (.string x) ∧ wr.cell? ⟨g2, k * 2 + 1, none⟩ = some (.slice a2 ts.length d2) ∧ wr.cell? ⟨g3, k * 2, none⟩ = some (.string x) ∧ wr.cell? ⟨g3, k * 2 + 1, none⟩ = some (.slice a3 ts.length d3) ∧ Below wr.heap.size wr wr := ⟨cx2, cy2, cx3, cy3, Below.refl _ _⟩
      clear hx hw cx2 cy2 cx3 cy3 rd2 rd3 hb
      go_wp2
      go_region_held3 (fun w' => w'.cell? ⟨g2, k * 2, none⟩ = some (.string x) ∧ w'.cell? ⟨g2, k * 2 + 1, none⟩ = some (.slice a2 ts.length d2) ∧ w'.cell? ⟨g3, k * 2, none⟩ = some (.string x) ∧ w'.cell? ⟨g3, k * 2 + 1, none⟩ = some (.slice a3 ts.length d3) ∧ Below wr.heap.size wr w') (first | exact S0 | exact four_drew S0 | assumption | exact four_step z2 z2 z3 z3 (by assumption) (by assumption) | exact four_drew (by assumption)) (first | (go_at_call 9; refine (HRI.out _ (four_below (by assumption))).mono ?_; rintro e w7 ⟨rfl, b7⟩) | (go_at_call 10; refine (HNW.out _).mono ?_; rintro e w8 ⟨rfl, b8⟩))
      have bz8 : Below wr.heap.size wr w8 := four_below (by assumption)
      clear S0
      have HB8 := Lib.hid (HB.out.trans (bz8.mono sz))
      have HT8 := Lib.hid (HT3.out.trans (HB8.out.mono HT3.out.size))
      have HBW := Lib.hid (HB3.out.trans (HB8.out.mono HB3.out.size))
      obtain ⟨g2', a2', d2', hA2, -, cx2, cy2, rd2⟩ := HR2.out w8 HB8.out k _ HX.out
      injection hA2 with hA2
      injection hA2 with hA2 _
      subst hA2
      simp only at cx2 cy2 rd2
      have sz8 : wr.heap.size ≤ w8.heap.size := bz8.size
      have z8 : g2 < w8.heap.size := by omega
      have zt : w1.heap.size < w8.heap.size := by have := HBZ.out; have := HT8.out.size; omega
      have cT := HCT.out _ HT8.out
      have HFP := Lib.hid (show ∀ W', Below w8.heap.size w8 W' → Calls Tryd.prog 11 #[.agg #[.slice A1 l.length c1], .string x] W' fun e w' => ∃ v, e = .returned (.tuple #[v, .bool true]) ∧ OwnSS w' W'.heap.size w'.heap.size v (findL l x) ∧ Below W'.heap.size W' w' from fun W' hb' => by
        have := impl_FindPhrase A1 c1 l x W' (HRT.out _ (HT8.out.trans (hb'.mono HT8.out.size))) hlm HSH.out (by omega) (HM.out _ (HBW.out.trans (hb'.mono HBW.out.size)))
        unfold FindRes at this
        rw [HW.out.find] at this
        exact this)
      have S0 : w8.cell? ⟨w1.heap.size, 0, none⟩ = some (.slice A1 l.length c1) ∧ w8.cell? ⟨g2, k * 2, none⟩ = some (.string x) ∧ w8.cell? ⟨g2, k * 2, none⟩ = some (.string x) ∧ w8.cell? ⟨g2, k * 2, none⟩ = some (.string x) ∧ Below w8.heap.size w8 w8 := ⟨cT, cx2, cx2, cx2, Below.refl _ _⟩
      clear cT cx2 cy2 rd2 bz8
      go_wp2
      go_region_held3 (fun w' => w'.cell? ⟨w1.heap.size, 0, none⟩ = some (.slice A1 l.length c1) ∧ w'.cell? ⟨g2, k * 2, none⟩ = some (.string x) ∧ w'.cell? ⟨g2, k * 2, none⟩ = some (.string x) ∧ w'.cell? ⟨g2, k * 2, none⟩ = some (.string x) ∧ Below w8.heap.size w8 w') (first | exact S0 | exact four_drew S0 | assumption | exact four_step zt z8 z8 z8 (by assumption) (by assumption) | exact four_drew (by assumption)) (first | (go_at_call 11; refine (HFP.out _ (four_below (by assumption))).mono ?_; rintro e w9 ⟨v9, rfl, o9, b9⟩))
      have bz9 : Below w8.heap.size w8 w9 := four_below (by assumption)
      obtain ⟨A9, c9, hv9, hc9, hR9⟩ := ownSS_readsI o9
      subst hv9
      have HR9 := Lib.hid hR9
      have HHAS := Lib.hid HW.out.has
      have hpos := HW.out.some_
      have hfl := findL_len l x
      have HB9 := Lib.hid (HB8.out.trans (bz9.mono HB8.out.size))
      generalize hF : findL l x = F at *
      clear S0 o9 hR9 hF bz9
      have q1 : ((F.length : Int) == 0) = false := by rw [beq_eq_false_iff_ne]; omega
      have q2 : (F.length == 0) = false := by rw [beq_eq_false_iff_ne]; omega
      go_wp2
      go_loopw [11] (fun j wr => ∃ m : Nat, m ≤ F.length ∧ j = .int .i64 m ∧ Below w9.heap.size w9 wr) (fun j _ => F.length - (intOf j).toNat)
      case atStart => exact ⟨0, Nat.zero_le _, rfl, Below.refl _ _⟩
      case round =>
        obtain ⟨m, hm, rfl, hb⟩ := hrel
        have HBM := Lib.hid (HB9.out.trans (hb.mono HB9.out.size))
        have HB10 := Lib.hid hb
        clear hb
        by_cases hlm2 : m < F.length
        · obtain ⟨r, hr⟩ := some_at F hlm2
          obtain ⟨bF, oF, aF, cF, hAF, -, cF1, rdF⟩ := HR9.out wr HB10.out m r hr
          subst hAF
          obtain ⟨i, j, hrr, hit⟩ := HHAS.out m r hr
          subst hrr
          obtain ⟨bR, oR, hAR, -, hcR⟩ := rdF.2 (by simp)
          subst hAR
          have cR0 : wr.cell? ⟨bR, oR, none⟩ = some (.int .i64 (i : Int)) := hcR 0 _ rfl
          obtain ⟨g2', a3', d3', hA2, hgl, cx2, cy2, rd2⟩ := HR2.out wr HBM.out k _ HX.out
          injection hA2 with hA2
          injection hA2 with hA2 _
          subst hA2
          simp only at cx2 cy2 rd2
          have hdt := decide_eq_true hit
          have HHC := Lib.hid (show ∀ q, Calls Tryd.prog 12 #[.slice a3' ts.length d3', .int .i64 (i : Int)] (wr.drewN q) fun e w' => e = .returned (.bool true) ∧ wr.drewN q = w' from fun q => by
            have := rHas_calls a3' d3' ts (i : Int) (wr.drewN q) (show Reads (wr.drewN q) (wr.drewN q).heap.size 1 a3' ts.length (ints ts) from rd2.more (by show w3.heap.size ≤ wr.heap.size; exact HBM.out.size)) (by omega)
            rw [hdt] at this
            exact this)
          have i2 : (m : Int) < (F.length : Int) := by omega
          clear hr rdF hcR hit cx2 rd2 hdt
          have cF2 : wr.cell? ⟨bF, oF + m, none⟩ = some (.slice (some ⟨bR, oR, none⟩) 2 cF) := cF1
          clear cF1
          go_wp2
          go_quiet ((go_at_call 12; exact quiet_left (HHC.out _)))
          go_wp2
          go_roundw
          case rel => exact ⟨m + 1, by omega, by go_num, below_drewN HB10.out _⟩
          case measure => simp [intOf]; omega
        · obtain rfl : m = F.length := by omega
          go_wp2
          go_roundw
          case rel => exact ⟨k + 1, by omega, by go_num, HBM.out⟩
          case measure => simp [intOf]; omega
    · obtain rfl : k = L.length := by omega
      go_wp2
      go_ret
      exact ⟨rfl, HB3.out.trans (hb.mono HB3.out.size)⟩
end Go.Proofs.YthokekgdiebhjaaDoor
