/-
  The program's WordIndex.
-/
import Derived.Test.YthokekgdiebhjaaDoorIdxO
import Derived.Test.YthokekgdiebhjaaDoorConcI
namespace Go.Proofs.YthokekgdiebhjaaDoor
open Go.RowKit
set_option linter.unusedVariables false
set_option linter.unusedSimpArgs false
set_option maxRecDepth 100000

/-- The index as the program keeps it. -/
def IdxQ (lo : Nat) (w : World) (v : Value) (us : List ByteArray) (ev : List EvD) : Prop :=
  ∃ g c, v = .slice (some ⟨g, 0, none⟩) us.length c ∧ us.length ≤ c ∧ c ≤ maxLen ∧ IdxS lo w v (idxW us ev)
theorem idxW_fst (us : List ByteArray) (ev : List EvD) : (idxW us ev).map (·.1) = us := by
  unfold idxW
  rw [List.map_map]
  exact List.map_id us
theorem firstU_in {us : List ByteArray} {x : ByteArray} (h : x ∈ us) : firstU us x = us := by unfold firstU; rw [if_pos h]
theorem firstU_out {us : List ByteArray} {x : ByteArray} (h : x ∉ us) : firstU us x = us ++ [x] := by unfold firstU; rw [if_neg h]
theorem firstU_len (us : List ByteArray) (x : ByteArray) : (firstU us x).length ≤ us.length + 1 := by unfold firstU; split <;> simp
theorem flat2_app (a b : List (Value × Value)) : flat2 (a ++ b) = flat2 a ++ flat2 b := by simp [flat2]
/-- An entry with no turn is put at the end. -/
theorem IdxP.snoc {lo : Nat} {w w' : World} {v v2 : Value} {L : List IdxD} {ps : List (Value × Value)} {x : ByteArray} (h : IdxP lo w v L ps) (gr : w.grownBy w' v.ownBlock) (h5 : w'.ownsRow lo 33 2 v2 (L.length + 1) (flat2 ps ++ [.string x, .slice none 0 0])) :
    IdxS lo w' v2 (L ++ [(x, [])]) := by
  obtain ⟨h1, h2, h3, h4⟩ := h
  have hne : ∀ u ∈ ps.map (·.2), u.ownBlock = none ∨ u.ownBlock ≠ v.ownBlock := by
    intro u hu
    obtain ⟨j, hj⟩ := List.mem_iff_getElem?.1 hu
    obtain ⟨r, hr⟩ := some_at (L.map (·.2)) (show j < (L.map (·.2)).length by rw [← h4.len]; exact (List.getElem?_eq_some_iff.1 hj).1)
    have k1 := h4.row j u r hj hr
    cases hb : u.ownBlock with
    | none => exact .inl rfl
    | some g => exact .inr fun h2' => rows_apart k1 h2 (by decide) g hb h2'.symm
  have h6 := (h4.kept gr hne).snoc (u := .slice none 0 0) (r := []) (World.ownsRow_nil _ _ _ _) (fun y hy g hg => by intro e; cases e)
  refine ⟨ps ++ [(.string x, .slice none 0 0)], by simp [h1], ?_, fun j q c hq hc => ?_, ?_⟩
  · rw [List.length_append, flat2_app]
    exact h5
  · rcases Nat.lt_trichotomy j L.length with hj | hj | hj
    · rw [List.getElem?_append_left (by omega)] at hq
      rw [List.getElem?_append_left hj] at hc
      exact h3 j q c hq hc
    · rw [List.getElem?_append_right (by omega), show j - ps.length = 0 by omega] at hq
      rw [List.getElem?_append_right (by omega), show j - L.length = 0 by omega] at hc
      cases hq
      cases hc
      rfl
    · rw [List.getElem?_eq_none (by simp; omega)] at hc
      cases hc
  · simpa using h6
theorem idx_snoc {ev : List EvD} {x : ByteArray} (h : x ∉ firstE ev) : idxW (firstE ev ++ [x]) ev = idxW (firstE ev) ev ++ [(x, [])] := by
  have h0 : turnsE ev x = [] := turnsE_none (fun hm => h (mem_firstE.2 hm))
  unfold idxW
  rw [List.map_append, List.map_singleton, h0]
theorem idx_done {ev : List EvD} {L : List IdxD} (hm : ∀ c, c ∈ L ↔ c ∈ idxW (firstE ev) ev) (hs : Srt (L.map (·.1))) : L = idxE ev := sorted_idx hm hs

set_option maxHeartbeats 16000000 in
theorem impl_WordIndex (A : Option Addr) (cap : Nat) (l : List TurnD) (w : World) (hr : Reads w w.heap.size 2 A l.length (turnsV l)) (hn : l.length ≤ 1048576) (ht : ShortT l) (hmx : MaxOk w) :
    Calls Tryd.prog 7 #[.agg #[.slice A l.length cap]] w (IndexRes l w) := by
  have HT := Lib.hid ht
  have HM := Lib.hid hmx
  clear ht hmx
  obtain ⟨W1, hW1⟩ : ∃ W1, W1 = w.alloc (.cells #[.slice A l.length cap] 26) := ⟨_, rfl⟩
  have hb1 : Below w.heap.size w W1 := by rw [hW1]; exact (Below.refl _ _).alloc (Nat.le_refl _) _
  have bP : Box W1 w.heap.size 26 (.slice A l.length cap) := by rw [hW1]; exact Box.new w _ _
  cases hv : transB l
  · have HV := Lib.hid hv
    go_enter Tryd.func7, Tryd.ntmps7
    go_wp2_with fail
    rw [← hW1]
    clear hW1
    refine (impl_IsValidTranscript A cap l _ ((hr.below hb1).more hb1.size) (by omega) HT.out (HM.out.below hb1)).mono ?_
    rw [hv]
    clear hv
    rintro e w3 ⟨rfl, b3⟩
    go_wp2
    go_ret2
    exact wordIndex_no HV.out (hb1.trans (b3.mono hb1.size))
  have HV := Lib.hid hv
  have hmf : ∀ (fn : Fn) (first cap : Array Value) (w : World), (Instr.makeFunc fn first cap).run Tryd.prog w = .ok (.func fn first cap) w := fun _ _ _ _ => rfl
  go_enter Tryd.func7, Tryd.ntmps7
  go_wp2_with fail
  rw [← hW1]
  clear hW1
  refine (impl_IsValidTranscript A cap l _ ((hr.below hb1).more hb1.size) (by omega) HT.out (HM.out.below hb1)).mono ?_
  rw [hv]
  clear hv
  rintro e w3 ⟨rfl, b3⟩
  have bP3 := bP.far b3
  have B3 := hb1.trans (b3.mono hb1.size)
  clear bP
  have h30 := trans_len HV.out
  have s3 : w.heap.size + 1 ≤ w3.heap.size := bP3.lt
  have oc0 : IdxS (w.heap.size + 1) (w3.alloc (.cells #[] 33)) (.slice (some ⟨w3.heap.size, 0, none⟩) 0 0) [] := IdxS.made s3
  have bP4 := bP3.alloc (.cells #[] 33)
  have cP4 := bP4.cell
  have B4 := B3.alloc B3.size (.cells #[] 33)
  have s4 : w.heap.size + 1 ≤ (w3.alloc (.cells #[] 33)).heap.size := by simp; omega
  clear bP3 B3 b3 hb1
  go_wp2
  go_loopg [4, 18] (l.length) (fun n v i wr => ∃ k : Nat, n = l.length - k ∧ k ≤ l.length ∧ i = .int .i64 k ∧ IdxQ (w.heap.size + 1) wr v (firstE (evT l k)) (evT l k) ∧ Below w.heap.size w wr ∧ w.heap.size + 1 ≤ wr.heap.size)
  case atStart => exact ⟨0, rfl, Nat.zero_le _, rfl, ⟨_, 0, rfl, Nat.le_refl _, by simp, oc0⟩, B4, s4⟩
  case round =>
    clear oc0 bP4 B4 cP4 s4
    obtain ⟨k, hgk, hk, rfl, ⟨gc, cc, rfl, hcc, hmc, idx⟩, hb, sz⟩ := hrel
    by_cases hlt : k < l.length
    · obtain ⟨b, off, hA, hb0, hc⟩ := (hr.below hb).2 (by omega)
      subst hA
      obtain ⟨⟨sp, tx⟩, hx⟩ := some_at l hlt
      obtain ⟨c1, c2⟩ := Reads.turn hc hx
      have htx := turn_text HV.out hx
      simp only at htx c1 c2
      have hts := (HT.out _ (List.mem_of_getElem? hx)).2
      simp only at hts
      obtain ⟨hwl, hwz⟩ := text_len htx
      have HNX := Lib.hid (evT_next hx)
      have HAS := Lib.hid (evT_asc l k)
      have hel := evT_len HV.out k
      have HWZ := Lib.hid hwz
      have HTX := Lib.hid htx
      have i0 : (0 : Int) ≤ (k : Int) := by omega
      have i1 : (k : Int) < (l.length : Int) := by omega
      have hbA := hb.alloc hb.size (.cells #[.string sp, .string tx] 52)
      clear hx hc htx hwz
      obtain ⟨ev0, hev0⟩ : ∃ ev0, ev0 = evT l k := ⟨_, rfl⟩
      rw [← hev0] at hcc idx HNX hel HAS ⊢
      clear hev0
      go_wp2_with fail
      refine (impl_words sp tx _ hts HTX.out (HM.out.below hbA)).mono ?_
      rintro e w5 ⟨vl, rfl, ol, b5⟩
      have b5' : Below wr.heap.size wr w5 := ((Below.refl _ _).alloc (Nat.le_refl _) _).trans (b5.mono (by simp))
      have B5 := hb.trans (b5'.mono hb.size)
      have idx5 := idx.far b5'
      have sz5 : w.heap.size + 1 ≤ w5.heap.size := Nat.le_trans sz b5'.size
      have hp0 : 0 < (wordsV tx).length := text_some HTX.out
      obtain ⟨gw, cw, hvl, hg1, hg2, hg3, -, -, -, -⟩ := ol.open_ hp0
      subst hvl
      have row5 := ol.1.base (lo' := w.heap.size + 1) (by simp; omega)
      clear idx hb b5 b5' c1 c2 ol hbA hg1 hg2 hg3 sz
      generalize hzs : wordsV tx = zs at *
      clear hzs
      go_wp2
      go_loopg [4, 26] (zs.length) (fun n v j wr => ∃ m : Nat, n = zs.length - m ∧ m ≤ zs.length ∧ j = .int .i64 m ∧ IdxQ (w.heap.size + 1) wr v (firstE (ev0 ++ evK zs k m)) (ev0 ++ evK zs k m) ∧ wr.ownsRow (w.heap.size + 1) 9 1 (.slice (some ⟨gw, 0, none⟩) zs.length cw) zs.length (strsV zs) ∧ Below w.heap.size w wr ∧ w.heap.size + 1 ≤ wr.heap.size)
      case atStart => exact ⟨0, rfl, Nat.zero_le _, rfl, by rw [evK, List.append_nil]; exact ⟨gc, cc, rfl, hcc, hmc, idx5⟩, row5, B5, sz5⟩
      case round =>
        clear idx5 B5 row5 hcc hmc sz5
        obtain ⟨m, hgm, hm, rfl, ⟨gc, cc, rfl, hcc, hmc, idx⟩, hrow, hb, sz⟩ := hrel
        by_cases hmt : m < zs.length
        · obtain ⟨x, hx⟩ := some_at zs hmt
          have cx : wr.cell? ⟨gw, m, none⟩ = some (.string x) := (hrow.cellAt m (by omega)).trans (strsV_at hx)
          have hxz := (HWZ.out x (List.mem_of_getElem? hx)).2
          have HSK := Lib.hid (fun h => show ev0 ++ evK zs k (m + 1) = ev0 ++ evK zs k m by rw [evK_skip (i := k) hx h])
          have HPT := Lib.hid (fun h => show ev0 ++ evK zs k (m + 1) = (ev0 ++ evK zs k m) ++ [(normS x, k)] by rw [evK_put (i := k) hx h, List.append_assoc])
          have hel2 : (ev0 ++ evK zs k m).length ≤ 1240 := by have := evK_len zs k m; rw [List.length_append]; omega
          have HAS2 := Lib.hid (evK_asc zs k ev0 HAS.out m)
          have j0 : (0 : Int) ≤ (m : Int) := by omega
          have j1 : (m : Int) < (zs.length : Int) := by omega
          clear hx
          obtain ⟨ev, hev⟩ : ∃ ev, ev = ev0 ++ evK zs k m := ⟨_, rfl⟩
          rw [← hev] at hcc idx HSK HPT hel2 HAS2 ⊢
          clear hev
          go_wp2_with fail
          refine (impl_NormalizeWord x _ (by omega)).mono ?_
          rintro e w6 ⟨rfl, b6⟩
          have hnz := Nat.le_trans (normS_size x) hxz
          obtain ⟨nx, hnx⟩ : ∃ nx, nx = normS x := ⟨_, rfl⟩
          rw [← hnx] at HSK HPT hnz ⊢
          clear hnx
          obtain ⟨W7, hW7⟩ : ∃ W7, W7 = w6.alloc (.cells #[.string nx] 9) := ⟨_, rfl⟩
          have b7 : Below wr.heap.size wr W7 := by rw [hW7]; exact b6.alloc b6.size _
          have bx7 : Box W7 w6.heap.size 9 (.string nx) := by rw [hW7]; exact Box.new w6 _ _
          have B7 := hb.trans (b7.mono hb.size)
          have idx7 := idx.far b7
          have hrow7 := row_below hrow b7
          have sz7 : w.heap.size + 1 ≤ W7.heap.size := Nat.le_trans sz b7.size
          have cx7 := bx7.cell
          have hsW : w.heap.size + 1 ≤ w6.heap.size := Nat.le_trans sz b6.size
          clear cx b6 b7 hrow hb idx sz
          by_cases hd : nx = ⟨#[]⟩
          · have HS := Lib.hid (HSK.out hd)
            subst hd
            clear HPT HSK
            go_upto_region 11 with fail
            rw [← hW7]
            clear hW7
            go_wp2
            go_roundg (zs.length - (m + 1))
            case measure => omega
            case rel => exact ⟨m + 1, rfl, by omega, by go_num, by rw [HS.out]; exact ⟨gc, cc, rfl, hcc, hmc, idx7⟩, hrow7, B7, sz7⟩
          obtain ⟨d1, d2, d3⟩ := str_nonempty hd
          have HP := Lib.hid (HPT.out hd)
          clear hd HSK HPT
          have hnl := Nat.le_trans (firstE_len ev) hel2
          have HSN := Lib.hid (fun h => idx_snoc (ev := ev) (x := nx) h)
          have HFN := Lib.hid (firstE_next ev nx k)
          have HND := Lib.hid (nodup_firstU (nodup_firstE ev) nx)
          have HTL := Lib.hid (turns_last HAS2.out nx)
          have hLl := idxW_len (firstE ev) ev
          have htl := Nat.le_trans (turnsE_len ev nx) hel2
          obtain ⟨us, hus⟩ : ∃ us, us = firstE ev := ⟨_, rfl⟩
          rw [← hus] at hcc idx7 hnl HSN HFN HND hLl ⊢
          clear hus
          have HIF := Lib.hid (IndexFunc_idx (.slice (some ⟨gc, 0, none⟩) us.length cc) w6.heap.size (idxW us ev) nx W7 idx7 bx7 (by omega))
          go_upto_region 11 with fail
          rw [← hW7]
          clear hW7
          go_wp2_with fail
          refine HIF.out.mono ?_
          rintro e w8 ⟨⟨r, rfl, hfind⟩, b8⟩
          rw [idxW_fst] at hfind
          have HFI := Lib.hid hfind
          have idx8 := idx7.far b8
          have hrow8 := row_below hrow7 b8
          have B8 := B7.trans (b8.mono B7.size)
          have sz8 : w.heap.size + 1 ≤ w8.heap.size := Nat.le_trans sz7 b8.size
          have cx8 := (bx7.far b8).cell
          clear hfind HIF idx7 hrow7 B7 b8 cx7 bx7
          go_upto_if 38 with fail
          go_cut [4, 10] from 27 to 66 (fun v i wx => ∃ p : Nat, i = .int .i64 p ∧ (firstU us nx)[p]? = some nx ∧ IdxQ (w.heap.size + 1) wx v (firstU us nx) ev ∧ wx.ownsRow (w.heap.size + 1) 9 1 (.slice (some ⟨gw, 0, none⟩) zs.length cw) zs.length (strsV zs) ∧ Below w.heap.size w wx ∧ w.heap.size + 1 ≤ wx.heap.size)
          case first =>
            rcases HFI.out with ⟨rfl, hno⟩ | ⟨p, rfl, hp⟩
            · have HFO := Lib.hid (firstU_out hno)
              have HSN2 := Lib.hid (HSN.out hno)
              clear hno
              obtain ⟨ps, hps⟩ := idx8
              have hps2 := hps.2.1
              rw [hLl] at hps2
              have HPS := Lib.hid hps
              clear hps
              go_wp2_with (at_builtin; refine wpList_append_at (ys := [.string nx, .slice none 0 0]) hps2 sz8 (.tmp 39) (.tmp 42) 28 Tryd.underlying28 info_idx (by omega) (by unfold maxLen; omega) ⟨rfl, rfl, rfl, rfl, (fun y hy => by simp only [List.mem_cons, List.not_mem_nil, or_false] at hy; rcases hy with rfl | rfl <;> rfl), rfl, rfl, by decide⟩ rfl ?_; intro v9 w9 own9 gr9 at9; obtain ⟨gc6, cc6, hv6, -, -, hn6, hm6⟩ := row_some own9 (by omega); subst hv6)
              all_goals
                go_meet
                refine ⟨us.length, rfl, by rw [HFO.out]; simp, ?_, ?_, ?_, Nat.le_trans sz8 gr9.size⟩
                · rw [HFO.out]
                  refine ⟨gc6, cc6, by rw [List.length_append]; rfl, by rw [List.length_append]; exact hn6, hm6, ?_⟩
                  rw [HSN2.out]
                  exact HPS.out.snoc gr9 (by rw [hLl]; exact own9)
                · exact hrow8.kept gr9 (.inr (fun e => rows_apart hrow8 hps2 (by decide) gw rfl e.symm))
                · exact B8.grown gr9 B8.size (fun g hg => by have := (hps2.lt g hg).1; omega)
            · have hin : nx ∈ us := List.mem_of_getElem? hp
              have HFO := Lib.hid (firstU_in hin)
              have HPQ := Lib.hid hp
              have q1 : ¬ ((p : Int) < 0) := by omega
              clear hin hp
              go_wp2
              go_meet
              exact ⟨p, rfl, by rw [HFO.out]; exact HPQ.out, by rw [HFO.out]; exact ⟨gc, cc, rfl, hcc, hmc, idx8⟩, hrow8, B8, sz8⟩
          case rest =>
          obtain ⟨p, rfl, hpu, ⟨gc6, cc6, rfl, hn7, hm7, idx9⟩, hrow9, B9, sz9⟩ := hcut
          have hpn : p < (firstU us nx).length := (List.getElem?_eq_some_iff.1 hpu).1
          have hil : (firstU us nx).length ≤ 1241 := Nat.le_trans (firstU_len us nx) (by omega)
          have hl8 := idxW_len (firstU us nx) ev
          have HNX2 := Lib.hid (idx_next (ev := ev) (i := k) HND.out hpu)
          have HAT := Lib.hid (idxW_at (ev := ev) hpu)
          clear idx8 hrow8 B8 hcc hmc hLl HSN HND cx8 hpu
          generalize his : firstU us nx = is_ at *
          clear his
          obtain ⟨ts, hts9⟩ : ∃ ts, ts = turnsE ev nx := ⟨_, rfl⟩
          rw [← hts9] at htl HNX2 HAT HTL
          clear hts9
          obtain ⟨g9, cap9, hv9, hg8, hg9, hg10, hg11, hfz, hat⟩ := idx9.open_ (by omega)
          rw [hl8] at hv9
          injection hv9 with hv9a _ hv9c
          injection hv9a with hv9a
          injection hv9a with hv9a
          subst hv9a hv9c
          obtain ⟨ut, e1, e2, rowt⟩ := hat p _ HAT.out
          simp only at e1 e2 rowt
          obtain ⟨At, ct, hut, hrt, hct1, hct2⟩ := (Own.of_row rowt).slice
          subst hut
          clear hat
          have pp : (p : Int) < (is_.length : Int) := by omega
          have p0 : (0 : Int) ≤ (p : Int) := by omega
          have HH := Lib.hid (impl_has At ct ts (k : Int) wc hrt (by omega))
          go_wp2_with fail
          refine HH.out.mono ?_
          rw [HTL.out]
          rintro e w10 ⟨rfl, rfl⟩
          cases hbq : decide (ts.getLast? = some (k : Int))
          · have hadd : addT ts k = ts ++ [(k : Int)] := by unfold addT; rw [if_neg (by simpa using hbq)]
            have HX9 := HNX2.out
            rw [hadd] at HX9
            have HX := Lib.hid HX9
            clear HX9 hadd hbq
            rw [← hl8] at idx9
            obtain ⟨ps, hps⟩ := idx9
            have HNO2 := Lib.hid (rows_apart (h' := hrow9) rowt (by decide))
            have HNG2 := Lib.hid (rows_apart hrow9 hps.2.1 (by decide))
            have HI8 := Lib.hid (show IdxS _ _ _ _ from ⟨ps, hps⟩)
            clear hps
            go_wp2_with (at_builtin; refine wpList_append_oneA rowt sz9 (.tmp 60) (.tmp 62) 31 Tryd.underlying31 info_int (by omega) (by unfold maxLen; omega) ⟨rfl, rfl, rfl, rfl, rfl, rfl⟩ (by simp) ?_; intro v10 w10 hown10 hg10 hat10; obtain ⟨A10, c10, rfl, -, -, -⟩ := (Own.of_row hown10).slice; have hS := IdxS.set (r2 := ts ++ [(k : Int)]) HI8.out HAT.out e2 (by simpa [ints] using hown10) hg10 hat10; have cS := hS.2.1; have fS := hS.2.2; have HS := Lib.hid hS.1; clear hS)
            go_roundg (zs.length - (m + 1))
            case measure => omega
            case rel =>
              refine ⟨m + 1, rfl, by omega, by go_num, ?_, ?_, ?_, ?_⟩
              · rw [HP.out, HFN.out]
                exact ⟨gc6, cc6, rfl, hn7, hm7, by rw [HX.out, ← hl8]; exact HS.out⟩
              · exact ownsRow_setCell_other (a := ⟨gc6, p * 2 + 1, none⟩) (hrow9.kept hg10 (.inr fun e => HNO2.out gw e.symm rfl)) (fun e => HNG2.out gc6 e rfl) _
              · exact (B9.grown hg10 B9.size (fun g hg => by have := (rowt.lt g hg).1; omega)).setCell (p := ⟨gc6, p * 2 + 1, none⟩) (show w.heap.size ≤ gc6 by omega) _
              · have := hg10.size
                simp
                omega
          · have hadd : addT ts k = ts := by unfold addT; rw [if_pos (by simpa using hbq)]
            have HX9 := HNX2.out
            rw [hadd, set_same HAT.out] at HX9
            have HX := Lib.hid HX9
            clear HX9 hadd hbq
            go_wp2
            go_roundg (zs.length - (m + 1))
            case measure => omega
            case rel => exact ⟨m + 1, rfl, by omega, by go_num, by rw [HP.out, HFN.out]; exact ⟨gc6, cc6, rfl, hn7, hm7, by rw [HX.out]; exact idx9⟩, hrow9, B9, sz9⟩
        · obtain rfl : m = zs.length := by omega
          go_wp2
          go_roundg (l.length - (k + 1))
          case measure => omega
          case rel => exact ⟨k + 1, rfl, hlt, by go_num, by rw [HNX.out]; exact ⟨gc, cc, rfl, hcc, hmc, idx⟩, hb, sz⟩
    · obtain rfl : k = l.length := by omega
      have hel := evT_len HV.out l.length
      have hfl := firstE_len (evT l l.length)
      have hLl := idxW_len (firstE (evT l l.length)) (evT l l.length)
      have hgc : w.heap.size + 1 ≤ gc := by
        obtain ⟨ps, hps⟩ := idx
        exact (hps.2.1.lt gc rfl).1
      rw [← hLl] at idx
      have HSO := Lib.hid (sort_idx _ wr idx (by rw [idxW_fst]; exact nodup_firstE _) (by omega))
      rw [hLl] at HSO
      go_wp2_with fail
      refine HSO.out.mono ?_
      rintro e w4 ⟨rfl, ⟨L', hl', hm', hs', hi'⟩, hon⟩
      have HD := Lib.hid (idx_done hm' hs')
      clear HSO idx hs' hm'
      go_wp2
      go_ret2
      exact ⟨_, by rw [HV.out]; rfl, by rw [indexL, HV.out]; show IdxS _ _ _ (idxE (evT l l.length)); rw [← HD.out]; exact hi'.base (by omega), hb.trans (hon.below (B := w.heap.size) (by omega) hb.size)⟩
end Go.Proofs.YthokekgdiebhjaaDoor
