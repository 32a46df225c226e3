/-
  The program's FindPhrase.
-/
import Derived.Test.YthokekgdiebhjaaDoorFindPl
import Derived.Test.YthokekgdiebhjaaDoorRowsStep
import Derived.Test.YthokekgdiebhjaaDoorConcI
namespace Go.Proofs.YthokekgdiebhjaaDoor
open Go.RowKit
set_option linter.unusedVariables false
set_option maxRecDepth 100000

def FindRes (l : List TurnD) (phrase : ByteArray) (w : World) (e : Ending) (w' : World) : Prop :=
  ∃ v, e = .returned (.tuple #[v, .bool (findB l phrase)]) ∧ OwnSS w' w.heap.size w'.heap.size v (findL l phrase) ∧ Below w.heap.size w w'
theorem find_no {l : List TurnD} {phrase : ByteArray} {w w' : World} (h : findB l phrase = false) (hb : Below w.heap.size w w') : FindRes l phrase w (.returned (.tuple #[.slice none 0 0, .bool false])) w' :=
  ⟨_, by rw [h], by rw [findL, h]; exact OwnSS.none_ _ _ _, hb⟩

set_option maxHeartbeats 2000000 in
theorem impl_normalized (A : Option Addr) (n cap : Nat) (zs : List ByteArray) (w : World) (hn : n = zs.length) (hr : Reads w w.heap.size 1 A n (strsV zs)) (hl : n ≤ 1048576) (hz : ∀ x ∈ zs, x.size ≤ 1048576) :
    Calls Tryd.prog 34 #[.slice A n cap] w (NewStrs (normL zs) w) := by
  subst hn
  have HZ := Lib.hid hz
  clear hz
  go_enter Tryd.func34, Tryd.ntmps34
  go_wp2
  go_loopw [3, 9] (fun v i wr => ∃ k : Nat, k ≤ zs.length ∧ i = .int .i64 k ∧ wr.ownsRow w.heap.size 9 1 v k (strsV ((normL zs).take k)) ∧ Below w.heap.size w wr) (fun _ i _ => zs.length - (intOf i).toNat)
  case atStart => exact ⟨0, Nat.zero_le _, rfl, World.ownsRow_made _ _ _ (Nat.le_refl _) (by simp) rfl, (Below.refl _ _).alloc (Nat.le_refl _) _⟩
  case round =>
    obtain ⟨k, hk, rfl, hown, hb⟩ := hrel
    by_cases hlt : k < zs.length
    · obtain ⟨b, off, rfl, hb0, hc⟩ := (hr.below hb).2 (by omega)
      obtain ⟨x, hx⟩ := some_at zs hlt
      have cx : wr.cell? ⟨b, off + k, none⟩ = some (.string x) := hc k _ (strsV_at hx)
      have hxz := HZ.out x (List.mem_of_getElem? hx)
      have HT := Lib.hid (take_succ_of (normL_at hx))
      clear hx hc
      go_wp2_with fail
      refine (impl_NormalizeWord x _ hxz).mono ?_
      rintro e w1 ⟨rfl, b1⟩
      have hown1 := row_below hown b1
      have B1 := hb.trans (b1.mono hb.size)
      have s1 := B1.size
      go_wp2_with (at_builtin; refine wpList_append_one hown1 s1 (.tmp 13) (.tmp 16) 53 Tryd.underlying53 info_string (by omega) (by unfold maxLen; omega) ⟨rfl, rfl, rfl, rfl, rfl, rfl⟩ (by simp) ?_; intro v2 w2 hown2 hb2 _)
      go_roundw
      case rel => exact ⟨k + 1, by omega, by go_num, by rw [HT.out, strsV_snoc]; exact hown2, B1.trans hb2⟩
      case measure => simp [intOf]; omega
    · obtain rfl : k = zs.length := by omega
      go_wp2
      go_ret
      exact ⟨_, rfl, by rw [normL_length]; rw [List.take_of_length_le (by rw [normL_length]; exact Nat.le_refl _)] at hown; exact Own.of_row hown, hb⟩

/-- slices.Equal of a part of a row and a row. -/
theorem impl_Equal (lo lo' g g' n n' c c' a k kk cc : Nat) (hkk : kk = k) (xs ys : List ByteArray) (w : World) (hx : w.ownsRow lo 9 1 (.slice (some ⟨g, 0, none⟩) n c) n (strsV xs)) (hy : w.ownsRow lo' 9 1 (.slice (some ⟨g', 0, none⟩) n' c') n' (strsV ys)) (hk : a + k ≤ xs.length) (hb : xs.length ≤ 1048576) (hb2 : ys.length ≤ 1048576) :
    Calls Tryd.prog 36 #[.slice (some ⟨g, a, none⟩) kk cc, .slice (some ⟨g', 0, none⟩) n' c'] w fun e w' => e = .returned (.bool (decide ((xs.drop a).take kk = ys))) ∧ Below w.heap.size w w' := by
  subst hkk
  have hn' : n' = ys.length := by have := hy.1; rw [strsV_length] at this; omega
  have hn : n = xs.length := by have := hx.1; rw [strsV_length] at this; omega
  refine (Tryd.slices_Equal_string g a kk cc g' 0 n' c' (xs.drop a) ys w (by simp; omega) (by omega) (by omega) (by omega) (fun j hj => ?_) (fun j hj => ?_)).mono ?_
  · simp only [List.length_drop] at hj
    obtain ⟨x, hx'⟩ := some_at xs (show a + j < xs.length by omega)
    rw [hx.cellAt (a + j) (by omega), strsV_at hx', List.getD_eq_getElem?_getD, List.getElem?_drop, hx']
    rfl
  · obtain ⟨y, hy'⟩ := some_at ys hj
    rw [Nat.zero_add, hy.cellAt j (by omega), strsV_at hy', List.getD_eq_getElem?_getD, hy']
    rfl
  · rintro e w' ⟨rfl, q, rfl⟩
    refine ⟨?_, below_drewN (Below.refl _ _) q⟩
    rw [hn', List.take_of_length_le (l := ys) (Nat.le_refl _)]

set_option maxHeartbeats 8000000 in
theorem impl_FindPhrase (A : Option Addr) (cap : Nat) (l : List TurnD) (ph : ByteArray) (w : World) (hr : Reads w w.heap.size 2 A l.length (turnsV l)) (hn : l.length ≤ 1048576) (ht : ShortT l) (hs : ph.size ≤ 1048576) (hmx : MaxOk w) :
    Calls Tryd.prog 11 #[.agg #[.slice A l.length cap], .string ph] w (FindRes l ph w) := by
  have HT := Lib.hid ht
  have HM := Lib.hid hmx
  clear ht hmx
  obtain ⟨W1, hW1⟩ : ∃ W1, W1 = w.alloc (.cells #[.slice A l.length cap] 26) := ⟨_, rfl⟩
  have hb1 : Below w.heap.size w W1 := by rw [hW1]; exact (Below.refl _ _).alloc (Nat.le_refl _) _
  have bP : Box W1 w.heap.size 26 (.slice A l.length cap) := by rw [hW1]; exact Box.new w _ _
  cases hv : transB l
  · have HNO := Lib.hid (show findB l ph = false by simp [findB, hv])
    go_enter Tryd.func11, Tryd.ntmps11
    go_wp2_with fail
    rw [← hW1]
    clear hW1
    refine (impl_IsValidTranscript A cap l _ ((hr.below hb1).more hb1.size) (by omega) HT.out (HM.out.below hb1)).mono ?_
    rw [hv]
    rintro e w3 ⟨rfl, b3⟩
    go_wp2
    go_ret2
    exact find_no HNO.out (hb1.trans (b3.mono hb1.size))
  have HV := Lib.hid hv
  go_enter Tryd.func11, Tryd.ntmps11
  go_wp2_with fail
  rw [← hW1]
  clear hW1
  refine (impl_IsValidTranscript A cap l _ ((hr.below hb1).more hb1.size) (by omega) HT.out (HM.out.below hb1)).mono ?_
  rw [hv]
  clear hv
  rintro e w3 ⟨rfl, b3⟩
  have B3 := hb1.trans (b3.mono hb1.size)
  have bP3 := bP.far b3
  cases htx : textB ph
  · have HNO := Lib.hid (show findB l ph = false by simp [findB, htx])
    go_wp2_with fail
    refine (impl_isTurnText ph _ (by omega) (HM.out.below B3)).mono ?_
    rw [htx]
    rintro e w4 ⟨rfl, b4⟩
    go_wp2
    go_ret2
    exact find_no HNO.out (B3.trans (b4.mono B3.size))
  have HCB := Lib.hid (show findB l ph = true by simp [findB, HV.out, htx])
  have HTX := Lib.hid htx
  have h30 := trans_len HV.out
  obtain ⟨hdl, hdz⟩ := text_len htx
  have hd0 : 0 < (wordsV ph).length := text_some htx
  have HDZ := Lib.hid hdz
  have HWP := Lib.hid (text_words htx)
  go_wp2_with fail
  refine (impl_isTurnText ph _ (by omega) (HM.out.below B3)).mono ?_
  rw [htx]
  clear htx hdz
  rintro e w4 ⟨rfl, b4⟩
  have B4 := B3.trans (b4.mono B3.size)
  have bP4 := bP3.far b4
  have B4a := B4.alloc B4.size (.cells #[] 31)
  have bP4a := bP4.alloc (.cells #[] 31)
  have own0 : (w4.alloc (.cells #[] 31)).ownsRow (w.heap.size + 1) 31 1 (.slice (some ⟨w4.heap.size, 0, none⟩) 0 0) 0 [] := World.ownsRow_made _ _ _ bP4.lt (by simp) rfl
  clear bP bP3
  go_wp2_with fail
  generalize hWA : w4.alloc (.cells #[] 31) = wa at *
  refine (impl_Split ph 32 _ (by omega) (HM.out.below B4a)).mono ?_
  rintro e w5 ⟨v5, rfl, o5, b5⟩
  rw [← HWP.out] at o5
  obtain ⟨A5, c5, rfl, r5, -, -⟩ := o5.slice
  have B5 := B4a.trans (b5.mono B4a.size)
  have bP5 := bP4a.far b5
  have own5 := row_below own0 b5
  go_wp2_with fail
  refine (impl_normalized A5 _ c5 (wordsV ph) _ rfl r5 (by omega) (fun x hx => by have := HDZ.out x hx; omega)).mono ?_
  rintro e w6 ⟨v6, rfl, o6, b6⟩
  rw [normL_length] at o6
  have B6 := B5.trans (b6.mono B5.size)
  have bP6 := bP5.far b6
  have own6 := row_below own5 b6
  obtain ⟨gd, cd, hvd, gd1, gd2, gd3, gd4, gd5, -, -⟩ := o6.open_ hd0
  subst hvd
  have hdue0 := o6.1
  have cP6 := bP6.cell
  have sP6 : w.heap.size + 1 ≤ w6.heap.size := bP6.lt
  clear o6 o5 r5 own5 own0 bP4 bP4a bP5 B4 B4a B5 b4 b5 b6 b3 B3 hWA
  obtain ⟨lod, hlod⟩ : ∃ lod, lod = w5.heap.size := ⟨_, rfl⟩
  rw [← hlod] at hdue0
  clear hlod gd1 gd2
  generalize hds : wordsV ph = ds at *
  have HDS := Lib.hid hds
  clear hds
  go_wp2
  go_loopw [6, 27] (fun v i wr => ∃ (k : Nat) (vs : List Value), k ≤ l.length ∧ i = .int .i64 k ∧ wr.ownsRow (w.heap.size + 1) 31 1 v (placesT ds l k).length vs ∧ RowsAt wr (w.heap.size + 1) vs (placesT ds l k) ∧ wr.ownsRow lod 9 1 (.slice (some ⟨gd, 0, none⟩) ds.length cd) ds.length (strsV (normL ds)) ∧ Below w.heap.size w wr ∧ w.heap.size + 1 ≤ wr.heap.size) (fun _ i _ => l.length - (intOf i).toNat)
  case atStart => exact ⟨0, [], Nat.zero_le _, rfl, own6, RowsAt.nil _ _, hdue0, B6, sP6⟩
  case round =>
    obtain ⟨k, vs, hk, rfl, hown, hrows, hdue, hb, sz⟩ := hrel
    by_cases hlt : k < l.length
    · obtain ⟨b, off, hA, hb0, hc⟩ := (hr.below hb).2 (by omega)
      subst hA
      obtain ⟨⟨sp, tx⟩, hx⟩ := some_at l hlt
      obtain ⟨c1, c2⟩ := Reads.turn hc hx
      have htx := turn_text HV.out hx
      simp only at htx c1 c2
      have hts := (HT.out _ (List.mem_of_getElem? hx)).2
      simp only at hts
      obtain ⟨hwl, hwz⟩ := text_len htx
      have HNX := Lib.hid (placesT_next (due := ds) hx)
      have hlt2 := placesT_len HV.out ds k
      have HWZ := Lib.hid hwz
      have HTX2 := Lib.hid htx
      have hw0 : 0 < (wordsV tx).length := text_some htx
      have i0 : (0 : Int) ≤ (k : Int) := by omega
      have i1 : (k : Int) < (l.length : Int) := by omega
      have hbA := hb.alloc hb.size (.cells #[.string sp, .string tx] 52)
      clear hx hc htx hwz cP6
      go_wp2_with fail
      refine (impl_words sp tx _ hts HTX2.out (HM.out.below hbA)).mono ?_
      rintro e w7 ⟨v7, rfl, o7, b7⟩
      have b7' : Below wr.heap.size wr w7 := ((Below.refl _ _).alloc (Nat.le_refl _) _).trans (b7.mono (by simp))
      obtain ⟨A7, c7, rfl, r7, -, -⟩ := o7.slice
      go_wp2_with fail
      refine (impl_normalized A7 _ c7 (wordsV tx) _ rfl r7 (by omega) (fun x hx => by have := HWZ.out x hx; omega)).mono ?_
      rintro e w8 ⟨v8, rfl, o8, b8⟩
      rw [normL_length] at o8
      have b78 := b7'.trans (b8.mono b7'.size)
      have own8 := row_below hown b78
      have rows8 := hrows.below b78
      have due8 := row_below hdue b78
      have B8 := hb.trans (b78.mono hb.size)
      have sz8 := Nat.le_trans sz b78.size
      obtain ⟨gw, cw, hvw, -, -, -, hnc, hcm, -, -⟩ := o8.open_ hw0
      subst hvw
      obtain ⟨lo, hlo⟩ : ∃ lo, lo = w7.heap.size := ⟨_, rfl⟩
      have row8 := o8.1
      rw [← hlo] at row8
      clear hlo o8 o7 r7 b7 b7' b8 b78 hown hrows hdue hb hbA c1 c2
      generalize wordsV tx = zs at *
      generalize placesT ds l k = os at *
      go_wp2
      go_loopw [6, 11] (fun v j wr => ∃ (m : Nat) (vs : List Value), m ≤ zs.length + 1 - ds.length ∧ j = .int .i64 m ∧ wr.ownsRow (w.heap.size + 1) 31 1 v (os ++ placesK ds zs k m).length vs ∧ RowsAt wr (w.heap.size + 1) vs (os ++ placesK ds zs k m) ∧ wr.ownsRow lod 9 1 (.slice (some ⟨gd, 0, none⟩) ds.length cd) ds.length (strsV (normL ds)) ∧ wr.ownsRow lo 9 1 (.slice (some ⟨gw, 0, none⟩) zs.length cw) zs.length (strsV (normL zs)) ∧ Below w.heap.size w wr ∧ w.heap.size + 1 ≤ wr.heap.size) (fun _ j _ => zs.length + 1 - (intOf j).toNat)
      case atStart => exact ⟨0, vs, Nat.zero_le _, rfl, by rw [placesK, List.append_nil]; exact own8, by rw [placesK, List.append_nil]; exact rows8, due8, row8, B8, sz8⟩
      case round =>
        obtain ⟨m, vs, hm, rfl, hown, hrows, hdue, hwrow, hb, sz⟩ := hrel
        have hpl := placesK_len ds zs k m
        have hoz : (os ++ placesK ds zs k m).length ≤ 1300 := by rw [List.length_append]; omega
        by_cases hmt : m + ds.length ≤ zs.length
        · have j1 : (m : Int) + (ds.length : Int) ≤ (zs.length : Int) := by omega
          have j2 : (0 : Int) ≤ (m : Int) := by omega
          have j3 : (m : Int) ≤ (m : Int) + (ds.length : Int) := by omega
          have j4 : (m : Int) + (ds.length : Int) ≤ (cw : Int) := by omega
          have hck : ¬ cw = m := by omega
          cases hst : stands ds zs m
          · have HND := Lib.hid (placesK_no (i := k) hst)
            have HST := Lib.hid (show decide (((normL zs).drop m).take ds.length = normL ds) = false from hst)
            clear hst
            go_wp2_with fail
            refine (impl_Equal lo lod gw gd zs.length ds.length cw cd m ds.length _ _ (by omega) (normL zs) (normL ds) _ hwrow hdue (by rw [normL_length]; omega) (by rw [normL_length]; omega) (by rw [normL_length]; omega)).mono ?_
            rintro e w9 ⟨rfl, b9⟩
            rw [HST.out]
            have B9 := hb.trans (b9.mono hb.size)
            have hown9 := row_below hown b9
            have hrows9 := hrows.below b9
            have hdue9 := row_below hdue b9
            have hw9 := row_below hwrow b9
            have sz9 := Nat.le_trans sz b9.size
            clear hown hrows hdue hwrow b9 hb
            go_wp2
            go_roundw
            case rel => exact ⟨m + 1, vs, by omega, by go_num, by rw [HND.out]; exact hown9, by rw [HND.out]; exact hrows9, hdue9, hw9, B9, sz9⟩
            case measure => simp [intOf]; omega
          · have HY := Lib.hid (placesK_yes (i := k) hst)
            have HST := Lib.hid (show decide (((normL zs).drop m).take ds.length = normL ds) = true from hst)
            clear hst
            go_wp2_with fail
            refine (impl_Equal lo lod gw gd zs.length ds.length cw cd m ds.length _ _ (by omega) (normL zs) (normL ds) _ hwrow hdue (by rw [normL_length]; omega) (by rw [normL_length]; omega) (by rw [normL_length]; omega)).mono ?_
            rintro e w9 ⟨rfl, b9⟩
            rw [HST.out]
            have B9 := hb.trans (b9.mono hb.size)
            have hown9 := row_below hown b9
            have hrows9 := hrows.below b9
            have hdue9 := row_below hdue b9
            have hw9 := row_below hwrow b9
            have sz9 := Nat.le_trans sz b9.size
            clear hown hrows hdue hwrow b9 hb
            have hownA := hown9.alloc (.cells #[.int .i64 k, .int .i64 m] 3)
            have szA : w.heap.size + 1 ≤ (w9.alloc (.cells #[.int .i64 k, .int .i64 m] 3)).heap.size := by simp; omega
            have BA := B9.alloc B9.size (.cells #[.int .i64 k, .int .i64 m] 3)
            have HD9 := Lib.hid (rows_apart hdue9 hown9 (by decide) gd rfl)
            have HW9 := Lib.hid (rows_apart hw9 hown9 (by decide) gw rfl)
            go_wp2_with (at_builtin; refine wpList_append_oneA hownA szA (.tmp 53) (.tmp 57) 36 Tryd.underlying36 infos_int (by omega) (by unfold maxLen; omega) ⟨rfl, rfl, rfl, rfl, rfl, rfl⟩ (by simp) ?_; intro v10 w10 hown10 hg10 hat10)
            have hrs := rows_step (r := [(k : Int), (m : Int)]) hown9 hrows9 sz9 (by simp) (by exact hg10)
            go_roundw
            case rel => exact ⟨m + 1, vs ++ [.slice (some ⟨w9.heap.size, 0, none⟩) 2 2], by omega, by go_num, by rw [HY.out, ← List.append_assoc, List.length_append]; exact hown10, by rw [HY.out, ← List.append_assoc]; exact hrs, (hdue9.alloc _).kept hg10 (.inr (fun h => HD9.out h.symm)), (hw9.alloc _).kept hg10 (.inr (fun h => HW9.out h.symm)), below_grown BA hg10 BA.size hownA rfl (by omega), Nat.le_trans szA hg10.size⟩
            case measure => simp [intOf]; omega
        · have hme : m = zs.length + 1 - ds.length := by omega
          have j1 : ¬ (m : Int) + (ds.length : Int) ≤ (zs.length : Int) := by omega
          have HME := Lib.hid hme
          clear hme
          go_wp2
          go_roundw
          case rel => exact ⟨k + 1, vs, by omega, by go_num, by rw [HNX.out, ← HME.out]; exact hown, by rw [HNX.out, ← HME.out]; exact hrows, hdue, hb, sz⟩
          case measure => simp [intOf]; omega
    · obtain rfl : k = l.length := by omega
      go_wp2
      go_ret2
      have hcl : findL l ph = placesT ds l l.length := by rw [findL, if_pos HCB.out, HDS.out]
      refine ⟨u6, by rw [HCB.out]; rfl, ?_, hb⟩
      rw [hcl]
      obtain ⟨vs', h1, h2, h3⟩ := OwnSS.of_rows hown hrows
      exact ⟨vs', ⟨h1.1.base (by omega), h1.2⟩, ⟨h2.len, fun j u r hu hr => (h2.row j u r hu hr).base (by omega), h2.apart⟩, h3⟩
end Go.Proofs.YthokekgdiebhjaaDoor
