/-
  The reference's WordIndex.
-/
import Derived.Test.YthokekgdiebhjaaDoorIdxM
import Derived.Test.YthokekgdiebhjaaDoorSpeakS
namespace Go.Proofs.YthokekgdiebhjaaDoor
open Go.RowKit
set_option linter.unusedVariables false
set_option linter.unusedSimpArgs false
set_option maxRecDepth 100000

theorem normS_size (s : ByteArray) : (normS s).size ≤ s.size := by
  have h := norm_le s.data.toList
  rw [Array.length_toList] at h
  show (norm s.data.toList).toArray.size ≤ s.data.size
  rw [List.size_toArray]
  exact h
theorem set_same {α : Type} {l : List α} {p : Nat} {a : α} (h : l[p]? = some a) : l.set p a = l := by
  apply List.ext_getElem?
  intro j
  rw [List.getElem?_set]
  split
  · next e => subst e; rw [if_pos (List.getElem?_eq_some_iff.1 h).1, h]
  · rfl
theorem evK_sz {ws : List ByteArray} (h : ∀ x ∈ ws, x.size ≤ 80) (i : Nat) : ∀ n, ∀ e ∈ evK ws i n, e.1.size ≤ 80
  | 0, e, he => by simp [evK] at he
  | n + 1, e, he => by
    have ih := evK_sz h i n
    cases hx : ws[n]? with
    | none => simp [evK, hx] at he; exact ih e he
    | some x =>
      by_cases hn : normS x = ⟨#[]⟩
      · rw [evK_skip hx hn] at he; exact ih e he
      · rw [evK_put hx hn] at he
        rcases List.mem_append.1 he with h1 | h1
        · exact ih e h1
        · rw [List.mem_singleton] at h1
          subst h1
          exact Nat.le_trans (normS_size x) (h x (List.mem_of_getElem? hx))
theorem evT_sz {l : List TurnD} (hv : transB l = true) : ∀ k, ∀ e ∈ evT l k, e.1.size ≤ 80
  | 0, e, he => by simp [evT] at he
  | k + 1, e, he => by
    have ih := evT_sz hv k
    cases hc : l[k]? with
    | none => simp [evT, hc] at he; exact ih e he
    | some c =>
      rw [evT_next hc] at he
      rcases List.mem_append.1 he with h1 | h1
      · exact ih e h1
      · exact evK_sz (fun x hx => ((text_len (turn_text hv hc)).2 x hx).2) k _ e h1
/-- The words and their index in memory. -/
def IdxW (lo : Nat) (w : World) (v u : Value) (ns : List ByteArray) (ev : List EvD) : Prop :=
  ∃ g c g' c', v = .slice (some ⟨g, 0, none⟩) ns.length c ∧ ns.length ≤ c ∧ c ≤ maxLen ∧ w.ownsRow lo 9 1 v ns.length (strsV ns) ∧ u = .slice (some ⟨g', 0, none⟩) ns.length c' ∧ ns.length ≤ c' ∧ c' ≤ maxLen ∧ IdxS lo w u (idxW ns ev)
def IndexRes (l : List TurnD) (w : World) (e : Ending) (w' : World) : Prop :=
  ∃ v, e = .returned (.tuple #[v, .bool (transB l)]) ∧ IdxS w.heap.size w' v (indexL l) ∧ Below w.heap.size w w'
theorem wordIndex_no {l : List TurnD} {w w' : World} (h : transB l = false) (hb : Below w.heap.size w w') : IndexRes l w (.returned (.tuple #[.slice none 0 0, .bool false])) w' :=
  ⟨_, by rw [h], by
    rw [indexL, h]
    exact ⟨[], rfl, World.ownsRow_nil _ _ _ _, fun j p c h => by simp at h, RowsAt.nil _ _⟩, hb⟩
theorem IdxS.base {lo lo' : Nat} {w : World} {v : Value} {L : List IdxD} (h : IdxS lo w v L) (hl : lo' ≤ lo) : IdxS lo' w v L := by
  obtain ⟨ps, h1, h2, h3, h4⟩ := h
  exact ⟨ps, h1, h2.base hl, h3, h4.len, fun j u r hu hr => (h4.row j u r hu hr).base hl, h4.apart⟩

set_option maxHeartbeats 16000000 in
theorem spec_WordIndex (A : Option Addr) (cap : Nat) (l : List TurnD) (w : World) (hr : Reads w w.heap.size 2 A l.length (turnsV l)) (hn : l.length ≤ 1048576) (ht : ShortT l) :
    Calls Tryd.prog 8 #[.agg #[.slice A l.length cap]] w (IndexRes l w) := by
  have HT := Lib.hid ht
  clear ht
  obtain ⟨W1, hW1⟩ : ∃ W1, W1 = w.alloc (.cells #[.slice A l.length cap] 26) := ⟨_, rfl⟩
  have hb1 : Below w.heap.size w W1 := by rw [hW1]; exact (Below.refl _ _).alloc (Nat.le_refl _) _
  have bP : Box W1 w.heap.size 26 (.slice A l.length cap) := by rw [hW1]; exact Box.new w _ _
  cases hv : transB l
  · have HV := Lib.hid hv
    go_enter Tryd.func8, Tryd.ntmps8
    go_wp2_with fail
    rw [← hW1]
    clear hW1
    refine (spec_IsValidTranscript A cap l _ ((hr.below hb1).more hb1.size) (by omega) HT.out).mono ?_
    rw [hv]
    clear hv
    rintro e w3 ⟨rfl, b3⟩
    go_wp2
    go_ret2
    exact wordIndex_no HV.out (hb1.trans (b3.mono hb1.size))
  have HV := Lib.hid hv
  go_enter Tryd.func8, Tryd.ntmps8
  go_wp2_with fail
  rw [← hW1]
  clear hW1
  refine (spec_IsValidTranscript A cap l _ ((hr.below hb1).more hb1.size) (by omega) HT.out).mono ?_
  rw [hv]
  clear hv
  rintro e w3 ⟨rfl, b3⟩
  have bP3 := bP.far b3
  have B3 := hb1.trans (b3.mono hb1.size)
  clear bP
  have h30 := trans_len HV.out
  have s3 : w.heap.size + 1 ≤ w3.heap.size := bP3.lt
  have on0 : ((w3.alloc (.cells #[] 9)).alloc (.cells #[] 33)).ownsRow (w.heap.size + 1) 9 1 (.slice (some ⟨w3.heap.size, 0, none⟩) 0 0) 0 [] := (World.ownsRow_made _ _ _ s3 (by simp) rfl).alloc _
  have oc0 : IdxS (w.heap.size + 1) ((w3.alloc (.cells #[] 9)).alloc (.cells #[] 33)) (.slice (some ⟨w3.heap.size + 1, 0, none⟩) 0 0) [] := by
    have := IdxS.made (lo := w.heap.size + 1) (w := w3.alloc (.cells #[] 9)) (by simp; omega)
    simpa using this
  have bP4 := (bP3.alloc (.cells #[] 9)).alloc (.cells #[] 33)
  have B4 := (B3.alloc B3.size (.cells #[] 9)).alloc (by simp; omega) (.cells #[] 33)
  have HOT := Lib.hid (strs_one)
  clear bP3 B3 b3 hb1
  go_wp2
  go_loopg [4, 5, 6] (l.length) (fun n v u i wr => ∃ k : Nat, n = l.length - k ∧ k ≤ l.length ∧ i = .int .i64 k ∧ IdxW (w.heap.size + 1) wr v u (namesE (evT l k)) (evT l k) ∧ Box wr w.heap.size 26 (.slice A l.length cap) ∧ Below w.heap.size w wr)
  case atStart => exact ⟨0, rfl, Nat.zero_le _, rfl, ⟨_, 0, _, 0, rfl, Nat.le_refl _, by simp, on0, rfl, Nat.le_refl _, by simp, oc0⟩, bP4, B4⟩
  case round =>
    clear on0 oc0 bP4 B4
    obtain ⟨k, hgk, hk, rfl, ⟨gn, cn, gc, cc, rfl, hcn, hmn, own, rfl, hcc, hmc, idx⟩, bP, hb⟩ := hrel
    have cP := bP.cell
    have sz : w.heap.size + 1 ≤ wr.heap.size := bP.lt
    by_cases hlt : k < l.length
    · obtain ⟨b, off, hA, hb0, hc⟩ := (hr.below hb).2 (by omega)
      subst hA
      obtain ⟨⟨sp, tx⟩, hx⟩ := some_at l hlt
      obtain ⟨c1, c2⟩ := Reads.turn hc hx
      have htx := turn_text HV.out hx
      simp only at htx c1 c2
      have hts := (HT.out _ (List.mem_of_getElem? hx)).2
      simp only at hts
      obtain ⟨hwl, hwz⟩ := text_len htx
      have HNX := Lib.hid (evT_next hx)
      have hel := evT_len HV.out k
      have HES := Lib.hid (evT_sz HV.out k)
      have HWZ := Lib.hid hwz
      have HTX := Lib.hid htx
      have i0 : (0 : Int) ≤ (k : Int) := by omega
      have i1 : (k : Int) < (l.length : Int) := by omega
      clear hx hc htx hwz
      obtain ⟨ev0, hev0⟩ : ∃ ev0, ev0 = evT l k := ⟨_, rfl⟩
      rw [← hev0] at own hcn hcc idx HNX hel HES ⊢
      clear hev0
      have hnl0 := namesE_len ev0
      go_wp2_with fail
      refine (spec_l21Words tx _ hts HTX.out).mono ?_
      rintro e w5 ⟨vl, rfl, ol, b5⟩
      have bP5 := bP.far b5
      have B5 := hb.trans (b5.mono hb.size)
      have own5 := row_below own b5
      have idx5 := idx.far b5
      have hp0 : 0 < (wordsV tx).length := text_some HTX.out
      obtain ⟨gw, cw, hvl, hg1, hg2, hg3, -, -, -, -⟩ := ol.open_ hp0
      subst hvl
      have row5 := ol.1.base (lo' := w.heap.size + 1) sz
      clear cP bP own idx hb b5 c1 c2 ol
      generalize hzs : wordsV tx = zs at *
      have HZS := Lib.hid hzs
      clear hzs
      go_wp2
      go_loopg [4, 5, 8] (zs.length) (fun n v u j wr => ∃ m : Nat, n = zs.length - m ∧ m ≤ zs.length ∧ j = .int .i64 m ∧ IdxW (w.heap.size + 1) wr v u (namesE (ev0 ++ evK zs k m)) (ev0 ++ evK zs k m) ∧ wr.ownsRow (w.heap.size + 1) 9 1 (.slice (some ⟨gw, 0, none⟩) zs.length cw) zs.length (strsV zs) ∧ Box wr w.heap.size 26 (.slice (some ⟨b, off, none⟩) l.length cap) ∧ Below w.heap.size w wr)
      case atStart => exact ⟨0, rfl, Nat.zero_le _, rfl, by rw [evK, List.append_nil]; exact ⟨gn, cn, gc, cc, rfl, hcn, hmn, own5, rfl, hcc, hmc, idx5⟩, row5, bP5, B5⟩
      case round =>
        clear own5 idx5 bP5 B5 row5 hcn hmn hcc hmc hnl0
        obtain ⟨m, hgm, hm, rfl, ⟨gn, cn, gc, cc, rfl, hcn, hmn, own, rfl, hcc, hmc, idx⟩, hrow, bP, hb⟩ := hrel
        have sz1 : w.heap.size + 1 ≤ wr.heap.size := bP.lt
        by_cases hmt : m < zs.length
        · obtain ⟨x, hx⟩ := some_at zs hmt
          have cx : wr.cell? ⟨gw, m, none⟩ = some (.string x) := (hrow.cellAt m (by omega)).trans (strsV_at hx)
          have hxz := (HWZ.out x (List.mem_of_getElem? hx)).2
          have HSK := Lib.hid (fun h => show ev0 ++ evK zs k (m + 1) = ev0 ++ evK zs k m by rw [evK_skip (i := k) hx h])
          have HPT := Lib.hid (fun h => show ev0 ++ evK zs k (m + 1) = (ev0 ++ evK zs k m) ++ [(normS x, k)] by rw [evK_put (i := k) hx h, List.append_assoc])
          have hel2 : (ev0 ++ evK zs k m).length ≤ 1240 := by have := evK_len zs k m; rw [List.length_append]; omega
          have HESZ := Lib.hid (show ∀ e ∈ ev0 ++ evK zs k m, e.1.size ≤ 80 from fun e he => (List.mem_append.1 he).elim (HES.out e) (evK_sz (fun x hx => (HWZ.out x hx).2) k m e))
          have j0 : (0 : Int) ≤ (m : Int) := by omega
          have j1 : (m : Int) < (zs.length : Int) := by omega
          clear hx
          obtain ⟨ev, hev⟩ : ∃ ev, ev = ev0 ++ evK zs k m := ⟨_, rfl⟩
          rw [← hev] at own hcn hcc idx HSK HPT hel2 HESZ ⊢
          have HEV := Lib.hid hev
          clear hev
          go_wp2_with fail
          refine (spec_NormalizeWord x _ (by omega)).mono ?_
          rintro e w6 ⟨rfl, b6⟩
          have bP6 := bP.far b6
          have B6 := hb.trans (b6.mono hb.size)
          have own6 := row_below own b6
          have idx6 := idx.far b6
          have hrow6 := row_below hrow b6
          have sz6 : w.heap.size + 1 ≤ w6.heap.size := bP6.lt
          have hnz := Nat.le_trans (normS_size x) hxz
          clear cx b6 own hrow bP hb idx
          by_cases hd : normS x = ⟨#[]⟩
          · have HS := Lib.hid (HSK.out hd)
            rw [hd]
            clear hd HPT
            go_wp2
            go_roundg (zs.length - (m + 1))
            case measure => omega
            case rel => exact ⟨m + 1, rfl, by omega, by go_num, by rw [HS.out]; exact ⟨gn, cn, gc, cc, rfl, hcn, hmn, own6, rfl, hcc, hmc, idx6⟩, hrow6, bP6, B6⟩
          obtain ⟨d1, d2, d3⟩ := str_nonempty hd
          have HP := Lib.hid (HPT.out hd)
          clear hd HSK HPT
          obtain ⟨nx, hnx⟩ : ∃ nx, nx = normS x := ⟨_, rfl⟩
          rw [← hnx] at HP hnz d1 d2 d3 ⊢
          clear hnx
          have hnl := Nat.le_trans (namesE_len ev) hel2
          have HSZ := Lib.hid (show ∀ y ∈ namesE ev, y.size ≤ 1048576 from fun y hy => by
            obtain ⟨e, he, rfl⟩ := List.mem_map.1 (mem_namesE.1 hy)
            have := HESZ.out e he
            omega)
          have hpl := placeB_le (namesE ev) nx
          have HSI := Lib.hid (fun h => idx_ins (ev := ev) (x := nx) h)
          have HNN := Lib.hid (namesE_next ev nx k)
          have HNX2 := Lib.hid (idx_next (ev := ev) (i := k) (srt_ins (srt_namesE ev) nx).nodup (ins_at (ns := namesE ev) (s := nx)))
          have HAT := Lib.hid (idxW_at (ev := ev) (ins_at (ns := namesE ev) (s := nx)))
          have hLl := idxW_len (namesE ev) ev
          have htl := Nat.le_trans (turnsE_len ev nx) hel2
          unfold idxE at HSI
          obtain ⟨ns, hns⟩ : ∃ ns, ns = namesE ev := ⟨_, rfl⟩
          rw [← hns] at own6 hcn hcc idx6 hnl HSZ hpl HSI HNN HNX2 HAT hLl ⊢
          clear hns
          go_wp2_with fail
          refine (spec_l21Place _ cn ns nx _ (Reads.of_own own6) (by omega) HSZ.out (by omega)).mono ?_
          rintro e w7 ⟨rfl, b7⟩
          have own7 := row_below own6 b7
          have idx7 := idx6.far b7
          have bP7 := bP6.far b7
          have hrow7 := row_below hrow6 b7
          have B7 := B6.trans (b7.mono B6.size)
          have HIN := Lib.hid (show insB ns nx = if ns[placeB ns nx]? = some nx then ns else ns.take (placeB ns nx) ++ [nx] ++ ns.drop (placeB ns nx) from rfl)
          obtain ⟨p, hp⟩ : ∃ p, p = placeB ns nx := ⟨_, rfl⟩
          have HPP := Lib.hid (ins_at (ns := ns) (s := nx))
          rw [← hp] at hpl HIN HSI HNX2 HAT HPP ⊢
          clear hp
          have hlo := (own7.lt gn rfl).1
          have sz7 : w.heap.size + 1 ≤ w7.heap.size := bP7.lt
          clear b7 own6 idx6 bP6 hrow6 B6
          have p0 : (0 : Int) ≤ (p : Int) := by omega
          have p1 : (p : Int) ≤ (cn : Int) := by omega
          have p2 : (p : Int) ≤ (ns.length : Int) := by omega
          have p3 : (p : Int) ≤ (cc : Int) := by omega
          obtain ⟨bt, hbt⟩ : ∃ bt, bt = !decide (ns[p]? = some nx) := ⟨_, rfl⟩
          have HBT := Lib.hid hbt
          clear hbt
          go_upto_region 15 with fail
          go_cut [58] from 31 to 116 (fun c wx => c = .bool bt ∧ wx = w7)
          case first =>
            by_cases hpe : p = ns.length
            · have q1 : ((p : Int) == (ns.length : Int)) = true := by simp [hpe]
              go_wp2
              go_meet
              exact ⟨by rw [HBT.out, hpe]; simp, rfl⟩
            · have q1 : ((p : Int) == (ns.length : Int)) = false := by simp; omega
              have q2 : (p : Int) < (ns.length : Int) := by omega
              obtain ⟨z, hz⟩ := some_at ns (show p < ns.length by omega)
              have cz : w7.cell? ⟨gn, p, none⟩ = some (.string z) := (own7.cellAt p (by omega)).trans (strsV_at hz)
              have HXX := Lib.hid hz
              clear hz
              by_cases he : z = nx
              · subst he
                go_wp2
                go_meet
                exact ⟨by rw [HBT.out, HXX.out]; simp, rfl⟩
              · have hne := str_other he
                have HE := Lib.hid he
                clear he
                go_wp2
                go_meet
                exact ⟨by rw [HBT.out, HXX.out]; simp [HE.out], rfl⟩
          case rest =>
          obtain ⟨rfl, hw7⟩ := hcut
          subst wc
          go_upto_if 58 with fail
          go_cut [4, 5] from 31 to 116 (fun v u wx => IdxW (w.heap.size + 1) wx v u (insB ns nx) ev ∧ Below w7.heap.size w7 wx)
          case first =>
            cases hbt : bt
            · have hsame : insB ns nx = ns := by rw [HIN.out, if_pos (by have := HBT.out; rw [hbt] at this; simpa using this.symm)]
              have HS := Lib.hid hsame
              clear hsame hbt
              go_wp2
              go_meet
              exact ⟨by rw [HS.out]; exact ⟨gn, cn, gc, cc, rfl, hcn, hmn, own7, rfl, hcc, hmc, idx7⟩, Below.refl _ _⟩
            · have hno : ¬ ns[p]? = some nx := by have := HBT.out; rw [hbt] at this; simpa using this.symm
              have hnew : insB ns nx = ns.take p ++ [nx] ++ ns.drop p := by rw [HIN.out, if_neg hno]
              have HN := Lib.hid hnew
              have HN2 := Lib.hid (HSI.out hno)
              clear hno hnew hbt
              have HLEN := Lib.hid (show (insB ns nx).length = ns.length + 1 by rw [HN.out]; simp; omega)
              have HHD := Lib.hid (row_head own7 hpl)
              have HTL := Lib.hid (row_tail own7 hpl)
              have HC1 := Lib.hid (cell_one (HOT.out ns) p)
              have insL : ∀ y ∈ [Value.string nx], y.oneCell' = true := fun y hy => by obtain rfl := List.mem_singleton.1 hy; rfl
              have SB0 := Below.refl w7.heap.size w7
              obtain ⟨ps, hps⟩ := idx7
              have HR9 := Lib.hid hr
              clear hr hrow7
              go_upto_region 16 with fail
              go_cut [4] from 31 to 116 (fun v wx => wx.ownsRow w7.heap.size 9 1 v (ns.length + 1) (strsV (insB ns nx)) ∧ Below w7.heap.size w7 wx)
              case first =>
                first | refine wp_region_noPanic ?_ | skip
                refine wp_region_held_drew (S := fun w' => Below w7.heap.size w7 w') (by kernel_rfl) (by exact SB0.drew) (fun hHeld => ?_)
                (refine wpAnyH_take (i := 1) (v := ?_) rfl (by kernel_rfl) (by kernel_rfl) (by kernel_rfl) (fun _ _ _ h => h) (Or.inl ⟨by rfl, ?_⟩) (by assumption) ?_; rotate_left; focus (intro w hSw; (try dsimp only at hSw); go_simp; try with_reducible rfl))
                (try simp only [List.getElem_toArray, List.getElem_cons_succ, List.getElem_cons_zero, Act.put, List.setIfInBounds_toArray, List.set_cons_zero, List.set_cons_succ])
                (refine wpAnyH_take (i := 2) (v := ?_) rfl (by kernel_rfl) (by kernel_rfl) (by kernel_rfl) (fun _ _ _ h => h) (Or.inl ⟨by rfl, ?_⟩) (by assumption) ?_; rotate_left; focus (intro w hSw; (try dsimp only at hSw); go_simp; try with_reducible rfl))
                (try simp only [List.getElem_toArray, List.getElem_cons_succ, List.getElem_cons_zero, Act.put, List.setIfInBounds_toArray, List.set_cons_zero, List.set_cons_succ])
                (refine wpAnyH_take (i := 5) (v := ?_) rfl (by kernel_rfl) (by kernel_rfl) (by kernel_rfl) (fun _ _ _ h => h) (Or.inl ⟨by rfl, ?_⟩) (by assumption) ?_; rotate_left; focus (intro w hSw; (try dsimp only at hSw); go_simp; try with_reducible rfl))
                (try simp only [List.getElem_toArray, List.getElem_cons_succ, List.getElem_cons_zero, Act.put, List.setIfInBounds_toArray, List.set_cons_zero, List.set_cons_succ])
                (refine wpAnyH_take (i := 8) (v := ?_) rfl (by kernel_rfl) (by kernel_rfl) (by kernel_rfl) (fun _ _ _ h => h) (Or.inl ⟨by rfl, ?_⟩) (by assumption) ?_; rotate_left; focus (intro w hSw; (try dsimp only at hSw); go_simp; try with_reducible rfl))
                (try simp only [List.getElem_toArray, List.getElem_cons_succ, List.getElem_cons_zero, Act.put, List.setIfInBounds_toArray, List.set_cons_zero, List.set_cons_succ])
                (refine wpAnyH_take (i := 9) (v := ?_) rfl (by kernel_rfl) (by kernel_rfl) (by kernel_rfl) (fun _ _ _ h => h) (Or.inl ⟨by rfl, ?_⟩) (by assumption) ?_; rotate_left; focus (intro w hSw; (try dsimp only at hSw); go_simp; try with_reducible rfl))
                (try simp only [List.getElem_toArray, List.getElem_cons_succ, List.getElem_cons_zero, Act.put, List.setIfInBounds_toArray, List.set_cons_zero, List.set_cons_succ])
                (refine wpAnyH_take (i := 3) (v := ?_) rfl (by kernel_rfl) (by kernel_rfl) (by kernel_rfl) (fun _ _ _ h => h) (Or.inl ⟨by rfl, ?_⟩) (by assumption) ?_; rotate_left; focus (intro w hSw; (try dsimp only at hSw); go_simp; try with_reducible rfl))
                (try simp only [List.getElem_toArray, List.getElem_cons_succ, List.getElem_cons_zero, Act.put, List.setIfInBounds_toArray, List.set_cons_zero, List.set_cons_succ])
                (refine wpAnyH_take (i := 10) (v := ?_) rfl (by kernel_rfl) (by kernel_rfl) (by kernel_rfl) (fun _ _ _ h => h) (Or.inl ⟨by rfl, ?_⟩) (by assumption) ?_; rotate_left; focus (intro w hSw; (try dsimp only at hSw); go_simp; try with_reducible rfl))
                (try simp only [List.getElem_toArray, List.getElem_cons_succ, List.getElem_cons_zero, Act.put, List.setIfInBounds_toArray, List.set_cons_zero, List.set_cons_succ])
                have SD : Below w7.heap.size w7 w7.drew := SB0.drew
                refine wpAnyH_ready (rs := [0, 6]) (by kernel_rfl) (by simp) ?_
                refine AllReadyH.cons rfl (fun K hK => ?_) (AllReadyH.cons rfl (fun K hK => ?_) AllReadyH.nil)
                · go_simp
                  have ow1 : (w7.drew.alloc (.cells #[] 9)).ownsRow w7.heap.size 9 1 (.slice (some ⟨w7.heap.size, 0, none⟩) 0 0) 0 [] := World.ownsRow_made _ _ _ (Nat.le_refl _) (by simp) rfl
                  have SA := SD.alloc (Nat.le_refl _) (.cells #[] 9)
                  refine hK.out _ _ SA (fun hHeld => ?_)
                  clear hK K
                  (try simp only [List.getElem_toArray, List.getElem_cons_succ, List.getElem_cons_zero, Act.put, List.setIfInBounds_toArray, List.set_cons_zero, List.set_cons_succ])
                  refine wpAnyH_ready (rs := [4, 6]) (by kernel_rfl) (by simp) ?_
                  refine AllReadyH.cons rfl (fun K hK => ?_) (AllReadyH.cons rfl (fun K hK => ?_) AllReadyH.nil)
                  · refine step_append_src ow1 SA.size (HHD.out.below SA) HC1.out.1 (.tmp 59) (.tmp 62) 53 Tryd.underlying53 info_string (by omega) (by unfold maxLen; omega) ⟨rfl, rfl, rfl, rfl, rfl, by decide⟩ (.inl ⟨rfl, rfl⟩) ?_
                    intro vi3 wi3 ow3 grow3
                    have S3 := SA.grown grow3 SA.size (fun k hk => (ow1.lt k hk).1)
                    simp only [Nat.zero_add, List.nil_append] at ow3
                    refine hK.out _ _ S3 (fun hHeld => ?_)
                    clear hK K
                    (try simp only [List.getElem_toArray, List.getElem_cons_succ, List.getElem_cons_zero, Act.put, List.setIfInBounds_toArray, List.set_cons_zero, List.set_cons_succ])
                    refine wpAnyH_ready (rs := [6]) (by kernel_rfl) (by simp) ?_
                    refine AllReadyH.cons rfl (fun K hK => ?_) AllReadyH.nil
                    go_simp
                    have ow4 := ow3.alloc (.cells #[.string nx] 9)
                    have S4 := S3.alloc S3.size (.cells #[.string nx] 9)
                    have nw4 : ∀ j u, [.string nx][j]? = some u → (wi3.alloc (.cells #[.string nx] 9)).cell? ⟨wi3.heap.size, j, none⟩ = some u := fun j u hj => new_here hj
                    refine hK.out _ _ S4 (fun hHeld => ?_)
                    clear hK K
                    (try simp only [List.getElem_toArray, List.getElem_cons_succ, List.getElem_cons_zero, Act.put, List.setIfInBounds_toArray, List.set_cons_zero, List.set_cons_succ])
                    refine wpAnyH_ready (rs := [7]) (by kernel_rfl) (by simp) ?_
                    refine AllReadyH.cons rfl (fun K hK => ?_) AllReadyH.nil
                    refine step_append_own ow4 S4.size (.tmp 63) (.tmp 65) 53 Tryd.underlying53 info_string (by omega) (by unfold maxLen; omega) nw4 insL ⟨rfl, rfl, rfl, rfl, rfl, rfl, by decide⟩ ?_
                    intro vi5 wi5 ow5 grow5 _
                    have S5 := S4.grown grow5 S4.size (fun k hk => (ow4.lt k hk).1)
                    refine hK.out _ _ S5 (fun hHeld => ?_)
                    clear hK K
                    (try simp only [List.getElem_toArray, List.getElem_cons_succ, List.getElem_cons_zero, Act.put, List.setIfInBounds_toArray, List.set_cons_zero, List.set_cons_succ])
                    refine wpAnyH_ready (rs := [11]) (by kernel_rfl) (by simp) ?_
                    refine AllReadyH.cons rfl (fun K hK => ?_) AllReadyH.nil
                    refine step_append_src ow5 S5.size (HTL.out.below S5) HC1.out.2 (.tmp 66) (.tmp 69) 53 Tryd.underlying53 info_string (by omega) (by unfold maxLen; omega) ⟨rfl, rfl, rfl, rfl, rfl, by decide⟩ (by by_cases hcw : cn = p; (exact .inr ⟨by omega, by omega⟩); (refine .inl ⟨?_, by omega⟩; first | rfl | (simp [hcw]; done) | (simp [hcw]; omega))) ?_
                    intro v6 w6 own6 gr6
                    have S6 := S5.grown gr6 S5.size (fun k hk => (ow5.lt k hk).1)
                    refine hK.out _ _ S6 (fun hHeld => ?_)
                    clear hK K
                    (try simp only [List.getElem_toArray, List.getElem_cons_succ, List.getElem_cons_zero, Act.put, List.setIfInBounds_toArray, List.set_cons_zero, List.set_cons_succ])
                    (refine wpAnyH_take (i := 12) (v := ?_) rfl (by kernel_rfl) (by kernel_rfl) (by kernel_rfl) (fun _ _ _ h => h) (Or.inl ⟨by rfl, ?_⟩) (by assumption) ?_; rotate_left; focus (intro w hSw; (try dsimp only at hSw); go_simp; try with_reducible rfl))
                    (try simp only [List.getElem_toArray, List.getElem_cons_succ, List.getElem_cons_zero, Act.put, List.setIfInBounds_toArray, List.set_cons_zero, List.set_cons_succ])
                    refine wpAnyH_done (by kernel_rfl) ?_ _
                    first | refine NoPanic.normal ?_ | skip
                    go_wp2
                    all_goals
                      go_meet
                      refine ⟨?_, S6⟩
                      rw [HN.out, strsV_ins, show ns.length + 1 = p + 1 + (ns.length - p) by omega]
                      exact own6
                  · go_simp
                    have ow2 := ow1.alloc (.cells #[.string nx] 9)
                    have S2 := SA.alloc SA.size (.cells #[.string nx] 9)
                    have nw2 : ∀ j u, [.string nx][j]? = some u → ((w7.drew.alloc (.cells #[] 9)).alloc (.cells #[.string nx] 9)).cell? ⟨w7.heap.size + 1, j, none⟩ = some u := fun j u hj => by rw [show w7.heap.size + 1 = (w7.drew.alloc (.cells #[] 9)).heap.size from by simp]; exact new_here hj
                    refine hK.out _ _ S2 (fun hHeld => ?_)
                    clear hK K
                    (try simp only [List.getElem_toArray, List.getElem_cons_succ, List.getElem_cons_zero, Act.put, List.setIfInBounds_toArray, List.set_cons_zero, List.set_cons_succ])
                    refine wpAnyH_ready (rs := [4]) (by kernel_rfl) (by simp) ?_
                    refine AllReadyH.cons rfl (fun K hK => ?_) AllReadyH.nil
                    refine step_append_src ow2 S2.size (HHD.out.below S2) HC1.out.1 (.tmp 59) (.tmp 62) 53 Tryd.underlying53 info_string (by omega) (by unfold maxLen; omega) ⟨rfl, rfl, rfl, rfl, rfl, by decide⟩ (.inl ⟨rfl, rfl⟩) ?_
                    intro vi4 wi4 ow4 grow4
                    have S4 := S2.grown grow4 S2.size (fun k hk => (ow2.lt k hk).1)
                    simp only [Nat.zero_add, List.nil_append] at ow4
                    refine hK.out _ _ S4 (fun hHeld => ?_)
                    clear hK K
                    (try simp only [List.getElem_toArray, List.getElem_cons_succ, List.getElem_cons_zero, Act.put, List.setIfInBounds_toArray, List.set_cons_zero, List.set_cons_succ])
                    have nw5 : ∀ j u, [.string nx][j]? = some u → wi4.cell? ⟨w7.heap.size + 1, j, none⟩ = some u := fun j u hj => grow4.cell (nw2 j u hj) (by simp [Value.ownBlock])
                    refine wpAnyH_ready (rs := [7]) (by kernel_rfl) (by simp) ?_
                    refine AllReadyH.cons rfl (fun K hK => ?_) AllReadyH.nil
                    refine step_append_own ow4 S4.size (.tmp 63) (.tmp 65) 53 Tryd.underlying53 info_string (by omega) (by unfold maxLen; omega) nw5 insL ⟨rfl, rfl, rfl, rfl, rfl, rfl, by decide⟩ ?_
                    intro vi5 wi5 ow5 grow5 _
                    have S5 := S4.grown grow5 S4.size (fun k hk => (ow4.lt k hk).1)
                    refine hK.out _ _ S5 (fun hHeld => ?_)
                    clear hK K
                    (try simp only [List.getElem_toArray, List.getElem_cons_succ, List.getElem_cons_zero, Act.put, List.setIfInBounds_toArray, List.set_cons_zero, List.set_cons_succ])
                    refine wpAnyH_ready (rs := [11]) (by kernel_rfl) (by simp) ?_
                    refine AllReadyH.cons rfl (fun K hK => ?_) AllReadyH.nil
                    refine step_append_src ow5 S5.size (HTL.out.below S5) HC1.out.2 (.tmp 66) (.tmp 69) 53 Tryd.underlying53 info_string (by omega) (by unfold maxLen; omega) ⟨rfl, rfl, rfl, rfl, rfl, by decide⟩ (by by_cases hcw : cn = p; (exact .inr ⟨by omega, by omega⟩); (refine .inl ⟨?_, by omega⟩; first | rfl | (simp [hcw]; done) | (simp [hcw]; omega))) ?_
                    intro v6 w6 own6 gr6
                    have S6 := S5.grown gr6 S5.size (fun k hk => (ow5.lt k hk).1)
                    refine hK.out _ _ S6 (fun hHeld => ?_)
                    clear hK K
                    (try simp only [List.getElem_toArray, List.getElem_cons_succ, List.getElem_cons_zero, Act.put, List.setIfInBounds_toArray, List.set_cons_zero, List.set_cons_succ])
                    (refine wpAnyH_take (i := 12) (v := ?_) rfl (by kernel_rfl) (by kernel_rfl) (by kernel_rfl) (fun _ _ _ h => h) (Or.inl ⟨by rfl, ?_⟩) (by assumption) ?_; rotate_left; focus (intro w hSw; (try dsimp only at hSw); go_simp; try with_reducible rfl))
                    (try simp only [List.getElem_toArray, List.getElem_cons_succ, List.getElem_cons_zero, Act.put, List.setIfInBounds_toArray, List.set_cons_zero, List.set_cons_succ])
                    refine wpAnyH_done (by kernel_rfl) ?_ _
                    first | refine NoPanic.normal ?_ | skip
                    go_wp2
                    all_goals
                      go_meet
                      refine ⟨?_, S6⟩
                      rw [HN.out, strsV_ins, show ns.length + 1 = p + 1 + (ns.length - p) by omega]
                      exact own6
                · go_simp
                  have SC := SD.alloc (Nat.le_refl _) (.cells #[.string nx] 9)
                  have nw1 : ∀ j u, [.string nx][j]? = some u → (w7.drew.alloc (.cells #[.string nx] 9)).cell? ⟨w7.heap.size, j, none⟩ = some u := fun j u hj => new_here (w := w7.drew) hj
                  refine hK.out _ _ SC (fun hHeld => ?_)
                  clear hK K
                  (try simp only [List.getElem_toArray, List.getElem_cons_succ, List.getElem_cons_zero, Act.put, List.setIfInBounds_toArray, List.set_cons_zero, List.set_cons_succ])
                  refine wpAnyH_ready (rs := [0]) (by kernel_rfl) (by simp) ?_
                  refine AllReadyH.cons rfl (fun K hK => ?_) AllReadyH.nil
                  go_simp
                  have ow2 : ((w7.drew.alloc (.cells #[.string nx] 9)).alloc (.cells #[] 9)).ownsRow w7.heap.size 9 1 (.slice (some ⟨w7.heap.size + 1, 0, none⟩) 0 0) 0 [] := by rw [show w7.heap.size + 1 = (w7.drew.alloc (.cells #[.string nx] 9)).heap.size from by simp]; exact World.ownsRow_made _ _ _ SC.size (by simp) rfl
                  have S2 := SC.alloc SC.size (.cells #[] 9)
                  have nw2 : ∀ j u, [.string nx][j]? = some u → ((w7.drew.alloc (.cells #[.string nx] 9)).alloc (.cells #[] 9)).cell? ⟨w7.heap.size, j, none⟩ = some u := fun j u hj => (World.cell?_alloc_lt _ _ _ (by simp)).trans (nw1 j u hj)
                  refine hK.out _ _ S2 (fun hHeld => ?_)
                  clear hK K
                  (try simp only [List.getElem_toArray, List.getElem_cons_succ, List.getElem_cons_zero, Act.put, List.setIfInBounds_toArray, List.set_cons_zero, List.set_cons_succ])
                  refine wpAnyH_ready (rs := [4]) (by kernel_rfl) (by simp) ?_
                  refine AllReadyH.cons rfl (fun K hK => ?_) AllReadyH.nil
                  refine step_append_src ow2 S2.size (HHD.out.below S2) HC1.out.1 (.tmp 59) (.tmp 62) 53 Tryd.underlying53 info_string (by omega) (by unfold maxLen; omega) ⟨rfl, rfl, rfl, rfl, rfl, by decide⟩ (.inl ⟨rfl, rfl⟩) ?_
                  intro vi4 wi4 ow4 grow4
                  have S4 := S2.grown grow4 S2.size (fun k hk => (ow2.lt k hk).1)
                  simp only [Nat.zero_add, List.nil_append] at ow4
                  refine hK.out _ _ S4 (fun hHeld => ?_)
                  clear hK K
                  (try simp only [List.getElem_toArray, List.getElem_cons_succ, List.getElem_cons_zero, Act.put, List.setIfInBounds_toArray, List.set_cons_zero, List.set_cons_succ])
                  have nw5 : ∀ j u, [.string nx][j]? = some u → wi4.cell? ⟨w7.heap.size, j, none⟩ = some u := fun j u hj => grow4.cell (nw2 j u hj) (by simp [Value.ownBlock])
                  refine wpAnyH_ready (rs := [7]) (by kernel_rfl) (by simp) ?_
                  refine AllReadyH.cons rfl (fun K hK => ?_) AllReadyH.nil
                  refine step_append_own ow4 S4.size (.tmp 63) (.tmp 65) 53 Tryd.underlying53 info_string (by omega) (by unfold maxLen; omega) nw5 insL ⟨rfl, rfl, rfl, rfl, rfl, rfl, by decide⟩ ?_
                  intro vi5 wi5 ow5 grow5 _
                  have S5 := S4.grown grow5 S4.size (fun k hk => (ow4.lt k hk).1)
                  refine hK.out _ _ S5 (fun hHeld => ?_)
                  clear hK K
                  (try simp only [List.getElem_toArray, List.getElem_cons_succ, List.getElem_cons_zero, Act.put, List.setIfInBounds_toArray, List.set_cons_zero, List.set_cons_succ])
                  refine wpAnyH_ready (rs := [11]) (by kernel_rfl) (by simp) ?_
                  refine AllReadyH.cons rfl (fun K hK => ?_) AllReadyH.nil
                  refine step_append_src ow5 S5.size (HTL.out.below S5) HC1.out.2 (.tmp 66) (.tmp 69) 53 Tryd.underlying53 info_string (by omega) (by unfold maxLen; omega) ⟨rfl, rfl, rfl, rfl, rfl, by decide⟩ (by by_cases hcw : cn = p; (exact .inr ⟨by omega, by omega⟩); (refine .inl ⟨?_, by omega⟩; first | rfl | (simp [hcw]; done) | (simp [hcw]; omega))) ?_
                  intro v6 w6 own6 gr6
                  have S6 := S5.grown gr6 S5.size (fun k hk => (ow5.lt k hk).1)
                  refine hK.out _ _ S6 (fun hHeld => ?_)
                  clear hK K
                  (try simp only [List.getElem_toArray, List.getElem_cons_succ, List.getElem_cons_zero, Act.put, List.setIfInBounds_toArray, List.set_cons_zero, List.set_cons_succ])
                  (refine wpAnyH_take (i := 12) (v := ?_) rfl (by kernel_rfl) (by kernel_rfl) (by kernel_rfl) (fun _ _ _ h => h) (Or.inl ⟨by rfl, ?_⟩) (by assumption) ?_; rotate_left; focus (intro w hSw; (try dsimp only at hSw); go_simp; try with_reducible rfl))
                  (try simp only [List.getElem_toArray, List.getElem_cons_succ, List.getElem_cons_zero, Act.put, List.setIfInBounds_toArray, List.set_cons_zero, List.set_cons_succ])
                  refine wpAnyH_done (by kernel_rfl) ?_ _
                  first | refine NoPanic.normal ?_ | skip
                  go_wp2
                  all_goals
                    go_meet
                    refine ⟨?_, S6⟩
                    rw [HN.out, strsV_ins, show ns.length + 1 = p + 1 + (ns.length - p) by omega]
                    exact own6
              case rest =>
              obtain ⟨own8, b8⟩ := hcut
              have hps8 := hps.far b8
              clear HHD HTL HC1 insL SB0 own7 hps
              obtain ⟨gn5, cn5, hv5, -, -, hn5, hm5⟩ := row_some own8 (by omega)
              subst hv5
              have hps2 := hps8.2.1
              rw [hLl] at hps2
              have HHD := Lib.hid (row_head2 hps2 hpl)
              have HTL := Lib.hid (row_tail2 hps2 hpl)
              have HC1 := Lib.hid (cell_one hps8.one (p * 2))
              have insL : ∀ y ∈ [Value.string nx, Value.slice none 0 0], y.oneCell' = true := fun y hy => by simp only [List.mem_cons, List.not_mem_nil, or_false] at hy; rcases hy with rfl | rfl <;> rfl
              have SB0 := Below.refl wc.heap.size wc
              have HPS := Lib.hid hps8
              have sz8 : w.heap.size + 1 ≤ wc.heap.size := Nat.le_trans sz7 b8.size
              clear hps8 hps2
              go_upto_region 17 with fail
              go_cut [5] from 31 to 116 (fun v wx => wx.ownsRow wc.heap.size 33 2 v (ns.length + 1) ((flat2 ps).take (p * 2) ++ [.string nx, .slice none 0 0] ++ (flat2 ps).drop (p * 2)) ∧ Below wc.heap.size wc wx)
              case first =>
                first | refine wp_region_noPanic ?_ | skip
                refine wp_region_held_drew (S := fun w' => Below wc.heap.size wc w') (by kernel_rfl) (by exact SB0.drew) (fun hHeld => ?_)
                (refine wpAnyH_take (i := 1) (v := ?_) rfl (by kernel_rfl) (by kernel_rfl) (by kernel_rfl) (fun _ _ _ h => h) (Or.inl ⟨by rfl, ?_⟩) (by assumption) ?_; rotate_left; focus (intro w hSw; (try dsimp only at hSw); go_simp; try with_reducible rfl))
                (try simp only [List.getElem_toArray, List.getElem_cons_succ, List.getElem_cons_zero, Act.put, List.setIfInBounds_toArray, List.set_cons_zero, List.set_cons_succ])
                (refine wpAnyH_take (i := 2) (v := ?_) rfl (by kernel_rfl) (by kernel_rfl) (by kernel_rfl) (fun _ _ _ h => h) (Or.inl ⟨by rfl, ?_⟩) (by assumption) ?_; rotate_left; focus (intro w hSw; (try dsimp only at hSw); go_simp; try with_reducible rfl))
                (try simp only [List.getElem_toArray, List.getElem_cons_succ, List.getElem_cons_zero, Act.put, List.setIfInBounds_toArray, List.set_cons_zero, List.set_cons_succ])
                (refine wpAnyH_take (i := 5) (v := ?_) rfl (by kernel_rfl) (by kernel_rfl) (by kernel_rfl) (fun _ _ _ h => h) (Or.inl ⟨by rfl, ?_⟩) (by assumption) ?_; rotate_left; focus (intro w hSw; (try dsimp only at hSw); go_simp; try with_reducible rfl))
                (try simp only [List.getElem_toArray, List.getElem_cons_succ, List.getElem_cons_zero, Act.put, List.setIfInBounds_toArray, List.set_cons_zero, List.set_cons_succ])
                (refine wpAnyH_take (i := 6) (v := ?_) rfl (by kernel_rfl) (by kernel_rfl) (by kernel_rfl) (fun _ _ _ h => h) (Or.inl ⟨by rfl, ?_⟩) (by assumption) ?_; rotate_left; focus (intro w hSw; (try dsimp only at hSw); go_simp; try with_reducible rfl))
                (try simp only [List.getElem_toArray, List.getElem_cons_succ, List.getElem_cons_zero, Act.put, List.setIfInBounds_toArray, List.set_cons_zero, List.set_cons_succ])
                (refine wpAnyH_take (i := 9) (v := ?_) rfl (by kernel_rfl) (by kernel_rfl) (by kernel_rfl) (fun _ _ _ h => h) (Or.inl ⟨by rfl, ?_⟩) (by assumption) ?_; rotate_left; focus (intro w hSw; (try dsimp only at hSw); go_simp; try with_reducible rfl))
                (try simp only [List.getElem_toArray, List.getElem_cons_succ, List.getElem_cons_zero, Act.put, List.setIfInBounds_toArray, List.set_cons_zero, List.set_cons_succ])
                (refine wpAnyH_take (i := 10) (v := ?_) rfl (by kernel_rfl) (by kernel_rfl) (by kernel_rfl) (fun _ _ _ h => h) (Or.inl ⟨by rfl, ?_⟩) (by assumption) ?_; rotate_left; focus (intro w hSw; (try dsimp only at hSw); go_simp; try with_reducible rfl))
                (try simp only [List.getElem_toArray, List.getElem_cons_succ, List.getElem_cons_zero, Act.put, List.setIfInBounds_toArray, List.set_cons_zero, List.set_cons_succ])
                (refine wpAnyH_take (i := 3) (v := ?_) rfl (by kernel_rfl) (by kernel_rfl) (by kernel_rfl) (fun _ _ _ h => h) (Or.inl ⟨by rfl, ?_⟩) (by assumption) ?_; rotate_left; focus (intro w hSw; (try dsimp only at hSw); go_simp; try with_reducible rfl))
                (try simp only [List.getElem_toArray, List.getElem_cons_succ, List.getElem_cons_zero, Act.put, List.setIfInBounds_toArray, List.set_cons_zero, List.set_cons_succ])
                (refine wpAnyH_take (i := 11) (v := ?_) rfl (by kernel_rfl) (by kernel_rfl) (by kernel_rfl) (fun _ _ _ h => h) (Or.inl ⟨by rfl, ?_⟩) (by assumption) ?_; rotate_left; focus (intro w hSw; (try dsimp only at hSw); go_simp; try with_reducible rfl))
                (try simp only [List.getElem_toArray, List.getElem_cons_succ, List.getElem_cons_zero, Act.put, List.setIfInBounds_toArray, List.set_cons_zero, List.set_cons_succ])
                have SD : Below wc.heap.size wc wc.drew := SB0.drew
                refine wpAnyH_ready (rs := [0, 7]) (by kernel_rfl) (by simp) ?_
                refine AllReadyH.cons rfl (fun K hK => ?_) (AllReadyH.cons rfl (fun K hK => ?_) AllReadyH.nil)
                · go_simp
                  have ow1 : (wc.drew.alloc (.cells #[] 33)).ownsRow wc.heap.size 33 2 (.slice (some ⟨wc.heap.size, 0, none⟩) 0 0) 0 [] := World.ownsRow_made _ _ _ (Nat.le_refl _) (by simp) rfl
                  have SA := SD.alloc (Nat.le_refl _) (.cells #[] 33)
                  refine hK.out _ _ SA (fun hHeld => ?_)
                  clear hK K
                  (try simp only [List.getElem_toArray, List.getElem_cons_succ, List.getElem_cons_zero, Act.put, List.setIfInBounds_toArray, List.set_cons_zero, List.set_cons_succ])
                  refine wpAnyH_ready (rs := [4, 7]) (by kernel_rfl) (by simp) ?_
                  refine AllReadyH.cons rfl (fun K hK => ?_) (AllReadyH.cons rfl (fun K hK => ?_) AllReadyH.nil)
                  · refine step_append_src ow1 SA.size (HHD.out.below SA) HC1.out.1 (.tmp 71) (.tmp 74) 28 Tryd.underlying28 info_idx (by omega) (by unfold maxLen; omega) ⟨rfl, rfl, rfl, rfl, rfl, by decide⟩ (.inl ⟨rfl, rfl⟩) ?_
                    intro vi3 wi3 ow3 grow3
                    have S3 := SA.grown grow3 SA.size (fun k hk => (ow1.lt k hk).1)
                    simp only [Nat.zero_add, List.nil_append] at ow3
                    refine hK.out _ _ S3 (fun hHeld => ?_)
                    clear hK K
                    (try simp only [List.getElem_toArray, List.getElem_cons_succ, List.getElem_cons_zero, Act.put, List.setIfInBounds_toArray, List.set_cons_zero, List.set_cons_succ])
                    refine wpAnyH_ready (rs := [7]) (by kernel_rfl) (by simp) ?_
                    refine AllReadyH.cons rfl (fun K hK => ?_) AllReadyH.nil
                    go_simp
                    have ow4 := ow3.alloc (.cells #[.string nx, .slice none 0 0] 33)
                    have S4 := S3.alloc S3.size (.cells #[.string nx, .slice none 0 0] 33)
                    have nw4 : ∀ j u, [.string nx, .slice none 0 0][j]? = some u → (wi3.alloc (.cells #[.string nx, .slice none 0 0] 33)).cell? ⟨wi3.heap.size, j, none⟩ = some u := fun j u hj => new_here hj
                    refine hK.out _ _ S4 (fun hHeld => ?_)
                    clear hK K
                    (try simp only [List.getElem_toArray, List.getElem_cons_succ, List.getElem_cons_zero, Act.put, List.setIfInBounds_toArray, List.set_cons_zero, List.set_cons_succ])
                    refine wpAnyH_ready (rs := [8]) (by kernel_rfl) (by simp) ?_
                    refine AllReadyH.cons rfl (fun K hK => ?_) AllReadyH.nil
                    refine step_append_own ow4 S4.size (.tmp 75) (.tmp 78) 28 Tryd.underlying28 info_idx (by omega) (by unfold maxLen; omega) nw4 insL ⟨rfl, rfl, rfl, rfl, rfl, rfl, by decide⟩ ?_
                    intro vi5 wi5 ow5 grow5 _
                    have S5 := S4.grown grow5 S4.size (fun k hk => (ow4.lt k hk).1)
                    refine hK.out _ _ S5 (fun hHeld => ?_)
                    clear hK K
                    (try simp only [List.getElem_toArray, List.getElem_cons_succ, List.getElem_cons_zero, Act.put, List.setIfInBounds_toArray, List.set_cons_zero, List.set_cons_succ])
                    refine wpAnyH_ready (rs := [12]) (by kernel_rfl) (by simp) ?_
                    refine AllReadyH.cons rfl (fun K hK => ?_) AllReadyH.nil
                    refine step_append_src ow5 S5.size (HTL.out.below S5) HC1.out.2 (.tmp 79) (.tmp 82) 28 Tryd.underlying28 info_idx (by omega) (by unfold maxLen; omega) ⟨rfl, rfl, rfl, rfl, rfl, by decide⟩ (by by_cases hcw : cc = p; (exact .inr ⟨by omega, by omega⟩); (refine .inl ⟨?_, by omega⟩; first | rfl | (simp [hcw]; done) | (simp [hcw]; omega))) ?_
                    intro v6 w6 own6 gr6
                    have S6 := S5.grown gr6 S5.size (fun k hk => (ow5.lt k hk).1)
                    refine hK.out _ _ S6 (fun hHeld => ?_)
                    clear hK K
                    (try simp only [List.getElem_toArray, List.getElem_cons_succ, List.getElem_cons_zero, Act.put, List.setIfInBounds_toArray, List.set_cons_zero, List.set_cons_succ])
                    (refine wpAnyH_take (i := 13) (v := ?_) rfl (by kernel_rfl) (by kernel_rfl) (by kernel_rfl) (fun _ _ _ h => h) (Or.inl ⟨by rfl, ?_⟩) (by assumption) ?_; rotate_left; focus (intro w hSw; (try dsimp only at hSw); go_simp; try with_reducible rfl))
                    (try simp only [List.getElem_toArray, List.getElem_cons_succ, List.getElem_cons_zero, Act.put, List.setIfInBounds_toArray, List.set_cons_zero, List.set_cons_succ])
                    refine wpAnyH_done (by kernel_rfl) ?_ _
                    first | refine NoPanic.normal ?_ | skip
                    go_wp2
                    all_goals
                      go_meet
                      refine ⟨?_, S6⟩
                      rw [show ns.length + 1 = p + 1 + (ns.length - p) by omega]
                      exact own6
                  · go_simp
                    have ow2 := ow1.alloc (.cells #[.string nx, .slice none 0 0] 33)
                    have S2 := SA.alloc SA.size (.cells #[.string nx, .slice none 0 0] 33)
                    have nw2 : ∀ j u, [.string nx, .slice none 0 0][j]? = some u → ((wc.drew.alloc (.cells #[] 33)).alloc (.cells #[.string nx, .slice none 0 0] 33)).cell? ⟨wc.heap.size + 1, j, none⟩ = some u := fun j u hj => by rw [show wc.heap.size + 1 = (wc.drew.alloc (.cells #[] 33)).heap.size from by simp]; exact new_here hj
                    refine hK.out _ _ S2 (fun hHeld => ?_)
                    clear hK K
                    (try simp only [List.getElem_toArray, List.getElem_cons_succ, List.getElem_cons_zero, Act.put, List.setIfInBounds_toArray, List.set_cons_zero, List.set_cons_succ])
                    refine wpAnyH_ready (rs := [4]) (by kernel_rfl) (by simp) ?_
                    refine AllReadyH.cons rfl (fun K hK => ?_) AllReadyH.nil
                    refine step_append_src ow2 S2.size (HHD.out.below S2) HC1.out.1 (.tmp 71) (.tmp 74) 28 Tryd.underlying28 info_idx (by omega) (by unfold maxLen; omega) ⟨rfl, rfl, rfl, rfl, rfl, by decide⟩ (.inl ⟨rfl, rfl⟩) ?_
                    intro vi4 wi4 ow4 grow4
                    have S4 := S2.grown grow4 S2.size (fun k hk => (ow2.lt k hk).1)
                    simp only [Nat.zero_add, List.nil_append] at ow4
                    refine hK.out _ _ S4 (fun hHeld => ?_)
                    clear hK K
                    (try simp only [List.getElem_toArray, List.getElem_cons_succ, List.getElem_cons_zero, Act.put, List.setIfInBounds_toArray, List.set_cons_zero, List.set_cons_succ])
                    have nw5 : ∀ j u, [.string nx, .slice none 0 0][j]? = some u → wi4.cell? ⟨wc.heap.size + 1, j, none⟩ = some u := fun j u hj => grow4.cell (nw2 j u hj) (by simp [Value.ownBlock])
                    refine wpAnyH_ready (rs := [8]) (by kernel_rfl) (by simp) ?_
                    refine AllReadyH.cons rfl (fun K hK => ?_) AllReadyH.nil
                    refine step_append_own ow4 S4.size (.tmp 75) (.tmp 78) 28 Tryd.underlying28 info_idx (by omega) (by unfold maxLen; omega) nw5 insL ⟨rfl, rfl, rfl, rfl, rfl, rfl, by decide⟩ ?_
                    intro vi5 wi5 ow5 grow5 _
                    have S5 := S4.grown grow5 S4.size (fun k hk => (ow4.lt k hk).1)
                    refine hK.out _ _ S5 (fun hHeld => ?_)
                    clear hK K
                    (try simp only [List.getElem_toArray, List.getElem_cons_succ, List.getElem_cons_zero, Act.put, List.setIfInBounds_toArray, List.set_cons_zero, List.set_cons_succ])
                    refine wpAnyH_ready (rs := [12]) (by kernel_rfl) (by simp) ?_
                    refine AllReadyH.cons rfl (fun K hK => ?_) AllReadyH.nil
                    refine step_append_src ow5 S5.size (HTL.out.below S5) HC1.out.2 (.tmp 79) (.tmp 82) 28 Tryd.underlying28 info_idx (by omega) (by unfold maxLen; omega) ⟨rfl, rfl, rfl, rfl, rfl, by decide⟩ (by by_cases hcw : cc = p; (exact .inr ⟨by omega, by omega⟩); (refine .inl ⟨?_, by omega⟩; first | rfl | (simp [hcw]; done) | (simp [hcw]; omega))) ?_
                    intro v6 w6 own6 gr6
                    have S6 := S5.grown gr6 S5.size (fun k hk => (ow5.lt k hk).1)
                    refine hK.out _ _ S6 (fun hHeld => ?_)
                    clear hK K
                    (try simp only [List.getElem_toArray, List.getElem_cons_succ, List.getElem_cons_zero, Act.put, List.setIfInBounds_toArray, List.set_cons_zero, List.set_cons_succ])
                    (refine wpAnyH_take (i := 13) (v := ?_) rfl (by kernel_rfl) (by kernel_rfl) (by kernel_rfl) (fun _ _ _ h => h) (Or.inl ⟨by rfl, ?_⟩) (by assumption) ?_; rotate_left; focus (intro w hSw; (try dsimp only at hSw); go_simp; try with_reducible rfl))
                    (try simp only [List.getElem_toArray, List.getElem_cons_succ, List.getElem_cons_zero, Act.put, List.setIfInBounds_toArray, List.set_cons_zero, List.set_cons_succ])
                    refine wpAnyH_done (by kernel_rfl) ?_ _
                    first | refine NoPanic.normal ?_ | skip
                    go_wp2
                    all_goals
                      go_meet
                      refine ⟨?_, S6⟩
                      rw [show ns.length + 1 = p + 1 + (ns.length - p) by omega]
                      exact own6
                · go_simp
                  have SC := SD.alloc (Nat.le_refl _) (.cells #[.string nx, .slice none 0 0] 33)
                  have nw1 : ∀ j u, [.string nx, .slice none 0 0][j]? = some u → (wc.drew.alloc (.cells #[.string nx, .slice none 0 0] 33)).cell? ⟨wc.heap.size, j, none⟩ = some u := fun j u hj => new_here (w := wc.drew) hj
                  refine hK.out _ _ SC (fun hHeld => ?_)
                  clear hK K
                  (try simp only [List.getElem_toArray, List.getElem_cons_succ, List.getElem_cons_zero, Act.put, List.setIfInBounds_toArray, List.set_cons_zero, List.set_cons_succ])
                  refine wpAnyH_ready (rs := [0]) (by kernel_rfl) (by simp) ?_
                  refine AllReadyH.cons rfl (fun K hK => ?_) AllReadyH.nil
                  go_simp
                  have ow2 : ((wc.drew.alloc (.cells #[.string nx, .slice none 0 0] 33)).alloc (.cells #[] 33)).ownsRow wc.heap.size 33 2 (.slice (some ⟨wc.heap.size + 1, 0, none⟩) 0 0) 0 [] := by rw [show wc.heap.size + 1 = (wc.drew.alloc (.cells #[.string nx, .slice none 0 0] 33)).heap.size from by simp]; exact World.ownsRow_made _ _ _ SC.size (by simp) rfl
                  have S2 := SC.alloc SC.size (.cells #[] 33)
                  have nw2 : ∀ j u, [.string nx, .slice none 0 0][j]? = some u → ((wc.drew.alloc (.cells #[.string nx, .slice none 0 0] 33)).alloc (.cells #[] 33)).cell? ⟨wc.heap.size, j, none⟩ = some u := fun j u hj => (World.cell?_alloc_lt _ _ _ (by simp)).trans (nw1 j u hj)
                  refine hK.out _ _ S2 (fun hHeld => ?_)
                  clear hK K
                  (try simp only [List.getElem_toArray, List.getElem_cons_succ, List.getElem_cons_zero, Act.put, List.setIfInBounds_toArray, List.set_cons_zero, List.set_cons_succ])
                  refine wpAnyH_ready (rs := [4]) (by kernel_rfl) (by simp) ?_
                  refine AllReadyH.cons rfl (fun K hK => ?_) AllReadyH.nil
                  refine step_append_src ow2 S2.size (HHD.out.below S2) HC1.out.1 (.tmp 71) (.tmp 74) 28 Tryd.underlying28 info_idx (by omega) (by unfold maxLen; omega) ⟨rfl, rfl, rfl, rfl, rfl, by decide⟩ (.inl ⟨rfl, rfl⟩) ?_
                  intro vi4 wi4 ow4 grow4
                  have S4 := S2.grown grow4 S2.size (fun k hk => (ow2.lt k hk).1)
                  simp only [Nat.zero_add, List.nil_append] at ow4
                  refine hK.out _ _ S4 (fun hHeld => ?_)
                  clear hK K
                  (try simp only [List.getElem_toArray, List.getElem_cons_succ, List.getElem_cons_zero, Act.put, List.setIfInBounds_toArray, List.set_cons_zero, List.set_cons_succ])
                  have nw5 : ∀ j u, [.string nx, .slice none 0 0][j]? = some u → wi4.cell? ⟨wc.heap.size, j, none⟩ = some u := fun j u hj => grow4.cell (nw2 j u hj) (by simp [Value.ownBlock])
                  refine wpAnyH_ready (rs := [8]) (by kernel_rfl) (by simp) ?_
                  refine AllReadyH.cons rfl (fun K hK => ?_) AllReadyH.nil
                  refine step_append_own ow4 S4.size (.tmp 75) (.tmp 78) 28 Tryd.underlying28 info_idx (by omega) (by unfold maxLen; omega) nw5 insL ⟨rfl, rfl, rfl, rfl, rfl, rfl, by decide⟩ ?_
                  intro vi5 wi5 ow5 grow5 _
                  have S5 := S4.grown grow5 S4.size (fun k hk => (ow4.lt k hk).1)
                  refine hK.out _ _ S5 (fun hHeld => ?_)
                  clear hK K
                  (try simp only [List.getElem_toArray, List.getElem_cons_succ, List.getElem_cons_zero, Act.put, List.setIfInBounds_toArray, List.set_cons_zero, List.set_cons_succ])
                  refine wpAnyH_ready (rs := [12]) (by kernel_rfl) (by simp) ?_
                  refine AllReadyH.cons rfl (fun K hK => ?_) AllReadyH.nil
                  refine step_append_src ow5 S5.size (HTL.out.below S5) HC1.out.2 (.tmp 79) (.tmp 82) 28 Tryd.underlying28 info_idx (by omega) (by unfold maxLen; omega) ⟨rfl, rfl, rfl, rfl, rfl, by decide⟩ (by by_cases hcw : cc = p; (exact .inr ⟨by omega, by omega⟩); (refine .inl ⟨?_, by omega⟩; first | rfl | (simp [hcw]; done) | (simp [hcw]; omega))) ?_
                  intro v6 w6 own6 gr6
                  have S6 := S5.grown gr6 S5.size (fun k hk => (ow5.lt k hk).1)
                  refine hK.out _ _ S6 (fun hHeld => ?_)
                  clear hK K
                  (try simp only [List.getElem_toArray, List.getElem_cons_succ, List.getElem_cons_zero, Act.put, List.setIfInBounds_toArray, List.set_cons_zero, List.set_cons_succ])
                  (refine wpAnyH_take (i := 13) (v := ?_) rfl (by kernel_rfl) (by kernel_rfl) (by kernel_rfl) (fun _ _ _ h => h) (Or.inl ⟨by rfl, ?_⟩) (by assumption) ?_; rotate_left; focus (intro w hSw; (try dsimp only at hSw); go_simp; try with_reducible rfl))
                  (try simp only [List.getElem_toArray, List.getElem_cons_succ, List.getElem_cons_zero, Act.put, List.setIfInBounds_toArray, List.set_cons_zero, List.set_cons_succ])
                  refine wpAnyH_done (by kernel_rfl) ?_ _
                  first | refine NoPanic.normal ?_ | skip
                  go_wp2
                  all_goals
                    go_meet
                    refine ⟨?_, S6⟩
                    rw [show ns.length + 1 = p + 1 + (ns.length - p) by omega]
                    exact own6
              case rest =>
              obtain ⟨own9, b9⟩ := hcut
              obtain ⟨gc6, cc6, hv6, -, -, hn6, hm6⟩ := row_some own9 (by omega)
              subst hv6
              have hI := HPS.out.ins (v2 := .slice (some ⟨gc6, 0, none⟩) (ns.length + 1) cc6) (x := nx) (by rw [hLl]; exact hpl) b9 (by rw [hLl]; exact own9.base (lo' := w.heap.size + 1) sz8)
              have on9 := (row_below own8 b9).base (lo' := w.heap.size + 1) sz7
              have HI := Lib.hid hI
              have HON := Lib.hid on9
              clear hI on9 own8 own9 HPS
              go_wp2
              go_meet
              refine ⟨⟨gn5, cn5, gc6, cc6, by rw [HLEN.out], by rw [HLEN.out]; exact hn5, hm5, by rw [HLEN.out]; exact HON.out, by rw [HLEN.out], by rw [HLEN.out]; exact hn6, hm6, by rw [HN2.out]; exact HI.out⟩, b8.trans (b9.mono b8.size)⟩
          case rest =>
          obtain ⟨⟨gn6, cn6, gc6, cc6, rfl, hn6, hm6, own8, rfl, hn7, hm7, idx8⟩, b8⟩ := hcut
          have bP8 := bP7.far b8
          have hrow8 := row_below hrow7 b8
          have B8 := B7.trans (b8.mono B7.size)
          have hpn : p < (insB ns nx).length := (List.getElem?_eq_some_iff.1 HPP.out).1
          have hil : (insB ns nx).length ≤ 1241 := Nat.le_trans (ins_len ns nx) (by omega)
          have hl8 := idxW_len (insB ns nx) ev
          clear own7 idx7 bP7 hrow7 B7 b8 HIN HBT hcn hmn hcc hmc p1 p2 p3 hLl HSI
          generalize his : insB ns nx = is_ at *
          clear his
          obtain ⟨ts, hts9⟩ : ∃ ts, ts = turnsE ev nx := ⟨_, rfl⟩
          rw [← hts9] at htl HNX2 HAT
          clear hts9
          obtain ⟨g9, cap9, hv9, hg8, hg9, hg10, hg11, hfz, hat⟩ := idx8.open_ (by omega)
          rw [hl8] at hv9
          injection hv9 with hv9a _ hv9c
          injection hv9a with hv9a
          injection hv9a with hv9a
          subst hv9a hv9c
          obtain ⟨ut, e1, e2, rowt⟩ := hat p _ HAT.out
          simp only at e1 e2 rowt
          obtain ⟨At, ct, hut, -, hct1, hct2⟩ := (Own.of_row rowt).slice
          subst hut
          clear hat
          have sz8 : w.heap.size + 1 ≤ wc.heap.size := bP8.lt
          have pp : (p : Int) < (is_.length : Int) := by omega
          obtain ⟨bq, hbq⟩ : ∃ bq, bq = !decide (ts.getLast? = some (k : Int)) := ⟨_, rfl⟩
          have HBQ := Lib.hid hbq
          clear hbq
          have hwc := Lib.hid (rfl : wc = wc)
          go_upto_region 19 with fail
          go_cut [104] from 31 to 116 (fun c wx => c = .bool bq ∧ wx = wc)
          case first =>
            rcases List.eq_nil_or_concat ts with h0 | ⟨ts0, z, h0⟩
            · subst h0
              have q1 : (((([] : List Int).length : Nat) : Int) == 0) = true := rfl
              go_wp2
              go_meet
              exact ⟨by rw [HBQ.out]; rfl, rfl⟩
            · rw [List.concat_eq_append] at h0
              have hlt9 : ts.length = ts0.length + 1 := by rw [h0]; simp
              obtain ⟨gt, capt, hvt, -, -, -, -, -, hct, -⟩ := (Own.of_row rowt).open_ (show 0 < ts.length by omega)
              injection hvt with hvta _ hvtc
              subst hvta hvtc
              have cz : wc.cell? ⟨gt, ts0.length, none⟩ = some (.int .i64 z) := (hct ts0.length (by omega)).trans (ints_at _ (by rw [h0]; simp))
              have q1 : ((ts.length : Int) == 0) = false := beq_eq_false_iff_ne.2 (by omega)
              have q2 : IntKind.i64.wrap ((ts.length : Int) - 1) = (ts0.length : Int) := by rw [hlt9, IntWalk.i64_in _ (by omega)]; omega
              have q3 : (ts0.length : Int) < (ts.length : Int) := by omega
              have hgl : ts.getLast? = some z := by rw [h0]; simp
              have HGL := Lib.hid hgl
              have HLT := Lib.hid hlt9
              clear h0 hgl hct hlt9
              by_cases he : z = (k : Int)
              · subst he
                go_wp2
                go_meet
                exact ⟨by rw [HBQ.out, HGL.out]; simp, rfl⟩
              · have hne : (z == (k : Int)) = false := by simpa using he
                have HE := Lib.hid he
                go_wp2
                go_meet
                exact ⟨by rw [HBQ.out, HGL.out]; simp [HE.out], rfl⟩
          case rest =>
          obtain ⟨rfl, hw9⟩ := hcut
          subst hw9
          cases hbq : bq
          · have hadd : addT ts k = ts := by unfold addT; rw [if_pos (by have := HBQ.out; rw [hbq] at this; simpa using this.symm)]
            have HX9 := HNX2.out
            rw [hadd, set_same HAT.out] at HX9
            have HX := Lib.hid HX9
            clear HX9 hadd hbq
            go_wp2
            go_roundg (zs.length - (m + 1))
            case measure => omega
            case rel => exact ⟨m + 1, rfl, by omega, by go_num, by rw [HP.out, HNN.out]; exact ⟨gn6, cn6, gc6, cc6, rfl, hn6, hm6, own8, rfl, hn7, hm7, by rw [HX.out]; exact idx8⟩, hrow8, bP8, B8⟩
          · have hadd : addT ts k = ts ++ [(k : Int)] := by unfold addT; rw [if_neg (by have := HBQ.out; rw [hbq] at this; simpa using this.symm)]
            have HX9 := HNX2.out
            rw [hadd] at HX9
            have HX := Lib.hid HX9
            clear HX9 hadd hbq
            rw [← hl8] at idx8
            obtain ⟨ps, hps⟩ := idx8
            have HNG := Lib.hid (rows_apart own8 hps.2.1 (by decide))
            have HNG2 := Lib.hid (rows_apart hrow8 hps.2.1 (by decide))
            have HI8 := Lib.hid (show IdxS _ _ _ _ from ⟨ps, hps⟩)
            clear hps
            have HNO := Lib.hid (rows_apart (h' := own8) rowt (by decide))
            have HNO2 := Lib.hid (rows_apart (h' := hrow8) rowt (by decide))
            have HBT8 := Lib.hid (bP8.ne_own rowt (by decide))
            go_wp2_with (at_builtin; refine wpList_append_oneA rowt sz8 (.tmp 111) (.tmp 113) 31 Tryd.underlying31 info_int (by omega) (by unfold maxLen; omega) ⟨rfl, rfl, rfl, rfl, rfl, rfl⟩ (by simp) ?_; intro v10 w10 hown10 hg10 hat10; obtain ⟨A10, c10, rfl, -, -, -⟩ := (Own.of_row hown10).slice; have hS := IdxS.set (r2 := ts ++ [(k : Int)]) HI8.out HAT.out e2 (by simpa [ints] using hown10) hg10 hat10; have cS := hS.2.1; have fS := hS.2.2; have HS := Lib.hid hS.1; clear hS)
            go_roundg (zs.length - (m + 1))
            case measure => omega
            case rel =>
              refine ⟨m + 1, rfl, by omega, by go_num, ?_, ?_, ?_, ?_⟩
              · rw [HP.out, HNN.out]
                exact ⟨gn6, cn6, gc6, cc6, rfl, hn6, hm6, ownsRow_setCell_other (a := ⟨gc6, p * 2 + 1, none⟩) (own8.kept hg10 (.inr fun e => HNO.out gn6 e.symm rfl)) (fun e => HNG.out gc6 e rfl) _, rfl, hn7, hm7, by rw [HX.out, ← hl8]; exact HS.out⟩
              · exact ownsRow_setCell_other (a := ⟨gc6, p * 2 + 1, none⟩) (hrow8.kept hg10 (.inr fun e => HNO2.out gw e.symm rfl)) (fun e => HNG2.out gc6 e rfl) _
              · exact (bP8.grown hg10 HBT8.out).setOther (a := ⟨gc6, p * 2 + 1, none⟩) (show gc6 ≠ w.heap.size by omega) _
              · exact (B8.grown hg10 B8.size (fun g hg => by have := (rowt.lt g hg).1; omega)).setCell (p := ⟨gc6, p * 2 + 1, none⟩) (show w.heap.size ≤ gc6 by omega) _
        · obtain rfl : m = zs.length := by omega
          go_wp2
          go_roundg (l.length - (k + 1))
          case measure => omega
          case rel => exact ⟨k + 1, rfl, hlt, by go_num, by rw [HNX.out]; exact ⟨gn, cn, gc, cc, rfl, hcn, hmn, own, rfl, hcc, hmc, idx⟩, bP, hb⟩
    · obtain rfl : k = l.length := by omega
      go_wp2
      go_ret2
      exact ⟨.slice (some ⟨gc, 0, none⟩) (namesE (evT l l.length)).length cc, by rw [HV.out]; rfl, by rw [indexL, HV.out]; exact idx.base (by omega), hb⟩
end Go.Proofs.YthokekgdiebhjaaDoor
