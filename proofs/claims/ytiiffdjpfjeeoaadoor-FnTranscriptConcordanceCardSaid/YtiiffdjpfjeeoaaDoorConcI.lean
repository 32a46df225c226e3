/-
  The program's Concordance.
-/
import Derived.Test.YtiiffdjpfjeeoaaDoorConcS
import Derived.Test.YtiiffdjpfjeeoaaDoorTurnText
namespace Go.Proofs.YtiiffdjpfjeeoaaDoor
open Go.RowKit
set_option linter.unusedVariables false
set_option maxRecDepth 100000

theorem impl_words (s t : ByteArray) (w : World) (ht : t.size ≤ 4194304) (hx : textB t = true) (hm : MaxOk w) :
    Calls Tryd.prog 61 #[.agg #[.string s, .string t]] w (NewStrs (wordsV t) w) := by
  have hb0 : Below w.heap.size w (w.alloc (.cells #[.string s, .string t] 80)) := (Below.refl _ _).alloc (Nat.le_refl _) _
  have HW := Lib.hid (text_words hx)
  have HS := Lib.hid (impl_Split t 32 _ ht (hm.below hb0))
  clear hx hm
  go_enter Tryd.func61, Tryd.ntmps61
  go_wp2_with fail
  refine HS.out.mono ?_
  rintro e w1 ⟨v, rfl, o1, b1⟩
  go_wp2
  go_ret
  exact ⟨v, rfl, by rw [HW.out]; exact ⟨o1.1.base (by simp), o1.2⟩, hb0.trans (b1.mono hb0.size)⟩

theorem strsV_one (l : List ByteArray) : ∀ u ∈ strsV l, u.oneCell' = true := by
  intro u hu
  simp only [strsV, List.mem_map] at hu
  obtain ⟨c, -, rfl⟩ := hu
  rfl
theorem copyOf_strs (A : Option Addr) (n cap : Nat) (l : List ByteArray) (w : World) (hn : n = l.length) (hr : Reads w w.heap.size 1 A n (strsV l)) (hl : n ≤ 1048576) :
    Calls Tryd.prog 70 #[.slice A n cap] w (NewStrs l w) := by
  subst hn
  have hb0 : Below w.heap.size w (w.alloc (.cells #[] 9)) := (Below.refl _ _).alloc (Nat.le_refl _) _
  have ho : (w.alloc (.cells #[] 9)).ownsRow w.heap.size 9 1 (.slice (some ⟨w.heap.size, 0, none⟩) 0 0) 0 [] := World.ownsRow_made _ _ _ (Nat.le_refl _) (by simp) rfl
  have H1 := Lib.hid (strsV_one l)
  go_enter Tryd.func70, Tryd.ntmps70
  go_wp2_with (at_builtin; refine wpList_append_src ho (by simp) ((hr.alloc (Nat.le_refl _) _).more (B' := (w.alloc (.cells #[] 9)).heap.size) (by simp)) H1.out (.tmp 3) (.tmp 4) 42 Tryd.underlying42 info_string (by omega) (by unfold maxLen; omega) ⟨rfl, rfl, rfl, rfl, rfl, by decide⟩ ?_; intro v1 w1 hown1 hb1)
  go_ret
  rw [Nat.zero_add, List.nil_append] at hown1
  exact ⟨_, rfl, Own.of_row hown1, hb0.trans hb1⟩
/-- A part of a row, read. -/
theorem reads_part {w : World} {base g n cap : Nat} {e : TypeId} {l : List ByteArray} (h : w.ownsRow base e 1 (.slice (some ⟨g, 0, none⟩) n cap) n (strsV l)) (a k : Nat) (hk : a + k ≤ l.length) :
    Reads w w.heap.size 1 (some ⟨g, a, none⟩) k (strsV ((l.drop a).take k)) := by
  have hn : n = l.length := by have := h.1; rw [strsV_length] at this; omega
  refine ⟨by simp [strsV]; omega, fun _ => ⟨g, a, rfl, (h.lt g rfl).2, fun j u hj => ?_⟩⟩
  have h1 := h.cellAt (a + j) (by
    have := (List.getElem?_eq_some_iff.1 hj).1
    simp [strsV] at this
    omega)
  rw [h1]
  simp only [strsV, List.getElem?_map] at hj ⊢
  rw [List.getElem?_take, List.getElem?_drop] at hj
  split at hj
  · exact hj
  · simp at hj

theorem impl_Join (base g c n : Nat) (l : List ByteArray) (w : World) (hn : n = l.length) (hrow : w.ownsRow base 9 1 (.slice (some ⟨g, 0, none⟩) n c) n (strsV l)) (hc : n ≤ c) (hl : n ≤ 1048576) (hlen : (joinS l).length ≤ 140737488355328) :
    Calls Tryd.prog 71 #[.slice (some ⟨g, 0, none⟩) n c, .string ⟨#[32]⟩] w fun e w' => e = .returned (.string (strB (joinS l))) ∧ Below w.heap.size w w' := by
  subst hn
  exact Tryd.strings_Join g 0 c l ⟨#[32]⟩ w (fun j x hj => by
    rw [Nat.zero_add]
    have h1 := (List.getElem?_eq_some_iff.1 hj).1
    exact (hrow.cellAt j (by omega)).trans (strsV_at hj)) (hrow.lt g rfl).2 (by omega) hc hlen
theorem nearL_V (l : List ByteArray) (n W : Nat) (x : ByteArray) : strsV (nearL l n W x) = strsV (leftL l n W) ++ [.string (brk x)] ++ strsV (rightL l n W) := by simp [nearL, strsV]
theorem nearL_len {l : List ByteArray} {n W : Nat} (x : ByteArray) (h : n < l.length) : (nearL l n W x).length = n - (n - W) + 1 + (min l.length (n + 1 + W) - (n + 1)) := by
  simp only [nearL, List.length_append, List.length_cons, leftL_len h, rightL_len h]
  omega
theorem nearL_size {l : List ByteArray} {n W : Nat} {x : ByteArray} (hx : x.size ≤ 80) (h : ∀ y ∈ l, y.size ≤ 80) : ∀ y ∈ nearL l n W x, y.size ≤ 82 := by
  intro y hy
  simp only [nearL, List.mem_append, List.mem_cons] at hy
  rcases hy with hy | rfl | hy
  · have := h y (leftL_mem hy); omega
  · rw [brk_size]; omega
  · have := h y (rightL_mem hy); omega

set_option maxHeartbeats 8000000 in
theorem impl_Concordance (A : Option Addr) (cap : Nat) (l : List TurnD) (word : ByteArray) (wd : Int) (w : World) (hr : Reads w w.heap.size 2 A l.length (turnsV l)) (hn : l.length ≤ 1048576) (ht : ShortT l) (hs : word.size ≤ 1048576) (hmx : MaxOk w) :
    Calls Tryd.prog 20 #[.agg #[.slice A l.length cap], .string word, .int .i64 wd] w (ConcRes l word wd w) := by
  have HT := Lib.hid ht
  have HM := Lib.hid hmx
  clear ht hmx
  obtain ⟨W1, hW1⟩ : ∃ W1, W1 = w.alloc (.cells #[.slice A l.length cap] 31) := ⟨_, rfl⟩
  have hb1 : Below w.heap.size w W1 := by rw [hW1]; exact (Below.refl _ _).alloc (Nat.le_refl _) _
  have bP : Box W1 w.heap.size 31 (.slice A l.length cap) := by rw [hW1]; exact Box.new w _ _
  go_enter Tryd.func20, Tryd.ntmps20
  go_wp2_with fail
  rw [← hW1]
  clear hW1
  refine (impl_NormalizeWord word _ hs).mono ?_
  rintro e w2 ⟨rfl, b2⟩
  have bP2 := bP.far b2
  have cP2 := bP2.cell
  have B2 := hb1.trans (b2.mono hb1.size)
  clear bP
  obtain ⟨due, hdue⟩ : ∃ due, due = normS word := ⟨_, rfl⟩
  rw [← hdue]
  have HDUE := Lib.hid hdue
  clear hdue
  cases hv : transB l
  · go_wp2_with fail
    refine (impl_IsValidTranscript A cap l _ ((hr.below B2).more B2.size) (by omega) HT.out (HM.out.below B2)).mono ?_
    rw [hv]
    rintro e w3 ⟨rfl, b3⟩
    have HNO := Lib.hid (show concB l word wd = false by simp [concB, hv])
    go_wp2
    go_ret2
    exact conc_no HNO.out (B2.trans (b3.mono B2.size))
  have HV := Lib.hid hv
  go_wp2_with fail
  refine (impl_IsValidTranscript A cap l _ ((hr.below B2).more B2.size) (by omega) HT.out (HM.out.below B2)).mono ?_
  rw [hv]
  clear hv
  rintro e w3 ⟨rfl, b3⟩
  have bP3 := bP2.far b3
  have B3 := B2.trans (b3.mono B2.size)
  clear bP2 cP2
  by_cases h81 : ¬ word.size ≤ 80
  · have HNO := Lib.hid (show concB l word wd = false by simp [concB]; intros; omega)
    have i1 : (80 : Int) < (word.size : Int) := by omega
    go_wp2
    go_ret2
    exact conc_no HNO.out B3
  have h80 : word.size ≤ 80 := by omega
  clear h81
  have i80 : ¬ (80 : Int) < (word.size : Int) := by omega
  by_cases hd0 : due = ⟨#[]⟩
  · have HNO := Lib.hid (show concB l word wd = false by simp [concB, ← HDUE.out, hd0])
    subst hd0
    go_wp2
    go_ret2
    exact conc_no HNO.out B3
  obtain ⟨hd1, hd2, hd3⟩ := str_nonempty hd0
  have HD0 := Lib.hid hd0
  clear hd0
  cases hi : inB wd 0 10
  · have HNO := Lib.hid (show concB l word wd = false by simp [concB, hi])
    go_wp2_with fail
    refine (impl_in wd 0 10 _).mono ?_
    rw [hi]
    rintro e w4 ⟨rfl, rfl⟩
    go_wp2
    go_ret2
    exact conc_no HNO.out B3
  have hcb : concB l word wd = true := by simp [concB, HV.out, h80, hi, ← HDUE.out, HD0.out]
  have HCB := Lib.hid hcb
  go_wp2_with fail
  refine (impl_in wd 0 10 _).mono ?_
  rw [hi]
  rintro e w4 ⟨rfl, rfl⟩
  rw [inB_iff] at hi
  obtain ⟨W, rfl⟩ : ∃ W : Nat, wd = W := ⟨wd.toNat, by omega⟩
  have hW : W ≤ 10 := by omega
  clear hi hcb hd1 hd2 hd3 i80 hb1
  have cP3 := bP3.cell
  have h30 := trans_len HV.out
  have s3 : w.heap.size + 1 ≤ w3.heap.size := bP3.lt
  have cP4 := (bP3.alloc (.cells #[] 9)).cell
  go_wp2
  go_loopw [9, 39] (fun v i wr => ∃ k : Nat, k ≤ l.length ∧ i = .int .i64 k ∧ wr.ownsRow (w.heap.size + 1) 9 1 v (linesT l due W k).length (strsV (linesT l due W k)) ∧ Below w.heap.size w wr ∧ w.heap.size + 1 ≤ wr.heap.size) (fun _ i _ => l.length - (intOf i).toNat)
  case atStart => exact ⟨0, Nat.zero_le _, rfl, World.ownsRow_made _ _ _ s3 (by simp) rfl, B3.alloc B3.size _, by simp; omega⟩
  case round =>
    obtain ⟨k, hk, rfl, hown, hb, sz⟩ := hrel
    by_cases hlt : k < l.length
    · obtain ⟨b, off, hA, hb0, hc⟩ := (hr.below hb).2 (by omega)
      subst hA
      obtain ⟨⟨sp, tx⟩, hx⟩ := some_at l hlt
      obtain ⟨c1, c2⟩ := Reads.turn hc hx
      have htx := turn_text HV.out hx
      simp only at htx c1 c2
      have hts := (HT.out _ (List.mem_of_getElem? hx)).2
      simp only at hts
      obtain ⟨hwl, hwz⟩ := text_len htx
      have HNX := Lib.hid (linesT_next (due := due) (W := W) hx)
      have hlt2 := linesT_len HV.out due W k
      have HWZ := Lib.hid hwz
      have HTX := Lib.hid htx
      have i0 : (0 : Int) ≤ (k : Int) := by omega
      have i1 : (k : Int) < (l.length : Int) := by omega
      have hbA := hb.alloc hb.size (.cells #[.string sp, .string tx] 80)
      have hownA := hown.alloc (.cells #[.string sp, .string tx] 80)
      clear hx hc htx hwz bP3 cP3 cP4
      go_wp2_with fail
      refine (impl_words sp tx _ hts HTX.out (HM.out.below hbA)).mono ?_
      rintro e w5 ⟨vl, rfl, ol, b5⟩
      have b5' : Below wr.heap.size wr w5 := ((Below.refl _ _).alloc (Nat.le_refl _) _).trans (b5.mono (by simp))
      have B5 := hb.trans (b5'.mono hb.size)
      have hown5 := row_below hown b5'
      have hgb : ∀ g, u9.ownBlock = some g → g < wr.heap.size := fun g hg => (hown.lt g hg).2
      have hlo : w.heap.size + 1 ≤ w5.heap.size := Nat.le_trans sz b5'.size
      have hp0 : 0 < (wordsV tx).length := text_some HTX.out
      obtain ⟨gw, cw, hvl, hg1, hg2, hg3, hnc, hcm, -, -⟩ := ol.open_ hp0
      subst hvl
      have hap : u9.ownBlock ≠ some gw := fun h => by have := hgb _ h; simp at hg1; omega
      obtain ⟨lo, hlo'⟩ : ∃ lo, lo = (wr.alloc (.cells #[.string sp, .string tx] 80)).heap.size := ⟨_, rfl⟩
      have row5 := ol.1
      rw [← hlo'] at row5
      clear hlo'
      clear hown hb hgb b5 b5' c1 c2 b3 B3 b2 B2 ol hbA hownA hg1 hg2 hg3
      generalize hzs : wordsV tx = zs at *
      generalize hos : linesT l due W k = os at *
      have HOS := Lib.hid hos
      have HZS := Lib.hid hzs
      clear hos hzs
      have hol : os.length ≤ 1200 := by omega
      go_wp2
      go_loopw [9, 47] (fun v j wr => ∃ m : Nat, m ≤ zs.length ∧ j = .int .i64 m ∧ wr.ownsRow (w.heap.size + 1) 9 1 v (os ++ linesK zs due W m).length (strsV (os ++ linesK zs due W m)) ∧ v.ownBlock ≠ some gw ∧ wr.ownsRow lo 9 1 (.slice (some ⟨gw, 0, none⟩) zs.length cw) zs.length (strsV zs) ∧ Below w.heap.size w wr ∧ w.heap.size + 1 ≤ wr.heap.size) (fun _ j _ => zs.length - (intOf j).toNat)
      case atStart => exact ⟨0, Nat.zero_le _, rfl, by rw [linesK, List.append_nil]; exact hown5, hap, row5, B5, hlo⟩
      case round =>
        obtain ⟨m, hm, rfl, hown, hap, hrow, hb, sz⟩ := hrel
        have hln := linesK_len zs due W m
        have hoz : (os ++ linesK zs due W m).length ≤ 1240 := by rw [List.length_append]; omega
        by_cases hmt : m < zs.length
        · obtain ⟨x, hx⟩ := some_at zs hmt
          have cx : wr.cell? ⟨gw, m, none⟩ = some (.string x) := (hrow.cellAt m (by omega)).trans (strsV_at hx)
          have hxz := HWZ.out x (List.mem_of_getElem? hx)
          have HX := Lib.hid hx
          have j0 : (0 : Int) ≤ (m : Int) := by omega
          have j1 : (m : Int) < (zs.length : Int) := by omega
          clear hx
          go_wp2_with fail
          refine (impl_NormalizeWord x _ (by omega)).mono ?_
          rintro e w6 ⟨rfl, b6⟩
          have B6 := hb.trans (b6.mono hb.size)
          have hown6 := row_below hown b6
          have hrow6 := row_below hrow b6
          have sz6 := Nat.le_trans sz b6.size
          obtain ⟨nx, hnx⟩ : ∃ nx, nx = normS x := ⟨_, rfl⟩
          rw [← hnx]
          have HN := Lib.hid hnx
          clear hnx cx b6 hown hrow hb
          by_cases hd : nx = due
          · have HY := Lib.hid (linesK_yes (due := due) (W := W) HX.out (by rw [← HN.out]; exact hd))
            rw [hd]
            clear hd
            have y1 : ¬ (9223372036854775807 < 1 + x.size) := by omega
            have y1' : ¬ (9223372036854775806 < x.size) := by omega
            have y2 : ¬ (9223372036854775807 < 1 + x.size + 1) := by omega
            have y2' : ¬ (9223372036854775806 < 1 + x.size) := by omega
            have k1 : (0 : Int) ≤ max 0 ((m : Int) - (W : Int)) := by omega
            have k2 : max 0 ((m : Int) - (W : Int)) ≤ (m : Int) := by omega
            have k3 : (m : Int) ≤ (cw : Int) := by omega
            have k4 : (m : Int) + 1 ≤ min (zs.length : Int) ((m : Int) + 1 + (W : Int)) := by omega
            have k5 : min (zs.length : Int) ((m : Int) + 1 + (W : Int)) ≤ (cw : Int) := by omega
            have RL := reads_part hrow6 (m - W) (m - (m - W)) (by omega)
            go_wp2_with fail
            rw [show (max 0 ((m : Int) - (W : Int))).toNat = m - W by omega]
            refine (copyOf_strs _ _ _ (leftL zs m W) _ (leftL_len hmt).symm RL (by omega)).mono ?_
            rintro e w7 ⟨v7, rfl, o7, b7⟩
            have B7 := B6.trans (b7.mono B6.size)
            have hown7 := row_below hown6 b7
            have hrow7 := row_below hrow6 b7
            have s67 := b7.size
            rw [leftL_len hmt] at o7
            have row7 := o7.1
            clear o7 RL
            have hrz : m + 1 + (min zs.length (m + 1 + W) - (m + 1)) ≤ zs.length := by omega
            have hrl := rightL_len (W := W) hmt
            go_wp2_with (first
                | (at_builtin; refine wpList_append_one row7 s67 (.tmp 64) (.tmp 68) 42 Tryd.underlying42 info_string (by omega) (by unfold maxLen; omega) ⟨rfl, rfl, rfl, rfl, rfl, rfl⟩ (by simp) ?_; intro v8 w8 hown8 hb8 _; have hs8 := Nat.le_trans s67 hb8.size; have R8 := reads_part (row_below hrow6 (b7.trans hb8)) (m + 1) (min zs.length (m + 1 + W) - (m + 1)) hrz)
                | (at_builtin; refine wpList_append_srcE hown8 hs8 R8 (strsV_one _) (.tmp 70) (.tmp 81) 42 Tryd.underlying42 info_string (by omega) (by unfold maxLen; omega) ⟨rfl, rfl, rfl, rfl, rfl, by decide⟩ (by
                    by_cases hcw : cw = m + 1
                    · exact .inr ⟨by omega, by omega⟩
                    · refine .inl ⟨?_, by omega⟩
                      first | rfl | (simp [hcw]; done) | (simp [hcw]; omega)) ?_; intro v9 w9 hown9 hb9; obtain ⟨g9, c9, hv9, q1, q2, q3, q4, q5, q6, -⟩ := (Own.of_row hown9).open_ (by omega); subst hv9)
                | fail)
            all_goals
              try subst h
              have hown9' : w9.ownsRow w6.heap.size 9 1 (.slice (some ⟨g9, 0, none⟩) (m - (m - W) + 1 + (min zs.length (m + 1 + W) - (m + 1))) c9) (m - (m - W) + 1 + (min zs.length (m + 1 + W) - (m + 1))) (strsV (nearL zs m W x)) := by rw [nearL_V]; exact hown9
              have hjl : (joinS (nearL zs m W x)).length ≤ 140737488355328 := by
                have h1 := joinS_len (B := 82) (nearL zs m W x) (nearL_size hxz.2 (fun y hy => (HWZ.out y hy).2))
                rw [nearL_len x hmt] at h1
                have h2 : (m - (m - W) + 1 + (min zs.length (m + 1 + W) - (m + 1))) * (82 + 1) ≤ 100 * (82 + 1) := Nat.mul_le_mul_right _ (by omega)
                omega
              refine (impl_Join w6.heap.size g9 c9 _ (nearL zs m W x) _ (nearL_len x hmt).symm hown9' q4 (by omega) hjl).mono ?_
              rintro e w10 ⟨rfl, b10⟩
              have hs9 := Nat.le_trans hs8 hb9.size
              have B69 := ((b7.trans hb8).trans hb9).trans (b10.mono hs9)
              have hown10 := row_below hown6 B69
              have hrow10 := row_below hrow6 B69
              have B10 := B6.trans (B69.mono B6.size)
              have sz10 := Nat.le_trans sz6 B69.size
              rw [show strB (joinS (nearL zs m W x)) = lineC zs m W x from rfl]
              generalize hLX : lineC zs m W x = LX at *
              clear hLX hown9 hown9' hown8 R8 q6 hb8 hb9 hown7 hrow7 row7 hown6 hrow6
              go_wp2_with (at_builtin; refine wpList_append_oneA hown10 sz10 (.tmp 83) (.tmp 86) 42 Tryd.underlying42 info_string (by omega) (by unfold maxLen; omega) ⟨rfl, rfl, rfl, rfl, rfl, rfl⟩ (by simp) ?_; intro v11 w11 hown11 hg11 hat11)
              go_roundw
              case rel => exact ⟨m + 1, by omega, by go_num, by rw [HY.out, ← List.append_assoc, strsV_snoc, List.length_append]; exact hown11, apart_next hap (hrow10.lt gw rfl).2 hat11, hrow10.kept hg11 (.inr (fun h => hap h.symm)), below_grown B10 hg11 B10.size hown10 rfl (by omega), Nat.le_trans sz10 hg11.size⟩
              case measure => simp [intOf]; omega
          · have hne := str_other hd
            have HND := Lib.hid (linesK_no (due := due) (W := W) HX.out (by rw [← HN.out]; exact hd))
            clear hd
            go_wp2
            go_roundw
            case rel => exact ⟨m + 1, by omega, by go_num, by rw [HND.out]; exact hown6, hap, hrow6, B6, sz6⟩
            case measure => simp [intOf]; omega
        · obtain rfl : m = zs.length := by omega
          go_wp2
          go_roundw
          case rel => exact ⟨k + 1, by omega, by go_num, by rw [HNX.out]; exact hown, hb, sz⟩
          case measure => simp [intOf]; omega
    · obtain rfl : k = l.length := by omega
      go_wp2
      go_ret2
      have hcl : concL l word (W : Int) = linesT l due W l.length := by rw [concL, if_pos HCB.out, ← HDUE.out]; rfl
      exact ⟨u9, by rw [HCB.out]; rfl, by rw [hcl]; exact Own.of_row (hown.base (by omega)), hb⟩
end Go.Proofs.YtiiffdjpfjeeoaaDoor
