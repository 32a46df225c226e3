/-
  The reference's Concordance.
-/
import Derived.Test.YtiiffdjpfjeeoaaDoorConcPl
import Derived.Test.YtiiffdjpfjeeoaaDoorBase
namespace Go.Proofs.YtiiffdjpfjeeoaaDoor
open Go.RowKit
set_option linter.unusedVariables false
set_option maxRecDepth 100000

def ConcRes (l : List TurnD) (word : ByteArray) (wd : Int) (w : World) (e : Ending) (w' : World) : Prop :=
  ∃ v, e = .returned (.tuple #[v, .bool (concB l word wd)]) ∧ Own w' w.heap.size w'.heap.size 9 1 v (concL l word wd).length (strsV (concL l word wd)) ∧ Below w.heap.size w w'
theorem conc_no {l : List TurnD} {word : ByteArray} {wd : Int} {w w' : World} (h : concB l word wd = false) (hb : Below w.heap.size w w') : ConcRes l word wd w (.returned (.tuple #[.slice none 0 0, .bool false])) w' :=
  ⟨_, by rw [h], by rw [concL, h]; exact Own.none_, hb⟩

theorem spec_l21Words (s : ByteArray) (w : World) (hs : s.size ≤ 4194304) (ht : textB s = true) : Calls Tryd.prog 55 #[.string s] w (NewStrs (wordsV s) w) := by
  have HS := Lib.hid (text_split ht)
  clear ht
  go_enter Tryd.func55, Tryd.ntmps55
  go_wp2_with fail
  refine (spec_SplitWords s _ hs).mono ?_
  rintro e w1 ⟨v, rfl, hv, b1⟩
  have ho : Own w1 w.heap.size w1.heap.size 9 1 v (wordsV s).length (strsV (wordsV s)) := by
    rcases hv with h | h
    · exact h.2
    · rw [HS.out] at h; cases h.1
  clear hv
  go_wp2
  go_ret
  exact ⟨v, rfl, ho, b1⟩
theorem spec_most (n W : Nat) (w : World) : Calls Tryd.prog 74 #[.int .i64 ((n : Int) - (W : Int)), .int .i64 0] w fun e w' => e = .returned (.int .i64 ((n - W : Nat) : Int)) ∧ w = w' := by
  by_cases h : W < n
  · go_enter Tryd.func74, Tryd.ntmps74
    have h1 : (0 : Int) < (n : Int) - (W : Int) := by omega
    go_wp2
    go_ret
    exact ⟨ret_int (by omega), rfl⟩
  · go_enter Tryd.func74, Tryd.ntmps74
    have h1 : ¬ (0 : Int) < (n : Int) - (W : Int) := by omega
    go_wp2
    go_ret
    exact ⟨ret_int (by omega), rfl⟩
theorem spec_least (n W L : Nat) (w : World) : Calls Tryd.prog 75 #[.int .i64 ((n : Int) + 1 + (W : Int)), .int .i64 (L : Int)] w fun e w' => e = .returned (.int .i64 ((min L (n + 1 + W) : Nat) : Int)) ∧ w = w' := by
  by_cases h : n + 1 + W < L
  · go_enter Tryd.func75, Tryd.ntmps75
    have h1 : (n : Int) + 1 + (W : Int) < (L : Int) := by omega
    go_wp2
    go_ret
    exact ⟨ret_int (by omega), rfl⟩
  · go_enter Tryd.func75, Tryd.ntmps75
    have h1 : ¬ (n : Int) + 1 + (W : Int) < (L : Int) := by omega
    go_wp2
    go_ret
    exact ⟨ret_int (by omega), rfl⟩
theorem spec_l19Join_int (A : Option Addr) (cap : Nat) (l : List ByteArray) (x y : Int) (a b : Nat) (w : World) (hx : x = a) (hy : y = b) (hr : Reads w w.heap.size 1 A l.length (strsV l)) (hab : a ≤ b) (hbl : b ≤ l.length) (hn : l.length ≤ 1048576) (ht : ∀ t ∈ l, t.size ≤ 4194304) :
    Calls Tryd.prog 73 #[.slice A l.length cap, .int .i64 x, .int .i64 y] w fun e w' => e = .returned (.string (strB (joinR l a (b - a)))) ∧ w = w' := by
  subst hx hy
  exact spec_l19Join A cap l a b w hr hab hbl hn ht

set_option maxHeartbeats 8000000 in
theorem spec_Concordance (A : Option Addr) (cap : Nat) (l : List TurnD) (word : ByteArray) (wd : Int) (w : World) (hr : Reads w w.heap.size 2 A l.length (turnsV l)) (hn : l.length ≤ 1048576) (ht : ShortT l) (hs : word.size ≤ 1048576) :
    Calls Tryd.prog 21 #[.agg #[.slice A l.length cap], .string word, .int .i64 wd] w (ConcRes l word wd w) := by
  have HT := Lib.hid ht
  clear ht
  obtain ⟨W1, hW1⟩ : ∃ W1, W1 = w.alloc (.cells #[.slice A l.length cap] 31) := ⟨_, rfl⟩
  have hb1 : Below w.heap.size w W1 := by rw [hW1]; exact (Below.refl _ _).alloc (Nat.le_refl _) _
  have bP : Box W1 w.heap.size 31 (.slice A l.length cap) := by rw [hW1]; exact Box.new w _ _
  go_enter Tryd.func21, Tryd.ntmps21
  go_wp2_with fail
  rw [← hW1]
  clear hW1
  refine (spec_NormalizeWord word _ hs).mono ?_
  rintro e w2 ⟨rfl, b2⟩
  have bP2 := bP.far b2
  have cP2 := bP2.cell
  have B2 := hb1.trans (b2.mono hb1.size)
  clear bP
  obtain ⟨due, hdue⟩ : ∃ due, due = normS word := ⟨_, rfl⟩
  rw [← hdue]
  have HDUE := Lib.hid hdue
  clear hdue
  cases hv : transB l
  · go_wp2_with fail
    refine (spec_IsValidTranscript A cap l _ ((hr.below B2).more B2.size) (by omega) HT.out).mono ?_
    rw [hv]
    rintro e w3 ⟨rfl, b3⟩
    have HNO := Lib.hid (show concB l word wd = false by simp [concB, hv])
    go_wp2
    go_ret2
    exact conc_no HNO.out (B2.trans (b3.mono B2.size))
  have HV := Lib.hid hv
  go_wp2_with fail
  refine (spec_IsValidTranscript A cap l _ ((hr.below B2).more B2.size) (by omega) HT.out).mono ?_
  rw [hv]
  clear hv
  rintro e w3 ⟨rfl, b3⟩
  have bP3 := bP2.far b3
  have B3 := B2.trans (b3.mono B2.size)
  clear bP2 cP2
  by_cases hd0 : due = ⟨#[]⟩
  · have HNO := Lib.hid (show concB l word wd = false by simp [concB, ← HDUE.out, hd0])
    subst hd0
    go_wp2
    go_ret2
    exact conc_no HNO.out B3
  obtain ⟨hd1, hd2, hd3⟩ := str_nonempty hd0
  have HD0 := Lib.hid hd0
  clear hd0
  by_cases h81 : ¬ word.size ≤ 80
  · have HNO := Lib.hid (show concB l word wd = false by simp [concB]; intros; omega)
    have i1 : (80 : Int) < (word.size : Int) := by omega
    go_wp2
    go_ret2
    exact conc_no HNO.out B3
  have h80 : word.size ≤ 80 := by omega
  clear h81
  have i80 : ¬ (80 : Int) < (word.size : Int) := by omega
  cases hi : inB wd 0 10
  · have HNO := Lib.hid (show concB l word wd = false by simp [concB, hi])
    go_wp2_with fail
    refine (spec_l1In wd 0 10 _).mono ?_
    rw [hi]
    rintro e w4 ⟨rfl, rfl⟩
    go_wp2
    go_ret2
    exact conc_no HNO.out B3
  have hcb : concB l word wd = true := by simp [concB, HV.out, h80, hi, ← HDUE.out, HD0.out]
  have HCB := Lib.hid hcb
  go_wp2_with fail
  refine (spec_l1In wd 0 10 _).mono ?_
  rw [hi]
  rintro e w4 ⟨rfl, rfl⟩
  rw [inB_iff] at hi
  obtain ⟨W, rfl⟩ : ∃ W : Nat, wd = W := ⟨wd.toNat, by omega⟩
  have hW : W ≤ 10 := by omega
  clear hi hcb hd1 hd2 hd3 i80 hb1
  have cP3 := bP3.cell
  have h30 := trans_len HV.out
  have s3 : w.heap.size + 1 ≤ w3.heap.size := bP3.lt
  go_wp2
  go_loopw [9, 10] (fun v i wr => ∃ k : Nat, k ≤ l.length ∧ i = .int .i64 k ∧ wr.ownsRow (w.heap.size + 1) 9 1 v (linesT l due W k).length (strsV (linesT l due W k)) ∧ Box wr w.heap.size 31 (.slice A l.length cap) ∧ Below w.heap.size w wr) (fun _ i _ => l.length - (intOf i).toNat)
  case atStart => exact ⟨0, Nat.zero_le _, rfl, World.ownsRow_made _ _ _ s3 (by simp) rfl, bP3.alloc _, B3.alloc B3.size _⟩
  case round =>
    obtain ⟨k, hk, rfl, hown, bP, hb⟩ := hrel
    have cP := bP.cell
    have sz : w.heap.size + 1 ≤ wr.heap.size := bP.lt
    by_cases hlt : k < l.length
    · obtain ⟨b, off, hA, hb0, hc⟩ := (hr.below hb).2 (by omega)
      subst hA
      obtain ⟨⟨sp, tx⟩, hx⟩ := some_at l hlt
      obtain ⟨c1, c2⟩ := Reads.turn hc hx
      have htx := turn_text HV.out hx
      simp only at htx c1 c2
      have hts := (HT.out _ (List.mem_of_getElem? hx)).2
      simp only at hts
      obtain ⟨hwl, hwz⟩ := text_len htx
      have HNX := Lib.hid (linesT_next (due := due) (W := W) hx)
      have hlt2 := linesT_len HV.out due W k
      have HWZ := Lib.hid hwz
      have HTX := Lib.hid htx
      have i0 : (0 : Int) ≤ (k : Int) := by omega
      have i1 : (k : Int) < (l.length : Int) := by omega
      clear hx hc htx hwz
      go_wp2_with fail
      refine (spec_l21Words tx _ hts HTX.out).mono ?_
      rintro e w5 ⟨vl, rfl, ol, b5⟩
      have bP5 := bP.far b5
      have B5 := hb.trans (b5.mono hb.size)
      have hown5 := row_below hown b5
      have hgb : ∀ g, u9.ownBlock = some g → g < wr.heap.size := fun g hg => (hown.lt g hg).2
      have hlo : w.heap.size + 1 ≤ w5.heap.size := bP5.lt
      have hp0 : 0 < (wordsV tx).length := text_some HTX.out
      obtain ⟨gw, cw, hvl, hg1, hg2, hg3, -, -, -, -⟩ := ol.open_ hp0
      subst hvl
      have hap : u9.ownBlock ≠ some gw := fun h => by have := hgb _ h; omega
      obtain ⟨lo, hlo'⟩ : ∃ lo, lo = wr.heap.size := ⟨_, rfl⟩
      have row5 := ol.1
      rw [← hlo'] at row5
      clear hlo'
      clear cP bP hown hb hgb b5 c1 c2 bP3 cP3 b3 B3 b2 B2
      clear ol
      generalize hzs : wordsV tx = zs at *
      generalize hos : linesT l due W k = os at *
      have HOS := Lib.hid hos
      have HZS := Lib.hid hzs
      clear hos hzs
      have hol : os.length ≤ 1200 := by omega
      go_wp2
      go_loopw [9, 12] (fun v j wr => ∃ m : Nat, m ≤ zs.length ∧ j = .int .i64 m ∧ wr.ownsRow (w.heap.size + 1) 9 1 v (os ++ linesK zs due W m).length (strsV (os ++ linesK zs due W m)) ∧ v.ownBlock ≠ some gw ∧ wr.ownsRow lo 9 1 (.slice (some ⟨gw, 0, none⟩) zs.length cw) zs.length (strsV zs) ∧ Box wr w.heap.size 31 (.slice (some ⟨b, off, none⟩) l.length cap) ∧ Below w.heap.size w wr) (fun _ j _ => zs.length - (intOf j).toNat)
      case atStart => exact ⟨0, Nat.zero_le _, rfl, by rw [linesK, List.append_nil]; exact hown5, hap, row5, bP5, B5⟩
      case round =>
        obtain ⟨m, hm, rfl, hown, hap, hrow, bP, hb⟩ := hrel
        have hln := linesK_len zs due W m
        have hsz1 : w.heap.size + 1 ≤ wr.heap.size := bP.lt
        have hoz : (os ++ linesK zs due W m).length ≤ 1240 := by rw [List.length_append]; omega
        by_cases hmt : m < zs.length
        · obtain ⟨x, hx⟩ := some_at zs hmt
          have cx : wr.cell? ⟨gw, m, none⟩ = some (.string x) := (hrow.cellAt m (by omega)).trans (strsV_at hx)
          have hxz := HWZ.out x (List.mem_of_getElem? hx)
          have HX := Lib.hid hx
          have j0 : (0 : Int) ≤ (m : Int) := by omega
          have j1 : (m : Int) < (zs.length : Int) := by omega
          clear hx
          go_wp2_with fail
          refine (spec_NormalizeWord x _ (by omega)).mono ?_
          rintro e w6 ⟨rfl, b6⟩
          have bP6 := bP.far b6
          have B6 := hb.trans (b6.mono hb.size)
          have hown6 := row_below hown b6
          have hrow6 := row_below hrow b6
          have cx6 : w6.cell? ⟨gw, m, none⟩ = some (.string x) := (hrow6.cellAt m (by omega)).trans (strsV_at HX.out)
          have hsz6 : w.heap.size + 1 ≤ w6.heap.size := bP6.lt
          obtain ⟨nx, hnx⟩ : ∃ nx, nx = normS x := ⟨_, rfl⟩
          rw [← hnx]
          have HN := Lib.hid hnx
          clear hnx cx b6 hown hrow bP hb
          by_cases hd : nx = due
          · have HY := Lib.hid (linesK_yes (due := due) (W := W) HX.out (by rw [← HN.out]; exact hd))
            rw [hd]
            clear hd
            have HB9 := Lib.hid (bP6.ne_own hown6 (by decide))
            have y1 : ¬ (9223372036854775807 < 1 + x.size) := by omega
            have y1' : ¬ (9223372036854775806 < x.size) := by omega
            have y2 : ¬ (9223372036854775807 < 1 + x.size + 1) := by omega
            have y2' : ¬ (9223372036854775806 < 1 + x.size) := by omega
            have HNE := Lib.hid (show ∀ y ∈ zs, y.size ≠ 0 from fun y hy => by have := HWZ.out y hy; omega)
            have HZ4 := Lib.hid (show ∀ y ∈ zs, y.size ≤ 4194304 from fun y hy => by have := HWZ.out y hy; omega)
            have R6 := Reads.of_own hrow6
            have hLz : (strB (joinS (leftL zs m W))).size ≤ 3240 := by
              have h1 := joinS_len (B := 80) (leftL zs m W) (fun y hy => (HWZ.out y (leftL_mem hy)).2)
              rw [leftL_len hmt] at h1
              have h2 : (m - (m - W)) * (80 + 1) ≤ 40 * (80 + 1) := Nat.mul_le_mul_right _ (by omega)
              exact Nat.le_trans h1 h2
            have hRz : (strB (joinS (rightL zs m W))).size ≤ 3240 := by
              have h1 := joinS_len (B := 80) (rightL zs m W) (fun y hy => (HWZ.out y (rightL_mem hy)).2)
              rw [rightL_len hmt] at h1
              have h2 : (min zs.length (m + 1 + W) - (m + 1)) * (80 + 1) ≤ 40 * (80 + 1) := Nat.mul_le_mul_right _ (by omega)
              exact Nat.le_trans h1 h2
            go_wp2_with fail
            refine (spec_most m W _).mono ?_
            rintro e w7 ⟨rfl, rfl⟩
            go_wp2_with fail
            refine (spec_l19Join_int _ cw zs _ _ (m - W) m _ rfl rfl R6 (by omega) (by omega) (by omega) HZ4.out).mono ?_
            rintro e w7 ⟨rfl, rfl⟩
            rw [show strB (joinR zs (m - W) (m - (m - W))) = strB (joinS (leftL zs m W)) from rfl]
            go_wp2_with fail
            refine (spec_least m W zs.length _).mono ?_
            rintro e w7 ⟨rfl, rfl⟩
            go_wp2_with fail
            refine (spec_l19Join_int _ cw zs _ _ (m + 1) (min zs.length (m + 1 + W)) _ (by omega) rfl R6 (by omega) (by omega) (by omega) HZ4.out).mono ?_
            rintro e w7 ⟨rfl, rfl⟩
            rw [show strB (joinR zs (m + 1) (min zs.length (m + 1 + W) - (m + 1))) = strB (joinS (rightL zs m W)) from rfl]
            have L00 := Lib.hid (line_00 (l := zs) (n := m) (W := W) x HNE.out)
            have L01 := Lib.hid (line_01 (l := zs) (n := m) (W := W) x HNE.out)
            have L10 := Lib.hid (line_10 (l := zs) (n := m) (W := W) x HNE.out)
            have L11 := Lib.hid (line_11 (l := zs) (n := m) (W := W) x HNE.out)
            generalize strB (joinS (leftL zs m W)) = LB at *
            generalize strB (joinS (rightL zs m W)) = RB at *
            have y3 : ¬ (9223372036854775807 < LB.size + 1) := by omega
            have y3' : ¬ (9223372036854775806 < LB.size) := by omega
            have y4 : ¬ (9223372036854775807 < LB.size + 1 + (1 + x.size + 1)) := by omega
            have y5 : ¬ (9223372036854775807 < LB.size + 1 + (1 + x.size + 1) + 1) := by omega
            have y5' : ¬ (9223372036854775806 < LB.size + 1 + (1 + x.size + 1)) := by omega
            have y6 : ¬ (9223372036854775807 < LB.size + 1 + (1 + x.size + 1) + 1 + RB.size) := by omega
            have y7 : ¬ (9223372036854775807 < 1 + x.size + 1 + 1) := by omega
            have y7' : ¬ (9223372036854775806 < 1 + x.size + 1) := by omega
            have y8 : ¬ (9223372036854775807 < 1 + x.size + 1 + 1 + RB.size) := by omega
            by_cases hL : LB = ⟨#[]⟩
            · by_cases hR : RB = ⟨#[]⟩
              · have HL := Lib.hid (L00.out hL hR)
                rw [hL, hR]
                clear hL hR
                (
              go_wp2_with (at_builtin; refine wpList_append_oneA hown6 hsz6 (.tmp 99) (.tmp 101) 42 Tryd.underlying42 info_string (by omega) (by unfold maxLen; omega) ⟨rfl, rfl, rfl, rfl, rfl, rfl⟩ (by simp) ?_; intro v8 w8 hown8 hg8 hat8)
              go_roundw
              case rel => exact ⟨m + 1, by omega, by go_num, by rw [HY.out, ← List.append_assoc, strsV_snoc, List.length_append, HL.out]; first | exact hown8 | (simp only [brk, ByteArray.append_assoc] at hown8 ⊢; exact hown8), apart_next hap (hrow6.lt gw rfl).2 hat8, hrow6.kept hg8 (.inr (fun h => hap h.symm)), bP6.grown hg8 HB9.out, below_grown B6 hg8 B6.size hown6 rfl (by omega)⟩
              case measure => simp [intOf]; omega)
              · have HL := Lib.hid (L01.out hL hR)
                rw [hL]
                obtain ⟨r1, r2, r3⟩ := str_nonempty hR
                clear hL hR
                (
              go_wp2_with (at_builtin; refine wpList_append_oneA hown6 hsz6 (.tmp 99) (.tmp 101) 42 Tryd.underlying42 info_string (by omega) (by unfold maxLen; omega) ⟨rfl, rfl, rfl, rfl, rfl, rfl⟩ (by simp) ?_; intro v8 w8 hown8 hg8 hat8)
              go_roundw
              case rel => exact ⟨m + 1, by omega, by go_num, by rw [HY.out, ← List.append_assoc, strsV_snoc, List.length_append, HL.out]; first | exact hown8 | (simp only [brk, ByteArray.append_assoc] at hown8 ⊢; exact hown8), apart_next hap (hrow6.lt gw rfl).2 hat8, hrow6.kept hg8 (.inr (fun h => hap h.symm)), bP6.grown hg8 HB9.out, below_grown B6 hg8 B6.size hown6 rfl (by omega)⟩
              case measure => simp [intOf]; omega)
            · obtain ⟨q1, q2, q3⟩ := str_nonempty hL
              by_cases hR : RB = ⟨#[]⟩
              · have HL := Lib.hid (L10.out hL hR)
                rw [hR]
                clear hL hR
                (
              go_wp2_with (at_builtin; refine wpList_append_oneA hown6 hsz6 (.tmp 99) (.tmp 101) 42 Tryd.underlying42 info_string (by omega) (by unfold maxLen; omega) ⟨rfl, rfl, rfl, rfl, rfl, rfl⟩ (by simp) ?_; intro v8 w8 hown8 hg8 hat8)
              go_roundw
              case rel => exact ⟨m + 1, by omega, by go_num, by rw [HY.out, ← List.append_assoc, strsV_snoc, List.length_append, HL.out]; first | exact hown8 | (simp only [brk, ByteArray.append_assoc] at hown8 ⊢; exact hown8), apart_next hap (hrow6.lt gw rfl).2 hat8, hrow6.kept hg8 (.inr (fun h => hap h.symm)), bP6.grown hg8 HB9.out, below_grown B6 hg8 B6.size hown6 rfl (by omega)⟩
              case measure => simp [intOf]; omega)
              · have HL := Lib.hid (L11.out hL hR)
                obtain ⟨r1, r2, r3⟩ := str_nonempty hR
                clear hL hR
                (
              go_wp2_with (at_builtin; refine wpList_append_oneA hown6 hsz6 (.tmp 99) (.tmp 101) 42 Tryd.underlying42 info_string (by omega) (by unfold maxLen; omega) ⟨rfl, rfl, rfl, rfl, rfl, rfl⟩ (by simp) ?_; intro v8 w8 hown8 hg8 hat8)
              go_roundw
              case rel => exact ⟨m + 1, by omega, by go_num, by rw [HY.out, ← List.append_assoc, strsV_snoc, List.length_append, HL.out]; first | exact hown8 | (simp only [brk, ByteArray.append_assoc] at hown8 ⊢; exact hown8), apart_next hap (hrow6.lt gw rfl).2 hat8, hrow6.kept hg8 (.inr (fun h => hap h.symm)), bP6.grown hg8 HB9.out, below_grown B6 hg8 B6.size hown6 rfl (by omega)⟩
              case measure => simp [intOf]; omega)
          · have hne := str_other hd
            have HND := Lib.hid (linesK_no (due := due) (W := W) HX.out (by rw [← HN.out]; exact hd))
            clear hd
            go_wp2
            go_roundw
            case rel => exact ⟨m + 1, by omega, by go_num, by rw [HND.out]; exact hown6, hap, hrow6, bP6, B6⟩
            case measure => simp [intOf]; omega
        · obtain rfl : m = zs.length := by omega
          go_wp2
          go_roundw
          case rel => exact ⟨k + 1, by omega, by go_num, by rw [HNX.out]; exact hown, bP, hb⟩
          case measure => simp [intOf]; omega
    · obtain rfl : k = l.length := by omega
      go_wp2
      go_ret2
      have hcl : concL l word (W : Int) = linesT l due W l.length := by rw [concL, if_pos HCB.out, ← HDUE.out]; rfl
      exact ⟨u9, by rw [HCB.out]; rfl, by rw [hcl]; exact Own.of_row (hown.base (by omega)), hb⟩
end Go.Proofs.YtiiffdjpfjeeoaaDoor
