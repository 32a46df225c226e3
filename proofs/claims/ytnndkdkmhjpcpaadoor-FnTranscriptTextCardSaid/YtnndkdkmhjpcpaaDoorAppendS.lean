/-
  The reference's AppendTurn.
-/
import Derived.Test.YtnndkdkmhjpcpaaDoorAppendI
namespace Go.Proofs.YtnndkdkmhjpcpaaDoor
open Go.RowKit
set_option linter.unusedVariables false
set_option maxRecDepth 100000

theorem turns_one (l : List TurnD) : ∀ u ∈ turnsV l, u.oneCell' = true := by
  intro u hu
  simp only [turnsV, List.mem_flatMap, turnV] at hu
  obtain ⟨c, -, hc⟩ := hu
  simp at hc
  rcases hc with rfl | rfl <;> rfl
theorem outT_short {l : List TurnD} {sp tx : ByteArray} (hv : transB l = true) (ht : turnB (sp, tx) = true) : ShortT (outT l sp tx) := by
  intro c hc
  have h := outT_turns hv ht c hc
  simp only [turnB, speakerB, textB, Bool.and_eq_true, inB_iff, decide_eq_true_eq] at h
  omega

set_option maxHeartbeats 16000000 in
theorem spec_AppendTurn (A : Option Addr) (cap n : Nat) (l : List TurnD) (sp tx : ByteArray) (w : World) (hnl : n = l.length) (hr : Reads w w.heap.size 2 A n (turnsV l)) (hn : n ≤ 1048576) (ht : ShortT l) (hs1 : sp.size ≤ 1048576) (hs2 : tx.size ≤ 1048576) :
    Calls Tryd.prog 10 #[.agg #[.slice A n cap], .string sp, .string tx] w (AppRes l sp tx w) := by
  have HT := Lib.hid ht
  have HNL := Lib.hid hnl
  clear ht hnl
  obtain ⟨W2, hW2⟩ : ∃ W2, W2 = (w.alloc (.cells #[.slice A n cap] 26)).alloc (.cells #[.slice none 0 0] 26) := ⟨_, rfl⟩
  have hb2 : Below w.heap.size w W2 := by rw [hW2]; exact ((Below.refl _ _).alloc (Nat.le_refl _) _).alloc (by simp) _
  have hz2 : W2.heap.size = w.heap.size + 2 := by rw [hW2]; simp
  have bP : Box W2 w.heap.size 26 (.slice A n cap) := by rw [hW2]; exact (Box.new w _ _).alloc _
  have bR : Box W2 (w.heap.size + 1) 26 (.slice none 0 0) := by
    rw [hW2]
    have h := Box.new (w.alloc (.cells #[.slice A n cap] 26)) 26 (.slice none 0 0)
    rwa [show (w.alloc (.cells #[.slice A n cap] 26)).heap.size = w.heap.size + 1 by simp] at h
  have HZ2 := Lib.hid hz2
  have rl : Reads W2 W2.heap.size 2 A l.length (turnsV l) := by rw [← HNL.out]; exact (hr.below hb2).more hb2.size
  have hcl := spec_IsValidTranscript A cap l W2 rl (by rw [← HNL.out]; omega) HT.out
  rw [← HNL.out] at hcl
  have HCL := Lib.hid hcl
  clear hz2 hcl
  cases hv : transB l
  · have HA := Lib.hid (show appB l sp tx = false by simp [appB, hv])
    go_enter Tryd.func10, Tryd.ntmps10
    go_wp2_with fail
    rw [← hW2]
    clear hW2
    refine HCL.out.mono ?_
    rw [hv]
    rintro e w3 ⟨rfl, b3⟩
    have bR3 := bR.far b3
    have cR := bR3.cell
    have fR := bR3.free
    go_wp2
    refine bodyPost_ret (v := .tuple #[.agg #[.slice none 0 0], .bool false]) (by simp [results, go_sem, cR]) rfl ?_
    exact ⟨_, by rw [HA.out], by rw [resT_no HA.out]; exact Own.none_, (hb2.trans (b3.mono hb2.size)).setCell (by show w.heap.size ≤ w.heap.size + 1; omega) _⟩
  have HV := Lib.hid hv
  cases hsb : speakerB sp
  · have HA := Lib.hid (show appB l sp tx = false by simp [appB, turnB, hsb])
    go_enter Tryd.func10, Tryd.ntmps10
    go_wp2_with fail
    rw [← hW2]
    clear hW2
    refine HCL.out.mono ?_
    rw [hv]
    clear hv
    rintro e w3 ⟨rfl, b3⟩
    go_wp2_with fail
    refine (spec_l21Speaker sp _ (by unfold maxLen; omega)).mono ?_
    rw [hsb]
    rintro e w4 ⟨rfl, rfl⟩
    have bR3 := bR.far b3
    have cR := bR3.cell
    have fR := bR3.free
    go_wp2
    refine bodyPost_ret (v := .tuple #[.agg #[.slice none 0 0], .bool false]) (by simp [results, go_sem, cR]) rfl ?_
    exact ⟨_, by rw [HA.out], by rw [resT_no HA.out]; exact Own.none_, (hb2.trans (b3.mono hb2.size)).setCell (by show w.heap.size ≤ w.heap.size + 1; omega) _⟩
  cases htb : textB tx
  · have HA := Lib.hid (show appB l sp tx = false by simp [appB, turnB, htb])
    go_enter Tryd.func10, Tryd.ntmps10
    go_wp2_with fail
    rw [← hW2]
    clear hW2
    refine HCL.out.mono ?_
    rw [hv]
    clear hv
    rintro e w3 ⟨rfl, b3⟩
    go_wp2_with fail
    refine (spec_l21Speaker sp _ (by unfold maxLen; omega)).mono ?_
    rw [hsb]
    rintro e w4 ⟨rfl, rfl⟩
    go_wp2_with fail
    refine (spec_l21Text tx _ (by omega)).mono ?_
    rw [htb]
    rintro e w4 ⟨rfl, b4⟩
    have b34 := b3.trans (b4.mono b3.size)
    have bR3 := bR.far b34
    have cR := bR3.cell
    have fR := bR3.free
    go_wp2
    refine bodyPost_ret (v := .tuple #[.agg #[.slice none 0 0], .bool false]) (by simp [results, go_sem, cR]) rfl ?_
    exact ⟨_, by rw [HA.out], by rw [resT_no HA.out]; exact Own.none_, (hb2.trans (b34.mono hb2.size)).setCell (by show w.heap.size ≤ w.heap.size + 1; omega) _⟩
  have HTN := Lib.hid (show turnB (sp, tx) = true by simp [turnB, hsb, htb])
  have hsz0 : ∀ (k : Nat) (c : TurnD), l[k]? = some c → c.1.size ≤ 12 ∧ c.2.size ≤ 2000 := fun k c h => turn_sizes HV.out h
  have h30 := trans_len HV.out
  have hn30 : n ≤ 30 := by rw [HNL.out]; exact h30
  have HSZ := Lib.hid hsz0
  have HVO := Lib.hid (outT_valid HV.out HTN.out)
  have HSH := Lib.hid (outT_short HV.out HTN.out)
  go_enter Tryd.func10, Tryd.ntmps10
  go_wp2_with fail
  rw [← hW2]
  clear hW2
  refine HCL.out.mono ?_
  rw [hv]
  clear hv hsz0 h30
  rintro e w3 ⟨rfl, b3⟩
  go_wp2_with fail
  refine (spec_l21Speaker sp _ (by unfold maxLen; omega)).mono ?_
  rw [hsb]
  clear hsb
  rintro e wq ⟨rfl, rfl⟩
  go_wp2_with fail
  refine (spec_l21Text tx _ (by omega)).mono ?_
  rw [htb]
  clear htb
  rintro e w4 ⟨rfl, b4⟩
  have b34 := b3.trans (b4.mono b3.size)
  have bR4 := bR.far b34
  have bP4 := bP.far b34
  have cP4 := bP4.cell
  have B4 := hb2.trans (b34.mono hb2.size)
  have z4 : w.heap.size + 1 < w4.heap.size := bR4.lt
  have zP : w.heap.size < w4.heap.size := bP4.lt
  have ho4 : (w4.alloc (.cells #[] 77)).ownsRow w4.heap.size 77 2 (.slice (some ⟨w4.heap.size, 0, none⟩) 0 0) 0 [] := World.ownsRow_made _ _ _ (Nat.le_refl _) (by simp) rfl
  have r4 : Reads (w4.alloc (.cells #[] 77)) (w4.alloc (.cells #[] 77)).heap.size 2 A n (turnsV l) := (((hr.below B4).more B4.size).alloc (Nat.le_refl _) _).more (by simp)
  have a4 : Below w4.heap.size w4 (w4.alloc (.cells #[] 77)) := (Below.refl _ _).alloc (Nat.le_refl _) _
  have zz4 : w4.heap.size ≤ (w4.alloc (.cells #[] 77)).heap.size := by simp
  have H1 := Lib.hid (turns_one l)
  clear bR bP
  rcases n with _ | m
  · have HO := Lib.hid (show outT l sp tx = l ++ [(sp, tx)] by rw [List.eq_nil_of_length_eq_zero HNL.out.symm]; rfl)
    have hln : (outT l sp tx).length = 0 + 1 := by simp [HO.out, ← HNL.out]
    have HLN := Lib.hid hln
    clear hln
    go_wp2_with (first | (at_builtin; refine wpList_append_src ho4 (by simp) r4 H1.out (.tmp 24) (.tmp 26) 24 Tryd.underlying24 info_turn (by omega) (by unfold maxLen; omega) ⟨rfl, rfl, rfl, rfl, rfl, by decide⟩ ?_; intro v5 w5 hown5 hb5; rw [Nat.zero_add, List.nil_append] at hown5; obtain ⟨A5, c5, hv5, -, -, -⟩ := (Own.of_row hown5).slice; subst hv5; have s5 : w4.heap.size ≤ w5.heap.size := Nat.le_trans zz4 hb5.size; have bR5 := bR4.below (a4.trans hb5) z4; have bR6 := bR5.alloc (.cells #[.slice A5 0 c5] 26); have bO6 := Box.new w5 26 (.slice A5 0 c5); have own6 := hown5.alloc (.cells #[.slice A5 0 c5] 26); have nO6 := Lib.hid (bO6.ne_own own6 (by decide)); have nR6 := Lib.hid (bR6.ne_own own6 (by decide)); have s6 : w4.heap.size ≤ (w5.alloc (.cells #[.slice A5 0 c5] 26)).heap.size := by simp at *; omega) | (at_builtin; refine wpList_append_twoG own6 s6 (.tmp 72) (.tmp 76) 24 Tryd.underlying24 info_turn (by omega) (by unfold maxLen; omega) ⟨rfl, rfl, rfl, rfl, rfl, rfl, rfl⟩ (by simp) ?_; intro v7 w7 hown7 hg7; obtain ⟨A7, k7, hv7, -, -, -⟩ := (Own.of_row hown7).slice; subst hv7; have bR7 := bR6.grown hg7 nR6.out; have bO7 := bO6.grown hg7 nO6.out; have cO7 := bO7.cell; have fO7 := bO7.free))
    have S7 : w4.heap.size ≤ w7.heap.size := Nat.le_trans s6 hg7.size
    have own8 : (w7.setCell ⟨w5.heap.size, 0, none⟩ (.slice A7 (0 + 1) k7)).ownsRow w4.heap.size 77 2 (.slice A7 (0 + 1) k7) (0 + 1) (turnsV (outT l sp tx)) := by rw [HO.out, turnsV_snoc]; exact ownsRow_setCell_other (a := ⟨w5.heap.size, 0, none⟩) hown7 (bO7.ne_own hown7 (by decide)) _
    have bR8 := bR7.setOther (a := ⟨w5.heap.size, 0, none⟩) (by show w5.heap.size ≠ w.heap.size + 1; omega) (.slice A7 (0 + 1) k7)
    have bO8 := bO7.set_ (.slice A7 (0 + 1) k7)
    have B8 := (below_grown ((B4.trans ((a4.trans hb5).mono (by omega))).alloc (by omega) _) hg7 (by omega) own6 rfl (by omega)).setCell (p := ⟨w5.heap.size, 0, none⟩) (by show w.heap.size ≤ w5.heap.size; omega) (.slice A7 (0 + 1) k7)
    have S8 : w4.heap.size ≤ (w7.setCell ⟨w5.heap.size, 0, none⟩ (.slice A7 (0 + 1) k7)).heap.size := by simpa [World.setCell] using S7
    have hvc := spec_IsValidTranscript A7 k7 (outT l sp tx) (w7.setCell ⟨w5.heap.size, 0, none⟩ (.slice A7 (0 + 1) k7)) (by rw [HLN.out]; exact Reads.of_own own8) (by rw [HLN.out]; omega) HSH.out
    rw [HLN.out] at hvc
    by_cases h30 : 0 + 1 ≤ 30
    · have HA := Lib.hid (show appB l sp tx = true by simp [appB, HV.out, HTN.out, HLN.out]; try omega)
      have hvo : transB (outT l sp tx) = true := by rw [HVO.out, HLN.out]; exact decide_eq_true h30
      rw [hvo] at hvc
      have HVC := Lib.hid hvc
      clear hvc hvo
      refine HVC.out.mono ?_
      rintro e w9 ⟨rfl, b9⟩
      have bR9 := bR8.far b9
      have cR := bR9.cell
      have fR := bR9.free
      have cO9 := (bO8.far b9).cell
      have own9 := ((Own.of_row own8).below b9).1
      go_wp2
      refine bodyPost_ret (v := .tuple #[.agg #[.slice A7 (0 + 1) k7], .bool true]) (by simp [results, go_sem, cR]) rfl ?_
      exact ⟨_, by rw [HA.out], by rw [resT_yes HA.out, HLN.out]; exact own_store own9 z4 (by omega) _, (B8.trans (b9.mono (by omega))).setCell (by show w.heap.size ≤ w.heap.size + 1; omega) _⟩
    · exact absurd h30 (by omega)
  · obtain ⟨c, hc, hg⟩ := last_at HNL.out.symm
    obtain ⟨cs, ct⟩ := c
    have hcz := HSZ.out _ _ hc
    simp only at hcz
    obtain ⟨hz1, hz2⟩ := hcz
    have HG := Lib.hid hg
    have HC := Lib.hid hc
    have i0 : (0 : Int) ≤ (m : Int) := by omega
    have i1 : (m : Int) < (m : Int) + 1 := by omega
    clear hc hg
    by_cases hsp : cs = sp
    · subst hsp
      have y1 : ¬ (9223372036854775807 < ct.size + 1) := by omega
      have y2 : ¬ (9223372036854775806 < ct.size) := by omega
      have y3 : ¬ (9223372036854775807 < ct.size + 1 + tx.size) := by omega
      go_wp2_with (first | (at_builtin; refine wpList_append_src ho4 (by simp) r4 H1.out (.tmp 24) (.tmp 26) 24 Tryd.underlying24 info_turn (by omega) (by unfold maxLen; omega) ⟨rfl, rfl, rfl, rfl, rfl, by decide⟩ ?_; intro v5 w5 hown5 hb5; rw [Nat.zero_add, List.nil_append] at hown5; obtain ⟨g5, c5, hv5, hg51, hg52, hg53, -, -, -, hf5⟩ := (Own.of_row hown5).open_ (by omega); have hf6 := Lib.hid hf5; clear hf5; subst hv5; obtain ⟨e1, e2⟩ := (Own.of_row hown5).turn HC.out; simp only at e1 e2; have s5 : w4.heap.size ≤ w5.heap.size := Nat.le_trans zz4 hb5.size; have bR5 := bR4.below (a4.trans hb5) z4; have bR6 := bR5.alloc (.cells #[.slice (some ⟨g5, 0, none⟩) (m + 1) c5] 26); have bO6 := Box.new w5 26 (.slice (some ⟨g5, 0, none⟩) (m + 1) c5); have own6 := hown5.alloc (.cells #[.slice (some ⟨g5, 0, none⟩) (m + 1) c5] 26); have nO6 := Lib.hid (bO6.ne_own own6 (by decide)); have nR6 := Lib.hid (bR6.ne_own own6 (by decide)); have s6 : w4.heap.size ≤ (w5.alloc (.cells #[.slice (some ⟨g5, 0, none⟩) (m + 1) c5] 26)).heap.size := by simp at *; omega))
      have B6 := (B4.trans ((a4.trans hb5).mono (by omega))).alloc (show w.heap.size ≤ w5.heap.size by omega) (.cells #[.slice (some ⟨g5, 0, none⟩) (m + 1) c5] 26)
      have hO5 : w.heap.size + 1 < w5.heap.size := by omega
      generalize hW6 : w5.alloc (.cells #[.slice (some ⟨g5, 0, none⟩) (m + 1) c5] 26) = w6 at *
      generalize hO : w5.heap.size = O at *
      clear hW6 hO
      cases htt : textB (behind ct tx)
      · have HO := Lib.hid (outT_other (sp := cs) (tx := tx) HG.out (fun h => by rw [h.2] at htt; cases htt))
        have hln : (outT l cs tx).length = m + 1 + 1 := by simp [HO.out, ← HNL.out]
        have HLN := Lib.hid hln
        refine (spec_l21Text (behind ct tx) _ (by rw [behind_size]; omega)).mono ?_
        rw [htt]
        clear htt hln
        rintro e wx ⟨rfl, bx⟩
        have B6 := B6.trans (bx.mono B6.size)
        have own6 := ((Own.of_row own6).below bx).1
        have bR6 := bR6.far bx
        have bO6 := bO6.far bx
        have s6 : w4.heap.size ≤ wx.heap.size := Nat.le_trans s6 bx.size
        have cO6 := bO6.cell
        clear y1 y2 y3
        go_wp2_with (at_builtin; refine wpList_append_twoG own6 s6 (.tmp 72) (.tmp 76) 24 Tryd.underlying24 info_turn (by omega) (by unfold maxLen; omega) ⟨rfl, rfl, rfl, rfl, rfl, rfl, rfl⟩ (by simp) ?_; intro v7 w7 hown7 hg7; obtain ⟨A7, k7, hv7, -, -, -⟩ := (Own.of_row hown7).slice; subst hv7; have bR7 := bR6.grown hg7 nR6.out; have bO7 := bO6.grown hg7 nO6.out; have cO7 := bO7.cell; have fO7 := bO7.free)
        have S7 : w4.heap.size ≤ w7.heap.size := Nat.le_trans s6 hg7.size
        have own8 : (w7.setCell ⟨O, 0, none⟩ (.slice A7 (m + 1 + 1) k7)).ownsRow w4.heap.size 77 2 (.slice A7 (m + 1 + 1) k7) (m + 1 + 1) (turnsV (outT l cs tx)) := by rw [HO.out, turnsV_snoc]; exact ownsRow_setCell_other (a := ⟨O, 0, none⟩) hown7 (bO7.ne_own hown7 (by decide)) _
        have bR8 := bR7.setOther (a := ⟨O, 0, none⟩) (by show O ≠ w.heap.size + 1; omega) (.slice A7 (m + 1 + 1) k7)
        have bO8 := bO7.set_ (.slice A7 (m + 1 + 1) k7)
        have B8 := (below_grown (B6) hg7 (by omega) own6 rfl (by omega)).setCell (p := ⟨O, 0, none⟩) (by show w.heap.size ≤ O; omega) (.slice A7 (m + 1 + 1) k7)
        have S8 : w4.heap.size ≤ (w7.setCell ⟨O, 0, none⟩ (.slice A7 (m + 1 + 1) k7)).heap.size := by simpa [World.setCell] using S7
        have hvc := spec_IsValidTranscript A7 k7 (outT l cs tx) (w7.setCell ⟨O, 0, none⟩ (.slice A7 (m + 1 + 1) k7)) (by rw [HLN.out]; exact Reads.of_own own8) (by rw [HLN.out]; omega) HSH.out
        rw [HLN.out] at hvc
        by_cases h30 : m + 1 + 1 ≤ 30
        · have HA := Lib.hid (show appB l cs tx = true by simp [appB, HV.out, HTN.out, HLN.out]; try omega)
          have hvo : transB (outT l cs tx) = true := by rw [HVO.out, HLN.out]; exact decide_eq_true h30
          rw [hvo] at hvc
          have HVC := Lib.hid hvc
          clear hvc hvo
          refine HVC.out.mono ?_
          rintro e w9 ⟨rfl, b9⟩
          have bR9 := bR8.far b9
          have cR := bR9.cell
          have fR := bR9.free
          have cO9 := (bO8.far b9).cell
          have own9 := ((Own.of_row own8).below b9).1
          go_wp2
          refine bodyPost_ret (v := .tuple #[.agg #[.slice A7 (m + 1 + 1) k7], .bool true]) (by simp [results, go_sem, cR]) rfl ?_
          exact ⟨_, by rw [HA.out], by rw [resT_yes HA.out, HLN.out]; exact own_store own9 z4 (by omega) _, (B8.trans (b9.mono (by omega))).setCell (by show w.heap.size ≤ w.heap.size + 1; omega) _⟩
        · have HA := Lib.hid (show appB l cs tx = false by simp [appB, HLN.out]; try omega)
          have hvo : transB (outT l cs tx) = false := by rw [HVO.out, HLN.out]; exact decide_eq_false h30
          rw [hvo] at hvc
          have HVC := Lib.hid hvc
          clear hvc hvo
          refine HVC.out.mono ?_
          rintro e w9 ⟨rfl, b9⟩
          have bR9 := bR8.far b9
          have cR := bR9.cell
          have fR := bR9.free
          have cO9 := (bO8.far b9).cell
          go_wp2
          refine bodyPost_ret (v := .tuple #[.agg #[.slice none 0 0], .bool false]) (by simp [results, go_sem, cR]) rfl ?_
          exact ⟨_, by rw [HA.out], by rw [resT_no HA.out]; exact Own.none_, (B8.trans (b9.mono (by omega))).setCell (by show w.heap.size ≤ w.heap.size + 1; omega) _⟩
      · have HO := Lib.hid (outT_merge (sp := cs) (tx := tx) HNL.out.symm HG.out rfl htt)
        have hln : (outT l cs tx).length = m + 1 := by rw [HO.out, List.length_set]; exact HNL.out.symm
        have HLN := Lib.hid hln
        refine (spec_l21Text (behind ct tx) _ (by rw [behind_size]; omega)).mono ?_
        rw [htt]
        clear htt hln
        rintro e wx ⟨rfl, bx⟩
        have B6 := B6.trans (bx.mono B6.size)
        have own6 := ((Own.of_row own6).below bx)
        have bR6 := bR6.far bx
        have bO6 := bO6.far bx
        have s6 : w4.heap.size ≤ wx.heap.size := Nat.le_trans s6 bx.size
        have cO6 := bO6.cell
        obtain ⟨f1, f2⟩ := own6.turn HC.out
        simp only at f1 f2
        have fz : wx.frozen? ⟨g5, m * 2 + 1, none⟩ = false := own6.1.frozenAt _
        have nO : g5 ≠ O := fun h => nO6.out (by rw [← h]; rfl)
        have bR8 := (bR6.drew).setOther (a := ⟨g5, m * 2 + 1, none⟩) (by show g5 ≠ w.heap.size + 1; omega) (.string (ct ++ ⟨#[32]⟩ ++ tx))
        have bO8 := (bO6.drew).setOther (a := ⟨g5, m * 2 + 1, none⟩) nO (.string (ct ++ ⟨#[32]⟩ ++ tx))
        have own7 := own6.set_ (m * 2 + 1) (.string (behind ct tx))
        rw [turnsV_set2 HC.out, ← HO.out] at own7
        have own8 := own7.1
        have cO8 := bO8.cell
        have i2 : (m : Int) < ((m + 1 : Nat) : Int) := by omega
        clear e1 e2
        go_wp2
        go_still_tail 14, (by kernel_rfl)
        go_wp2_with fail
        have bR8 : Box (wx.setCell ⟨g5, m * 2 + 1, none⟩ (.string (ct ++ ⟨#[32]⟩ ++ tx))).drew (w.heap.size + 1) 26 (.slice none 0 0) := bR8
        have bO8 : Box (wx.setCell ⟨g5, m * 2 + 1, none⟩ (.string (ct ++ ⟨#[32]⟩ ++ tx))).drew O 26 (.slice (some ⟨g5, 0, none⟩) (m + 1) c5) := bO8
        have own8 : (wx.setCell ⟨g5, m * 2 + 1, none⟩ (.string (ct ++ ⟨#[32]⟩ ++ tx))).drew.ownsRow w4.heap.size 77 2 (.slice (some ⟨g5, 0, none⟩) (m + 1) c5) (m + 1) (turnsV (outT l cs tx)) := own8
        have B8 : Below w.heap.size w (wx.setCell ⟨g5, m * 2 + 1, none⟩ (.string (ct ++ ⟨#[32]⟩ ++ tx))).drew := (B6.setCell (p := ⟨g5, m * 2 + 1, none⟩) (by show w.heap.size ≤ g5; omega) _).drew
        have S8 : w4.heap.size ≤ (wx.setCell ⟨g5, m * 2 + 1, none⟩ (.string (ct ++ ⟨#[32]⟩ ++ tx))).drew.heap.size := by simpa [World.setCell, World.drew] using s6
        clear own7
        have hvc := spec_IsValidTranscript (some ⟨g5, 0, none⟩) c5 (outT l cs tx) (wx.setCell ⟨g5, m * 2 + 1, none⟩ (.string (ct ++ ⟨#[32]⟩ ++ tx))).drew (by rw [HLN.out]; exact Reads.of_own own8) (by rw [HLN.out]; omega) HSH.out
        rw [HLN.out] at hvc
        by_cases h30 : m + 1 ≤ 30
        · have HA := Lib.hid (show appB l cs tx = true by simp [appB, HV.out, HTN.out, HLN.out]; try omega)
          have hvo : transB (outT l cs tx) = true := by rw [HVO.out, HLN.out]; exact decide_eq_true h30
          rw [hvo] at hvc
          have HVC := Lib.hid hvc
          clear hvc hvo
          refine HVC.out.mono ?_
          rintro e w9 ⟨rfl, b9⟩
          have bR9 := bR8.far b9
          have cR := bR9.cell
          have fR := bR9.free
          have cO9 := (bO8.far b9).cell
          have own9 := ((Own.of_row own8).below b9).1
          go_wp2
          refine bodyPost_ret (v := .tuple #[.agg #[.slice (some ⟨g5, 0, none⟩) (m + 1) c5], .bool true]) (by simp [results, go_sem, cR]) rfl ?_
          exact ⟨_, by rw [HA.out], by rw [resT_yes HA.out, HLN.out]; exact own_store own9 z4 (by omega) _, (B8.trans (b9.mono (by omega))).setCell (by show w.heap.size ≤ w.heap.size + 1; omega) _⟩
        · exact absurd h30 (by omega)
    · have he : (cs.toList == sp.toList) = false := by rw [str_beq]; exact decide_eq_false hsp
      have HO := Lib.hid (outT_other (sp := sp) (tx := tx) HG.out (fun h => hsp h.1))
      have hln : (outT l sp tx).length = m + 1 + 1 := by simp [HO.out, ← HNL.out]
      have HLN := Lib.hid hln
      clear hsp hln
      go_wp2_with (first | (at_builtin; refine wpList_append_src ho4 (by simp) r4 H1.out (.tmp 24) (.tmp 26) 24 Tryd.underlying24 info_turn (by omega) (by unfold maxLen; omega) ⟨rfl, rfl, rfl, rfl, rfl, by decide⟩ ?_; intro v5 w5 hown5 hb5; rw [Nat.zero_add, List.nil_append] at hown5; obtain ⟨g5, c5, hv5, hg51, hg52, hg53, -, -, -, hf5⟩ := (Own.of_row hown5).open_ (by omega); clear hf5; subst hv5; obtain ⟨e1, e2⟩ := (Own.of_row hown5).turn HC.out; simp only at e1 e2; have s5 : w4.heap.size ≤ w5.heap.size := Nat.le_trans zz4 hb5.size; have bR5 := bR4.below (a4.trans hb5) z4; have bR6 := bR5.alloc (.cells #[.slice (some ⟨g5, 0, none⟩) (m + 1) c5] 26); have bO6 := Box.new w5 26 (.slice (some ⟨g5, 0, none⟩) (m + 1) c5); have own6 := hown5.alloc (.cells #[.slice (some ⟨g5, 0, none⟩) (m + 1) c5] 26); have nO6 := Lib.hid (bO6.ne_own own6 (by decide)); have nR6 := Lib.hid (bR6.ne_own own6 (by decide)); have s6 : w4.heap.size ≤ (w5.alloc (.cells #[.slice (some ⟨g5, 0, none⟩) (m + 1) c5] 26)).heap.size := by simp at *; omega) | (at_builtin; refine wpList_append_twoG own6 s6 (.tmp 72) (.tmp 76) 24 Tryd.underlying24 info_turn (by omega) (by unfold maxLen; omega) ⟨rfl, rfl, rfl, rfl, rfl, rfl, rfl⟩ (by simp) ?_; intro v7 w7 hown7 hg7; obtain ⟨A7, k7, hv7, -, -, -⟩ := (Own.of_row hown7).slice; subst hv7; have bR7 := bR6.grown hg7 nR6.out; have bO7 := bO6.grown hg7 nO6.out; have cO7 := bO7.cell; have fO7 := bO7.free))
      have S7 : w4.heap.size ≤ w7.heap.size := Nat.le_trans s6 hg7.size
      have own8 : (w7.setCell ⟨w5.heap.size, 0, none⟩ (.slice A7 (m + 1 + 1) k7)).ownsRow w4.heap.size 77 2 (.slice A7 (m + 1 + 1) k7) (m + 1 + 1) (turnsV (outT l sp tx)) := by rw [HO.out, turnsV_snoc]; exact ownsRow_setCell_other (a := ⟨w5.heap.size, 0, none⟩) hown7 (bO7.ne_own hown7 (by decide)) _
      have bR8 := bR7.setOther (a := ⟨w5.heap.size, 0, none⟩) (by show w5.heap.size ≠ w.heap.size + 1; omega) (.slice A7 (m + 1 + 1) k7)
      have bO8 := bO7.set_ (.slice A7 (m + 1 + 1) k7)
      have B8 := (below_grown ((B4.trans ((a4.trans hb5).mono (by omega))).alloc (by omega) _) hg7 (by omega) own6 rfl (by omega)).setCell (p := ⟨w5.heap.size, 0, none⟩) (by show w.heap.size ≤ w5.heap.size; omega) (.slice A7 (m + 1 + 1) k7)
      have S8 : w4.heap.size ≤ (w7.setCell ⟨w5.heap.size, 0, none⟩ (.slice A7 (m + 1 + 1) k7)).heap.size := by simpa [World.setCell] using S7
      have hvc := spec_IsValidTranscript A7 k7 (outT l sp tx) (w7.setCell ⟨w5.heap.size, 0, none⟩ (.slice A7 (m + 1 + 1) k7)) (by rw [HLN.out]; exact Reads.of_own own8) (by rw [HLN.out]; omega) HSH.out
      rw [HLN.out] at hvc
      by_cases h30 : m + 1 + 1 ≤ 30
      · have HA := Lib.hid (show appB l sp tx = true by simp [appB, HV.out, HTN.out, HLN.out]; try omega)
        have hvo : transB (outT l sp tx) = true := by rw [HVO.out, HLN.out]; exact decide_eq_true h30
        rw [hvo] at hvc
        have HVC := Lib.hid hvc
        clear hvc hvo
        refine HVC.out.mono ?_
        rintro e w9 ⟨rfl, b9⟩
        have bR9 := bR8.far b9
        have cR := bR9.cell
        have fR := bR9.free
        have cO9 := (bO8.far b9).cell
        have own9 := ((Own.of_row own8).below b9).1
        go_wp2
        refine bodyPost_ret (v := .tuple #[.agg #[.slice A7 (m + 1 + 1) k7], .bool true]) (by simp [results, go_sem, cR]) rfl ?_
        exact ⟨_, by rw [HA.out], by rw [resT_yes HA.out, HLN.out]; exact own_store own9 z4 (by omega) _, (B8.trans (b9.mono (by omega))).setCell (by show w.heap.size ≤ w.heap.size + 1; omega) _⟩
      · have HA := Lib.hid (show appB l sp tx = false by simp [appB, HLN.out]; try omega)
        have hvo : transB (outT l sp tx) = false := by rw [HVO.out, HLN.out]; exact decide_eq_false h30
        rw [hvo] at hvc
        have HVC := Lib.hid hvc
        clear hvc hvo
        refine HVC.out.mono ?_
        rintro e w9 ⟨rfl, b9⟩
        have bR9 := bR8.far b9
        have cR := bR9.cell
        have fR := bR9.free
        have cO9 := (bO8.far b9).cell
        go_wp2
        refine bodyPost_ret (v := .tuple #[.agg #[.slice none 0 0], .bool false]) (by simp [results, go_sem, cR]) rfl ?_
        exact ⟨_, by rw [HA.out], by rw [resT_no HA.out]; exact Own.none_, (B8.trans (b9.mono (by omega))).setCell (by show w.heap.size ≤ w.heap.size + 1; omega) _⟩
end Go.Proofs.YtnndkdkmhjpcpaaDoor
