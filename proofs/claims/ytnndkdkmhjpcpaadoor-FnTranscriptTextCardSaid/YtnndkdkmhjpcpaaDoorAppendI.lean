/-
  The program's AppendTurn.
-/
import Derived.Test.YtnndkdkmhjpcpaaDoorAppend
namespace Go.Proofs.YtnndkdkmhjpcpaaDoor
open Go.RowKit
set_option linter.unusedVariables false
set_option maxRecDepth 100000

theorem own_store {w' : World} {base lo R n size : Nat} {e : TypeId} {v : Value} {xs : List Value} (h : w'.ownsRow base e size v n xs) (hR : R < base) (hlo : lo ≤ base) (u : Value) :
    Own (w'.setCell ⟨R, 0, none⟩ u) lo (w'.setCell ⟨R, 0, none⟩ u).heap.size e size v n xs :=
  Own.of_row ((ownsRow_setCell_other h (fun he => by have h1 : base ≤ R := (h.lt _ he).1; omega) u).base hlo)
theorem behind_size (a b : ByteArray) : (behind a b).size = a.size + 1 + b.size := by simp [behind, ByteArray.size_append]; rfl
theorem behind_eq (a b : ByteArray) : a ++ (⟨#[32]⟩ ++ b) = behind a b := by simp [behind, ByteArray.append_assoc]

theorem turnsV_set2 {l : List TurnD} {m : Nat} {s t : ByteArray} (h : l[m]? = some (s, t)) (u : ByteArray) : (turnsV l).set (m * 2 + 1) (.string u) = turnsV (l.set m (s, u)) := by
  have hm : m < l.length := (List.getElem?_eq_some_iff.1 h).1
  rw [← turnsV_set hm (s, u)]
  congr 1
  have h1 := (turnsV_at h).1
  obtain ⟨h2, h3⟩ := List.getElem?_eq_some_iff.1 h1
  simp only at h3
  conv => lhs; rw [← List.set_getElem_self h2]
  rw [h3]

set_option maxHeartbeats 8000000 in
theorem impl_AppendTurn (A : Option Addr) (cap n : Nat) (l : List TurnD) (sp tx : ByteArray) (w : World) (hnl : n = l.length) (hr : Reads w w.heap.size 2 A n (turnsV l)) (hn : n ≤ 1048576) (ht : ShortT l) (hs1 : sp.size ≤ 1048576) (hs2 : tx.size ≤ 1048576) (hm : MaxOk w) :
    Calls Tryd.prog 9 #[.agg #[.slice A n cap], .string sp, .string tx] w (AppRes l sp tx w) := by
  have HT := Lib.hid ht
  have HNL := Lib.hid hnl
  clear ht hnl
  obtain ⟨W2, hW2⟩ : ∃ W2, W2 = (w.alloc (.cells #[.slice A n cap] 26)).alloc (.cells #[.slice none 0 0] 26) := ⟨_, rfl⟩
  have hb2 : Below w.heap.size w W2 := by rw [hW2]; exact ((Below.refl _ _).alloc (Nat.le_refl _) _).alloc (by simp) _
  have hz2 : W2.heap.size = w.heap.size + 2 := by rw [hW2]; simp
  have bP : Box W2 w.heap.size 26 (.slice A n cap) := by rw [hW2]; exact (Box.new w _ _).alloc _
  have bR : Box W2 (w.heap.size + 1) 26 (.slice none 0 0) := by
    rw [hW2]
    have h := Box.new (w.alloc (.cells #[.slice A n cap] 26)) 26 (.slice none 0 0)
    rwa [show (w.alloc (.cells #[.slice A n cap] 26)).heap.size = w.heap.size + 1 by simp] at h
  have HZ2 := Lib.hid hz2
  have HM := Lib.hid (hm.below hb2)
  have rl : Reads W2 W2.heap.size 2 A l.length (turnsV l) := by rw [← HNL.out]; exact (hr.below hb2).more hb2.size
  have hcl := impl_IsValidTranscript A cap l W2 rl (by rw [← HNL.out]; omega) HT.out HM.out
  rw [← HNL.out] at hcl
  have HCL := Lib.hid hcl
  clear hz2 hm hcl
  cases hv : transB l
  · have HA := Lib.hid (show appB l sp tx = false by simp [appB, hv])
    go_enter Tryd.func9, Tryd.ntmps9
    go_wp2_with fail
    rw [← hW2]
    clear hW2
    refine HCL.out.mono ?_
    rw [hv]
    rintro e w3 ⟨rfl, b3⟩
    have bR3 := bR.far b3
    have cR := bR3.cell
    have fR := bR3.free
    go_wp2
    refine bodyPost_ret (v := .tuple #[.agg #[.slice none 0 0], .bool false]) (by simp [results, go_sem, cR]) rfl ?_
    exact ⟨_, by rw [HA.out], by rw [resT_no HA.out]; exact Own.none_, (hb2.trans (b3.mono hb2.size)).setCell (by show w.heap.size ≤ w.heap.size + 1; omega) _⟩
  have HV := Lib.hid hv
  cases htn : turnB (sp, tx)
  · have HA := Lib.hid (show appB l sp tx = false by simp [appB, htn])
    go_enter Tryd.func9, Tryd.ntmps9
    go_wp2_with fail
    rw [← hW2]
    clear hW2
    refine HCL.out.mono ?_
    rw [hv]
    clear hv
    rintro e w3 ⟨rfl, b3⟩
    go_wp2_with fail
    refine (impl_isTurn (sp, tx) _ (by show sp.size ≤ _; omega) (by show tx.size ≤ _; omega) (HM.out.below b3)).mono ?_
    rw [htn]
    rintro e w4 ⟨rfl, b4⟩
    have b34 := b3.trans (b4.mono b3.size)
    have bR3 := bR.far b34
    have cR := bR3.cell
    have fR := bR3.free
    go_wp2
    refine bodyPost_ret (v := .tuple #[.agg #[.slice none 0 0], .bool false]) (by simp [results, go_sem, cR]) rfl ?_
    exact ⟨_, by rw [HA.out], by rw [resT_no HA.out]; exact Own.none_, (hb2.trans (b34.mono hb2.size)).setCell (by show w.heap.size ≤ w.heap.size + 1; omega) _⟩
  have HTN := Lib.hid htn
  have hsz0 : ∀ (k : Nat) (c : TurnD), l[k]? = some c → c.1.size ≤ 12 ∧ c.2.size ≤ 2000 := fun k c h => turn_sizes HV.out h
  have h30 := trans_len HV.out
  have hn30 : n ≤ 30 := by rw [HNL.out]; exact h30
  have HSZ := Lib.hid hsz0
  go_enter Tryd.func9, Tryd.ntmps9
  go_wp2_with fail
  rw [← hW2]
  clear hW2
  refine HCL.out.mono ?_
  rw [hv]
  clear hv hsz0 h30
  rintro e w3 ⟨rfl, b3⟩
  go_wp2_with fail
  refine (impl_isTurn (sp, tx) _ (by show sp.size ≤ _; omega) (by show tx.size ≤ _; omega) (HM.out.below b3)).mono ?_
  rw [htn]
  clear htn
  rintro e w4 ⟨rfl, b4⟩
  have b34 := b3.trans (b4.mono b3.size)
  have bR4 := bR.far b34
  have bP4 := bP.far b34
  have cP4 := bP4.cell
  have m4 := Lib.hid (HM.out.below b34)
  have B4 := hb2.trans (b34.mono hb2.size)
  have z4 : w.heap.size + 1 < w4.heap.size := bR4.lt
  clear bR bP
  have hcc := copyOf_turn A cap l w4 (by rw [← HNL.out]; exact (hr.below B4).more B4.size) (by rw [← HNL.out]; omega)
  rw [← HNL.out] at hcc
  have HCC := Lib.hid hcc
  clear hcc
  go_wp2_with fail
  refine HCC.out.mono ?_
  rintro e w5 ⟨v5, rfl, o5, b5⟩
  rw [← HNL.out] at o5
  obtain ⟨A5, c5, rfl, r5, -, -⟩ := o5.slice
  have bR5 := bR4.far b5
  have B5 := B4.trans (b5.mono B4.size)
  have m5 := Lib.hid (m4.out.below b5)
  have s5 := b5.size
  clear bR4 bP4 cP4
  rcases n with _ | m
  · have HO := Lib.hid (show outT l sp tx = l ++ [(sp, tx)] by rw [List.eq_nil_of_length_eq_zero HNL.out.symm]; rfl)
    have hln : (outT l sp tx).length = 0 + 1 := by simp [HO.out, ← HNL.out]
    by_cases h30 : 0 + 1 ≤ 30
    · have HA := Lib.hid (show appB l sp tx = true by simp [appB, HV.out, HTN.out, hln]; try omega)
      have HLN := Lib.hid hln
      clear hln
      go_wp2_with (at_builtin; refine wpList_append_two o5.1 s5 (.tmp 59) (.tmp 63) 24 Tryd.underlying24 info_turn (by omega) (by unfold maxLen; omega) ⟨rfl, rfl, rfl, rfl, rfl, rfl, rfl⟩ (by simp) ?_; intro v7 w7 hown7 hb7 _; obtain ⟨A7, k7, hv7, -, -, -⟩ := (Own.of_row hown7).slice; subst hv7; have bR7 := bR5.below hb7 z4; have cR := bR7.cell; have fR := bR7.free)
      refine bodyPost_ret (v := .tuple #[.agg #[.slice A7 (0 + 1) k7], .bool true]) (by simp [results, go_sem, cR]) rfl ?_
      exact ⟨_, by rw [HA.out], by rw [resT_yes HA.out, HLN.out, HO.out, turnsV_snoc]; exact own_store hown7 z4 (by omega) _, (B5.trans (hb7.mono (by omega))).setCell (by show w.heap.size ≤ w.heap.size + 1; omega) _⟩
    · exact absurd h30 (by omega)
  · obtain ⟨c, hc, hg⟩ := last_at HNL.out.symm
    obtain ⟨cs, ct⟩ := c
    obtain ⟨g5, c5', hv5, hg51, hg52, hg53, -, -, -, hf5⟩ := o5.open_ (by omega)
    simp only [Value.slice.injEq, true_and] at hv5
    obtain ⟨rfl, rfl⟩ := hv5
    obtain ⟨e1, e2⟩ := o5.turn hc
    simp only at e1 e2
    have hcz := HSZ.out _ _ hc
    simp only at hcz
    obtain ⟨hz1, hz2⟩ := hcz
    have HG := Lib.hid hg
    have HC := Lib.hid hc
    have HF := Lib.hid hf5
    have i0 : (0 : Int) ≤ (m : Int) := by omega
    have i1 : (m : Int) < (m : Int) + 1 := by omega
    clear hc hg hf5
    by_cases hsp : cs = sp
    · subst hsp
      have y1 : ¬ (9223372036854775807 < ct.size + 1) := by omega
      have y2 : ¬ (9223372036854775806 < ct.size) := by omega
      have y3 : ¬ (9223372036854775807 < ct.size + 1 + tx.size) := by omega
      have y4 : ¬ (9223372036854775807 < 1 + tx.size) := by omega
      have y5 : ¬ (9223372036854775807 < ct.size + (1 + tx.size)) := by omega
      cases htt : textB (behind ct tx)
      · have HO := Lib.hid (outT_other (sp := cs) (tx := tx) HG.out (fun h => by rw [h.2] at htt; cases htt))
        go_wp2_with fail
        refine (impl_isTurnText (behind ct tx) _ (by rw [behind_size]; omega) m5.out).mono ?_
        rw [htt]
        clear htt
        rintro e w6 ⟨rfl, b6⟩
        have o6 := o5.below b6
        have bR6 := bR5.far b6
        have B6 := B5.trans (b6.mono B5.size)
        have s6 : w4.heap.size ≤ w6.heap.size := Nat.le_trans s5 b6.size
        clear y1 y2 y3 y4 y5
        have hln : (outT l cs tx).length = m + 1 + 1 := by simp [HO.out, ← HNL.out]
        by_cases h30 : m + 1 + 1 ≤ 30
        · have HA := Lib.hid (show appB l cs tx = true by simp [appB, HV.out, HTN.out, hln]; try omega)
          have HLN := Lib.hid hln
          have hi1 : ¬ (30 : Int) < (m : Int) + 1 + 1 := by omega
          clear hln
          go_wp2_with (at_builtin; refine wpList_append_two o6.1 s6 (.tmp 59) (.tmp 63) 24 Tryd.underlying24 info_turn (by omega) (by unfold maxLen; omega) ⟨rfl, rfl, rfl, rfl, rfl, rfl, rfl⟩ (by simp) ?_; intro v7 w7 hown7 hb7 _; obtain ⟨A7, k7, hv7, -, -, -⟩ := (Own.of_row hown7).slice; subst hv7; have bR7 := bR6.below hb7 z4; have cR := bR7.cell; have fR := bR7.free)
          refine bodyPost_ret (v := .tuple #[.agg #[.slice A7 (m + 1 + 1) k7], .bool true]) (by simp [results, go_sem, cR]) rfl ?_
          exact ⟨_, by rw [HA.out], by rw [resT_yes HA.out, HLN.out, HO.out, turnsV_snoc]; exact own_store hown7 z4 (by omega) _, (B6.trans (hb7.mono (by omega))).setCell (by show w.heap.size ≤ w.heap.size + 1; omega) _⟩
        · have HA := Lib.hid (show appB l cs tx = false by simp [appB, hln]; try omega)
          have hi1 : (30 : Int) < (m : Int) + 1 + 1 := by omega
          clear hln
          go_wp2_with (at_builtin; refine wpList_append_two o6.1 s6 (.tmp 59) (.tmp 63) 24 Tryd.underlying24 info_turn (by omega) (by unfold maxLen; omega) ⟨rfl, rfl, rfl, rfl, rfl, rfl, rfl⟩ (by simp) ?_; intro v7 w7 hown7 hb7 _; obtain ⟨A7, k7, hv7, -, -, -⟩ := (Own.of_row hown7).slice; subst hv7; have bR7 := bR6.below hb7 z4; have cR := bR7.cell; have fR := bR7.free)
          refine bodyPost_ret (v := .tuple #[.agg #[.slice none 0 0], .bool false]) (by simp [results, go_sem, cR]) rfl ?_
          exact ⟨_, by rw [HA.out], by rw [resT_no HA.out]; exact Own.none_, (B6.trans (hb7.mono (by omega))).setCell (by show w.heap.size ≤ w.heap.size + 1; omega) _⟩
      · have HO := Lib.hid (outT_merge (sp := cs) (tx := tx) HNL.out.symm HG.out rfl htt)
        have hln : (outT l cs tx).length = m + 1 := by rw [HO.out, List.length_set]; exact HNL.out.symm
        have HA := Lib.hid (show appB l cs tx = true by simp [appB, HV.out, HTN.out, hln]; try omega)
        have HLN := Lib.hid hln
        clear hln
        go_wp2_with fail
        refine (impl_isTurnText (behind ct tx) _ (by rw [behind_size]; omega) m5.out).mono ?_
        rw [htt]
        clear htt
        rintro e w6 ⟨rfl, b6⟩
        have o6 := o5.below b6
        have bR6 := bR5.far b6
        have B6 := B5.trans (b6.mono B5.size)
        have s6 : w4.heap.size ≤ w6.heap.size := Nat.le_trans s5 b6.size
        obtain ⟨f1, f2⟩ := o6.turn HC.out
        simp only at f1 f2
        have fz : w6.frozen? ⟨g5, m * 2 + 1, none⟩ = false := o6.1.frozenAt _
        have bR7 := bR6.setOther (a := ⟨g5, m * 2 + 1, none⟩) (by show g5 ≠ w.heap.size + 1; omega) (.string (ct ++ (⟨#[32]⟩ ++ tx)))
        have cR := bR7.cell
        have fR := bR7.free
        have o7 := o6.set_ (m * 2 + 1) (.string (ct ++ (⟨#[32]⟩ ++ tx)))
        rw [turnsV_set2 HC.out, behind_eq] at o7
        have hi1 : ¬ (30 : Int) < (m : Int) + 1 := by omega
        clear e1 e2
        go_wp2
        refine bodyPost_ret (v := .tuple #[.agg #[.slice (some ⟨g5, 0, none⟩) (m + 1) c5], .bool true]) (by simp [results, go_sem, cR]) rfl ?_
        exact ⟨_, by rw [HA.out], by rw [resT_yes HA.out, HLN.out, HO.out]; rw [behind_eq]; exact own_store o7.1 z4 (by omega) _, ((B6.setCell (by show w.heap.size ≤ g5; omega) _).setCell (by show w.heap.size ≤ w.heap.size + 1; omega) _)⟩
    · have he : (cs.toList == sp.toList) = false := by rw [str_beq]; exact decide_eq_false hsp
      have HO := Lib.hid (outT_other (sp := sp) (tx := tx) HG.out (fun h => hsp h.1))
      clear hsp
      have hln : (outT l sp tx).length = m + 1 + 1 := by simp [HO.out, ← HNL.out]
      by_cases h30 : m + 1 + 1 ≤ 30
      · have HA := Lib.hid (show appB l sp tx = true by simp [appB, HV.out, HTN.out, hln]; try omega)
        have HLN := Lib.hid hln
        have hi1 : ¬ (30 : Int) < (m : Int) + 1 + 1 := by omega
        clear hln
        go_wp2_with (at_builtin; refine wpList_append_two o5.1 s5 (.tmp 59) (.tmp 63) 24 Tryd.underlying24 info_turn (by omega) (by unfold maxLen; omega) ⟨rfl, rfl, rfl, rfl, rfl, rfl, rfl⟩ (by simp) ?_; intro v7 w7 hown7 hb7 _; obtain ⟨A7, k7, hv7, -, -, -⟩ := (Own.of_row hown7).slice; subst hv7; have bR7 := bR5.below hb7 z4; have cR := bR7.cell; have fR := bR7.free)
        refine bodyPost_ret (v := .tuple #[.agg #[.slice A7 (m + 1 + 1) k7], .bool true]) (by simp [results, go_sem, cR]) rfl ?_
        exact ⟨_, by rw [HA.out], by rw [resT_yes HA.out, HLN.out, HO.out, turnsV_snoc]; exact own_store hown7 z4 (by omega) _, (B5.trans (hb7.mono (by omega))).setCell (by show w.heap.size ≤ w.heap.size + 1; omega) _⟩
      · have HA := Lib.hid (show appB l sp tx = false by simp [appB, hln]; try omega)
        have hi1 : (30 : Int) < (m : Int) + 1 + 1 := by omega
        clear hln
        go_wp2_with (at_builtin; refine wpList_append_two o5.1 s5 (.tmp 59) (.tmp 63) 24 Tryd.underlying24 info_turn (by omega) (by unfold maxLen; omega) ⟨rfl, rfl, rfl, rfl, rfl, rfl, rfl⟩ (by simp) ?_; intro v7 w7 hown7 hb7 _; obtain ⟨A7, k7, hv7, -, -, -⟩ := (Own.of_row hown7).slice; subst hv7; have bR7 := bR5.below hb7 z4; have cR := bR7.cell; have fR := bR7.free)
        refine bodyPost_ret (v := .tuple #[.agg #[.slice none 0 0], .bool false]) (by simp [results, go_sem, cR]) rfl ?_
        exact ⟨_, by rw [HA.out], by rw [resT_no HA.out]; exact Own.none_, (B5.trans (hb7.mono (by omega))).setCell (by show w.heap.size ≤ w.heap.size + 1; omega) _⟩
end Go.Proofs.YtnndkdkmhjpcpaaDoor
