/-
  StrokesPerPiece, the reference's and the program's.
-/
import Derived.Test.YtoimkppjbabgeaaGreatDoorStatPl
import Derived.Test.YtoimkppjbabgeaaGreatDoorSegI
namespace Go.Proofs.YtoimkppjbabgeaaGreatDoor
open Go.RowKit
set_option linter.unusedVariables false
set_option linter.unusedSimpArgs false
set_option maxRecDepth 100000

/-- A text against the empty one, as the walk spells it. -/
theorem text_some {t : ByteArray} (h : ¬ t.size = 0) : (t.toList == (⟨#[]⟩ : ByteArray).toList) = false ∧ (t.toList != (⟨#[]⟩ : ByteArray).toList) = true ∧ t.toList.isEmpty = false ∧ (!t.toList.isEmpty) = true ∧ ¬ t.toList = [] := by
  have h1 : t.toList.isEmpty = false := by
    rw [ByteArray.toList_eq, List.isEmpty_eq_false_iff]
    intro h2
    have : t.size = 0 := by simpa using congrArg List.length h2
    omega
  have h3 : (t.toList == (⟨#[]⟩ : ByteArray).toList) = false := by rw [str_beq]; exact decide_eq_false (fun h2 => h (by rw [h2]; rfl))
  exact ⟨h3, by simp only [bne, h3, Bool.not_false], h1, by simp [h1], by simpa using h1⟩
theorem text_none {t : ByteArray} (h : t.size = 0) : t = ⟨#[]⟩ := by
  obtain ⟨d⟩ := t
  have h1 : d.size = 0 := h
  rw [Array.eq_empty_of_size_eq_zero h1]
def PerRes (l : List EntD) (zs : List Int) (w : World) (e : Ending) (w' : World) : Prop := e = .returned (.tuple #[.int .i64 (perN l zs), .int .i64 (perP l zs), .bool (okD l zs)]) ∧ Below w.heap.size w w'
theorem per_no {l : List EntD} {zs : List Int} {w w' : World} (h : okD l zs = false) (hb : Below w.heap.size w w') : PerRes l zs w (.returned (.tuple #[.int .i64 0, .int .i64 0, .bool false])) w' := ⟨by simp [perN, perP, h], hb⟩
theorem per_yes {l : List EntD} {zs : List Int} {w w' : World} (h : okD l zs = true) (hb : Below w.heap.size w w') : PerRes l zs w (.returned (.tuple #[.int .i64 ((covN (segD l zs) (segD l zs).length : Nat) : Int), .int .i64 ((covP (segD l zs) (segD l zs).length : Nat) : Int), .bool true])) w' := ⟨by simp [perN, perP, h], hb⟩
theorem strokes60 {zs : List Int} (h : strokesB zs = true) : zs.length ≤ 60 := by
  simp only [strokesB, Bool.and_eq_true, decide_eq_true_eq] at h
  exact h.1

set_option maxHeartbeats 2000000 in
theorem spec_StrokesPerPiece (A B : Option Addr) (cap cb : Nat) (l : List EntD) (zs : List Int) (w : World) (hr : DictR w w.heap.size A l) (hn : l.length ≤ 1048576) (hs : ShortD l) (hz : Reads w w.heap.size 1 B zs.length (ints zs)) (hzn : zs.length ≤ 1048576) (hcb : zs.length ≤ cb) (hcm : cb ≤ maxLen) :
    Calls Tryz.prog 11 #[.agg #[.slice A l.length cap], .slice B zs.length cb] w (PerRes l zs w) := by
  obtain ⟨W1, hW1⟩ : ∃ W1, W1 = w.alloc (.cells #[.slice A l.length cap] 26) := ⟨_, rfl⟩
  have hb1 : Below w.heap.size w W1 := by rw [hW1]; exact (Below.refl _ _).alloc (Nat.le_refl _) _
  have bP : Box W1 w.heap.size 26 (.slice A l.length cap) := by rw [hW1]; exact Box.new w _ _
  have HS := Lib.hid hs
  have cP := bP.cell
  clear hs
  cases hv : dictB l
  · have HV := Lib.hid hv
    have HR := Lib.hid (show okD l zs = false by simp [okD, hv])
    clear hv
    go_enter Tryz.func11, Tryz.ntmps11
    go_wp2_with fail
    rw [← hW1]
    clear hW1
    refine (spec_l6Good A cap l _ ((hr.below hb1).more hb1.size) hn HS.out).mono ?_
    rw [HV.out]
    rintro e w3 ⟨rfl, b3⟩
    go_wp2
    go_ret3
    exact per_no HR.out (hb1.trans (b3.mono hb1.size))
  have HV := Lib.hid hv
  cases hst : strokesB zs
  · have HT := Lib.hid hst
    have HR := Lib.hid (show okD l zs = false by simp [okD, hst])
    clear hv hst
    go_enter Tryz.func11, Tryz.ntmps11
    go_wp2_with fail
    rw [← hW1]
    clear hW1
    refine (spec_l6Good A cap l _ ((hr.below hb1).more hb1.size) hn HS.out).mono ?_
    rw [HV.out]
    rintro e w3 ⟨rfl, b3⟩
    have B3 := hb1.trans (b3.mono hb1.size)
    go_wp2_with fail
    refine (spec_l7Strokes B cb zs _ ((hz.below B3).more B3.size) hzn).mono ?_
    rw [HT.out]
    rintro e w4 ⟨rfl, rfl⟩
    go_wp2
    go_ret3
    exact per_no HR.out B3
  have HT := Lib.hid hst
  have HR := Lib.hid (show okD l zs = true by simp [okD, hv, hst])
  have h60 := strokes60 hst
  clear hv hst
  go_enter Tryz.func11, Tryz.ntmps11
  go_wp2_with fail
  rw [← hW1]
  clear hW1
  refine (spec_l6Good A cap l _ ((hr.below hb1).more hb1.size) hn HS.out).mono ?_
  rw [HV.out]
  rintro e w3 ⟨rfl, b3⟩
  have B3 := hb1.trans (b3.mono hb1.size)
  have cP3 := (bP.far b3).cell
  clear cP
  go_wp2_with fail
  refine (spec_l7Strokes B cb zs _ ((hz.below B3).more B3.size) hzn).mono ?_
  rw [HT.out]
  rintro e w4 ⟨rfl, rfl⟩
  go_wp2_with fail
  refine (spec_l11Segment A B cap cb l zs _ ((hr.below B3).more B3.size) HV.out ((hz.below B3).more B3.size) hzn hcb hcm).mono ?_
  rintro e w5 ⟨v5, rfl, o5, b5⟩
  have B5 := B3.trans (b5.mono B3.size)
  have hsl := segD_len l zs
  have HSC := Lib.hid (seg_count (l := l) (zs := zs))
  have hE := Lib.hid (per_yes (w := w) (w' := w5) HR.out B5)
  clear cP3
  generalize hps : segD l zs = ps at *
  clear hps
  obtain ⟨A5, k5, rfl, r5, -, -⟩ := o5.slice
  go_wp2
  go_loop [8, 9, 10] (fun a c i => ∃ k : Nat, k ≤ ps.length ∧ i = .int .i64 k ∧ a = .int .i64 ((covN ps k : Nat) : Int) ∧ c = .int .i64 ((covP ps k : Nat) : Int)) (fun _ _ i => ps.length - (intOf i).toNat)
  case atStart => exact ⟨0, Nat.zero_le _, rfl, rfl, rfl⟩
  case round =>
    obtain ⟨k, hk, rfl, rfl, rfl⟩ := hrel
    have hN := covN_le HSC.out k
    have hP := covP_le ps k
    have hN2 : zs.length * k ≤ 60 * 60 := Nat.mul_le_mul h60 (by omega)
    by_cases hlt : k < ps.length
    · obtain ⟨⟨f, n, t⟩, hp⟩ := some_at ps hlt
      obtain ⟨b, off, rfl, hb0, hc⟩ := r5.2 (by omega)
      have hn60 := HSC.out _ (List.mem_of_getElem? hp)
      have q1 := hc (k * 3 + 1) _ (piecesV_at hp).2.1
      have q2 := hc (k * 3 + 2) _ (piecesV_at hp).2.2
      rw [← Nat.add_assoc] at q1 q2
      have HP := Lib.hid hp
      simp only at hn60 q1 q2
      have i0 : (0 : Int) ≤ (k : Int) := by omega
      have i1 : (k : Int) < (ps.length : Int) := by omega
      clear hp hc
      by_cases ht : t.size = 0
      · obtain rfl := text_none ht
        have H1 := Lib.hid (covN_no HP.out ht)
        have H2 := Lib.hid (covP_no HP.out ht)
        clear ht
        go_wp2
        go_round
        case rel => exact ⟨k + 1, by omega, by go_num, by rw [H1.out], by rw [H2.out]⟩
        case measure => simp [intOf]; omega
      · have H1 := Lib.hid (covN_yes HP.out ht)
        have H2 := Lib.hid (covP_yes HP.out ht)
        obtain ⟨e1, e2, e3, e4, e5⟩ := text_some ht
        clear ht
        go_wp2
        go_round
        case rel => exact ⟨k + 1, by omega, by go_num, by rw [H1.out]; go_num, by rw [H2.out]; go_num⟩
        case measure => simp [intOf]; omega
    · obtain rfl : k = ps.length := by omega
      go_wp2
      go_ret3
      exact hE.out

set_option maxHeartbeats 2000000 in
theorem impl_StrokesPerPiece (A B : Option Addr) (cap cb : Nat) (l : List EntD) (zs : List Int) (w : World) (hr : DictR w w.heap.size A l) (hn : l.length ≤ 1048576) (hs : ShortD l) (hmx : MaxOk w) (hz : Reads w w.heap.size 1 B zs.length (ints zs)) (hzn : zs.length ≤ 1048576) (hcb : zs.length ≤ cb) (hcm : cb ≤ maxLen) :
    Calls Tryz.prog 10 #[.agg #[.slice A l.length cap], .slice B zs.length cb] w (PerRes l zs w) := by
  obtain ⟨W1, hW1⟩ : ∃ W1, W1 = w.alloc (.cells #[.slice A l.length cap] 26) := ⟨_, rfl⟩
  have hb1 : Below w.heap.size w W1 := by rw [hW1]; exact (Below.refl _ _).alloc (Nat.le_refl _) _
  have bP : Box W1 w.heap.size 26 (.slice A l.length cap) := by rw [hW1]; exact Box.new w _ _
  have HM := Lib.hid (impl_isMatched A B cap cb l zs W1 ((hr.below hb1).more hb1.size) hn hs (hmx.below hb1) ((hz.below hb1).more hb1.size) hzn)
  have cP := bP.cell
  clear hs hmx
  cases hm : (dictB l && strokesB zs)
  · have HR := Lib.hid hm
    clear hm
    go_enter Tryz.func10, Tryz.ntmps10
    go_wp2_with fail
    rw [← hW1]
    clear hW1
    refine HM.out.mono ?_
    rw [HR.out]
    rintro e w3 ⟨rfl, b3⟩
    go_wp2
    go_ret3
    exact per_no HR.out (hb1.trans (b3.mono hb1.size))
  have HR := Lib.hid hm
  rw [Bool.and_eq_true] at hm
  have HV := Lib.hid hm.1
  have h60 := strokes60 hm.2
  clear hm
  go_enter Tryz.func10, Tryz.ntmps10
  go_wp2_with fail
  rw [← hW1]
  clear hW1
  refine HM.out.mono ?_
  rw [HR.out]
  rintro e w3 ⟨rfl, b3⟩
  have B3 := hb1.trans (b3.mono hb1.size)
  have cP3 := (bP.far b3).cell
  clear cP
  go_wp2_with fail
  refine (impl_segment A B cap cb l zs _ ((hr.below B3).more B3.size) HV.out ((hz.below B3).more B3.size) hzn hcb hcm).mono ?_
  rintro e w5 ⟨v5, rfl, o5, b5⟩
  have B5 := B3.trans (b5.mono B3.size)
  have hsl := segD_len l zs
  have HSC := Lib.hid (seg_count (l := l) (zs := zs))
  have hE := Lib.hid (fun w' => per_yes (w := w) (w' := w') HR.out)
  clear cP3
  generalize hps : segD l zs = ps at *
  clear hps
  obtain ⟨A5, k5, rfl, r5, -, -⟩ := o5.slice
  go_wp2
  go_loopw [7, 8, 19] (fun a c i wr => ∃ k : Nat, k ≤ ps.length ∧ i = .int .i64 k ∧ a = .int .i64 ((covN ps k : Nat) : Int) ∧ c = .int .i64 ((covP ps k : Nat) : Int) ∧ Below w5.heap.size w5 wr) (fun _ _ i _ => ps.length - (intOf i).toNat)
  case atStart => exact ⟨0, Nat.zero_le _, rfl, rfl, rfl, Below.refl _ _⟩
  case round =>
    obtain ⟨k, hk, rfl, rfl, rfl, hb⟩ := hrel
    have hN := covN_le HSC.out k
    have hP := covP_le ps k
    have hN2 : zs.length * k ≤ 60 * 60 := Nat.mul_le_mul h60 (by omega)
    by_cases hlt : k < ps.length
    · obtain ⟨⟨f, n, t⟩, hp⟩ := some_at ps hlt
      obtain ⟨b, off, rfl, hb0, hc⟩ := (r5.below hb).2 (by omega)
      have hn60 := HSC.out _ (List.mem_of_getElem? hp)
      have q0 := hc (k * 3) _ (piecesV_at hp).1
      have q1 := hc (k * 3 + 1) _ (piecesV_at hp).2.1
      have q2 := hc (k * 3 + 2) _ (piecesV_at hp).2.2
      rw [← Nat.add_assoc] at q1 q2
      have HP := Lib.hid hp
      simp only at hn60 q0 q1 q2
      have i0 : (0 : Int) ≤ (k : Int) := by omega
      have i1 : (k : Int) < (ps.length : Int) := by omega
      have bb := hb.alloc hb.size (.cells #[.int .i64 (f : Int), .int .i64 (n : Int), .string t] 58)
      clear hp hc
      by_cases ht : t.size = 0
      · obtain rfl := text_none ht
        have H1 := Lib.hid (covN_no HP.out ht)
        have H2 := Lib.hid (covP_no HP.out ht)
        clear ht
        go_wp2
        go_roundw
        case rel => exact ⟨k + 1, by omega, by go_num, by rw [H1.out], by rw [H2.out], bb⟩
        case measure => simp [intOf]; omega
      · have H1 := Lib.hid (covN_yes HP.out ht)
        have H2 := Lib.hid (covP_yes HP.out ht)
        obtain ⟨e1, e2, e3, e4, e5⟩ := text_some ht
        clear ht
        go_wp2
        go_roundw
        case rel => exact ⟨k + 1, by omega, by go_num, by rw [H1.out]; go_num, by rw [H2.out]; go_num, bb⟩
        case measure => simp [intOf]; omega
    · obtain rfl : k = ps.length := by omega
      go_wp2
      go_ret3
      exact hE.out _ (B5.trans (hb.mono B5.size))
end Go.Proofs.YtoimkppjbabgeaaGreatDoor
