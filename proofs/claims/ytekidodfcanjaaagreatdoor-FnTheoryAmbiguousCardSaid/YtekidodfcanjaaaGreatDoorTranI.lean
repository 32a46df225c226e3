/-
  The program's translations: parsing; outlines and entries.
-/
import Derived.Test.YtekidodfcanjaaaGreatDoorAtomJ
import Derived.Test.YtekidodfcanjaaaGreatDoorStrokes
namespace Go.Proofs.YtekidodfcanjaaaGreatDoor
open Go.RowKit
set_option linter.unusedVariables false
set_option maxRecDepth 100000

set_option maxHeartbeats 4000000 in
theorem impl_ParseTranslation (s : ByteArray) (w : World) (hs : s.size ≤ 1048576) (hmx : MaxOk w) : Calls Tryz.prog 111 #[.string s] w (TranRes s w) := by
  by_cases h60 : s.size ≤ 60
  case neg =>
    have HN := Lib.hid (show tranB s = false by simp [tranB, h60])
    have i1 : (60 : Int) < (s.size : Int) := by omega
    go_enter Tryz.func111, Tryz.ntmps111
    go_wp2
    go_ret2
    exact tran_end HN.out.symm (Below.refl _ _)
  have hb0 : Below w.heap.size w (w.alloc (.cells #[] 129)) := (Below.refl _ _).alloc (Nat.le_refl _) _
  have own0 : (w.alloc (.cells #[] 129)).ownsRow w.heap.size 129 2 (.slice (some ⟨w.heap.size, 0, none⟩) 0 0) 0 (flat2 (atomsP [])) := World.ownsRow_made _ _ _ (Nat.le_refl _) (by simp) rfl
  go_enter Tryz.func111, Tryz.ntmps111
  go_wp2_with fail
  generalize hX : w.alloc (.cells #[] 129) = x0 at *
  have HX0 := Lib.hid (show x0.heap.size = w.heap.size + 1 by rw [← hX]; simp)
  clear hX
  refine (impl_Split s 32 _ (by omega) (hmx.below hb0)).mono ?_
  rintro e w1 ⟨v, rfl, op, b1⟩
  have htot := parts_total 32 s
  have hpl : (partsV 32 s).length ≤ 61 := by omega
  have hp1 : 1 ≤ (partsV 32 s).length := by rw [← countB_parts]; omega
  have HTOT := Lib.hid htot
  have HTY := Lib.hid (fun h => tran_yes (s := s) h60 h)
  have HTN := Lib.hid (fun (k : Nat) x h hx => tran_no (s := s) (k := k) (x := x) h hx)
  have HSZ := Lib.hid (show ∀ x ∈ partsV 32 s, x.size ≤ 61 from fun x hx => by
    have : x.size ≤ ((partsV 32 s).map ByteArray.size).sum := le_sum_mem (List.mem_map.2 ⟨x, hx, rfl⟩)
    omega)
  have B1 := hb0.trans (b1.mono hb0.size)
  have own1 := row_below own0 b1
  obtain ⟨g, c, hv, -, -, -, hc1, hc2, -, -⟩ := op.open_ hp1
  subst hv
  have rp := op.1
  obtain ⟨lo, hlo⟩ : ∃ lo, lo = x0.heap.size := ⟨_, rfl⟩
  rw [← hlo] at rp
  generalize partsV 32 s = ps at *
  clear htot own0 op hlo
  have hz1 : w.heap.size ≤ w1.heap.size := B1.size
  go_wp2
  go_loopw [4, 16] (fun v i wr => ∃ (k : Nat) (ls : List AtomD), k ≤ ps.length ∧ i = .int .i64 k ∧ ls.length = k ∧ wr.ownsRow w.heap.size 129 2 v ls.length (flat2 (atomsP ls)) ∧ Atoms ps ls ∧ (∀ j x, j < k → ps[j]? = some x → atomB x = true) ∧ wr.ownsRow lo 9 1 (.slice (some ⟨g, 0, none⟩) ps.length c) ps.length (strsV ps) ∧ Below w.heap.size w wr) (fun _ i _ => ps.length - (intOf i).toNat)
  case atStart => exact ⟨0, [], Nat.zero_le _, rfl, rfl, own1, fun j a x h => by simp at h, fun j x h => absurd h (Nat.not_lt_zero _), rp, B1⟩
  case round =>
    obtain ⟨k, ls, hk, rfl, hll, hown, hat, hall, hrp, hb⟩ := hrel
    have HAT := Lib.hid hat
    have HALL := Lib.hid hall
    have HLL := Lib.hid hll
    have hlk : ls.length ≤ 61 := by omega
    clear hat hall hll
    by_cases hlt : k < ps.length
    · obtain ⟨x, hx⟩ := some_at ps hlt
      have cx : wr.cell? ⟨g, k, none⟩ = some (.string x) := (hrp.cellAt k (by omega)).trans (strsV_at hx)
      have hxz := HSZ.out x (List.mem_of_getElem? hx)
      have HX := Lib.hid hx
      clear hx
      go_wp2_with fail
      refine (impl_ParseAtom x _ (by omega)).mono ?_
      rintro e w2 ⟨q, t, rfl, hq, b2⟩
      have HQ := Lib.hid hq
      clear hq
      have B2 := hb.trans (b2.mono hb.size)
      have own2 := row_below hown b2
      have rp2 := row_below hrp b2
      cases hb' : atomB x
      · have HN := Lib.hid (HTN.out k x HX.out hb')
        clear hb'
        go_wp2
        go_ret2
        exact tran_end HN.out.symm (B2.alloc B2.size _)
      · have HB := Lib.hid hb'
        clear hb'
        have own3 := own2.alloc (.cells #[.int .i64 q, .string t] 129)
        have B3 := B2.alloc B2.size (.cells #[.int .i64 q, .string t] 129)
        have rp3 := rp2.alloc (.cells #[.int .i64 q, .string t] 129)
        have c0 := (Two.new w2 129 (.int .i64 q) (.string t)).cell0
        have c1 := (Two.new w2 129 (.int .i64 q) (.string t)).cell1
        have hz4 := B3.size
        have HAP := Lib.hid (rows_apart rp3 own3 (by decide) g rfl)
        clear own2 rp2 hown hrp cx
        generalize hX : w2.alloc (.cells #[.int .i64 q, .string t] 129) = x3 at *
        go_wp2_with (at_builtin; refine wpList_append_twoG own3 hz4 (.tmp 27) (.tmp 29) 114 Tryz.underlying114 info_atom (by omega) (by unfold maxLen; omega) ⟨rfl, rfl, rfl, rfl, rfl, rfl, rfl⟩ rfl ?_; intro v4 w4 hown4 hg4)
        have hlen : ls.length = k := HLL.out
        go_roundw
        case rel =>
          refine ⟨k + 1, ls ++ [(q, t)], by omega, by go_num, by simp [hlen], by rw [List.length_append, atomsP_snoc, flat2_snoc]; exact hown4, fun j a y ha hy => ?_, fun j y hj hy => ?_, rp3.kept hg4 (.inr (fun h => HAP.out h.symm)), below_grown B3 hg4 hz4 own3 rfl (Nat.le_refl _)⟩
          · rcases Nat.lt_or_ge j ls.length with h | h
            · rw [List.getElem?_append_left h] at ha
              exact HAT.out j a y ha hy
            · rw [List.getElem?_append_right h] at ha
              have hj : j = ls.length := by
                have := (List.getElem?_eq_some_iff.1 ha).1
                simp at this
                omega
              subst hj
              simp at ha
              subst ha
              rw [hlen, HX.out] at hy
              rw [← Option.some.inj hy]
              exact HQ.out HB.out
          · rcases Nat.lt_or_ge j k with h | h
            · exact HALL.out j y h hy
            · obtain rfl : j = k := by omega
              rw [HX.out] at hy
              rw [← Option.some.inj hy]
              exact HB.out
        case measure => simp [intOf]; omega
    · obtain rfl : k = ps.length := by omega
      obtain ⟨A', c', rfl, ra, -, -⟩ := (Own.of_row hown).slice
      have HE := Lib.hid (HTY.out fun j x hj => HALL.out j x (List.getElem?_eq_some_iff.1 hj).1 hj)
      have HL := Lib.hid HLL.out
      by_cases h10 : ls.length ≤ 10
      · have HV := Lib.hid (show true = tranB s by rw [HE.out]; have := HL.out; exact (decide_eq_true (by omega)).symm)
        have i1 : ¬ (10 : Int) < (ls.length : Int) := by omega
        go_wp2
        go_ret2
        exact tran_end HV.out hb
      · have HV := Lib.hid (show false = tranB s by rw [HE.out]; have := HL.out; exact (decide_eq_false (by omega)).symm)
        have i1 : (10 : Int) < (ls.length : Int) := by omega
        go_wp2
        go_ret2
        exact tran_end HV.out hb
theorem impl_isTranslation (s : ByteArray) (w : World) (hs : s.size ≤ 1048576) (hmx : MaxOk w) : Calls Tryz.prog 92 #[.string s] w fun e w' => e = .returned (.bool (tranB s)) ∧ Below w.heap.size w w' := by
  go_enter Tryz.func92, Tryz.ntmps92
  go_wp2_with fail
  refine (impl_ParseTranslation s _ hs hmx).mono ?_
  rintro e w1 ⟨v, rfl, b1⟩
  go_wp2
  go_ret
  exact ⟨rfl, b1⟩
theorem impl_IsValidOutline (A : Option Addr) (cap : Nat) (zs : List Int) (w : World) (hr : Reads w w.heap.size 1 A zs.length (ints zs)) (hn : zs.length ≤ 1048576) :
    Calls Tryz.prog 91 #[.slice A zs.length cap] w fun e w' => e = .returned (.bool (outB zs)) ∧ Below w.heap.size w w' := by
  have hc := all_int 110 (fun s => inB s 1 8388607) A cap zs w hr hn (fun args W => run_enter Tryz.func110 (by kernel_rfl) rfl args W) impl_IsValidStroke
  have HC := Lib.hid hc
  clear hc
  cases hi : inB (zs.length : Int) 1 6
  · have HI := Lib.hid hi
    have HN := Lib.hid (show outB zs = false by simp [outB, hi])
    clear hi
    go_enter Tryz.func91, Tryz.ntmps91
    go_wp2_with (go_at_call 96; refine (impl_in _ _ _ _).mono ?_; rw [HI.out]; rintro e w' ⟨rfl, rfl⟩)
    go_ret
    exact ⟨ret_bool HN.out.symm, Below.refl _ _⟩
  · have HI := Lib.hid hi
    have HN := Lib.hid (show zs.all (fun s => inB s 1 8388607) = outB zs by simp [outB, hi, goodB])
    clear hi
    go_enter Tryz.func91, Tryz.ntmps91
    go_wp2_with (go_at_call 96; refine (impl_in _ _ _ _).mono ?_; rw [HI.out]; rintro e w' ⟨rfl, rfl⟩)
    refine HC.out.mono ?_
    rintro e w1 ⟨rfl, b1⟩
    rw [HN.out]
    go_wp2
    go_ret
    exact ⟨rfl, b1⟩
set_option maxHeartbeats 1000000 in
theorem impl_IsValidEntry (A : Option Addr) (cap : Nat) (o : List Int) (t : ByteArray) (w : World) (hr : Reads w w.heap.size 1 A o.length (ints o)) (hn : o.length ≤ 1048576) (hs : t.size ≤ 1048576) (hmx : MaxOk w) :
    Calls Tryz.prog 57 #[.agg #[.slice A o.length cap, .string t]] w fun e w' => e = .returned (.bool (entB (o, t))) ∧ Below w.heap.size w w' := by
  obtain ⟨W1, hW1⟩ : ∃ W1, W1 = w.alloc (.cells #[.slice A o.length cap, .string t] 50) := ⟨_, rfl⟩
  have hb1 : Below w.heap.size w W1 := by rw [hW1]; exact (Below.refl _ _).alloc (Nat.le_refl _) _
  have t1 : Two W1 w.heap.size 50 (.slice A o.length cap) (.string t) := by rw [hW1]; exact Two.new w _ _ _
  have c0 := t1.cell0
  have HE := Lib.hid (show (outB o && tranB t) = entB (o, t) from rfl)
  go_enter Tryz.func57, Tryz.ntmps57
  go_wp2_with fail
  rw [← hW1]
  clear hW1
  refine (impl_IsValidOutline A cap o _ ((hr.below hb1).more hb1.size) hn).mono ?_
  rintro e w1 ⟨rfl, b1⟩
  have B1 := hb1.trans (b1.mono hb1.size)
  have t2 := t1.far b1
  have c1 := t2.cell1
  clear c0
  cases ho : outB o
  · have HO := Lib.hid ho
    clear ho
    go_wp2
    go_ret
    exact ⟨ret_bool (by rw [← HE.out, HO.out]; rfl), B1⟩
  · have HO := Lib.hid ho
    clear ho
    go_wp2_with fail
    refine (impl_isTranslation t _ hs (hmx.below B1)).mono ?_
    rintro e w2 ⟨rfl, b2⟩
    go_wp2
    go_ret
    exact ⟨ret_bool (by rw [← HE.out, HO.out]; simp), B1.trans (b2.mono B1.size)⟩

theorem cmp_isNaN_int (x : Int) (w : World) : Calls Tryz.prog 112 #[.int .i64 x] w fun e w' => e = .returned (.bool false) ∧ w = w' := by
  go_enter Tryz.func112, Tryz.ntmps112
  go_wp2
  go_ret
  exact ⟨ret_bool (by simp), rfl⟩
/-- cmp.Compare at ints. -/
theorem cmp_Compare_int (x y : Int) (w : World) : Calls Tryz.prog 93 #[.int .i64 x, .int .i64 y] w fun e w' => e = .returned (.int .i64 (if x < y then -1 else if y < x then 1 else 0)) ∧ w = w' := by
  rcases Int.lt_trichotomy x y with h | h | h
  · rw [if_pos h]
    go_enter Tryz.func93, Tryz.ntmps93
    go_wp2_with (go_at_call 112; refine (cmp_isNaN_int _ _).mono ?_; rintro e w' ⟨rfl, rfl⟩)
    go_ret
    exact ⟨rfl, rfl⟩
  · subst h
    go_enter Tryz.func93, Tryz.ntmps93
    go_wp2_with (go_at_call 112; refine (cmp_isNaN_int _ _).mono ?_; rintro e w' ⟨rfl, rfl⟩)
    go_ret
    exact ⟨ret_int (by simp), rfl⟩
  · rw [if_neg (by omega), if_pos h]
    go_enter Tryz.func93, Tryz.ntmps93
    go_wp2_with (go_at_call 112; refine (cmp_isNaN_int _ _).mono ?_; rintro e w' ⟨rfl, rfl⟩)
    go_ret
    exact ⟨rfl, rfl⟩
set_option maxHeartbeats 2000000 in
/-- slices.Compare at ints. -/
theorem slices_Compare_int (A B : Option Addr) (ca cb : Nat) (xs ys : List Int) (w : World) (hx : Reads w w.heap.size 1 A xs.length (ints xs)) (hy : Reads w w.heap.size 1 B ys.length (ints ys)) (hn : xs.length ≤ 1048576) (hm : ys.length ≤ 1048576) :
    Calls Tryz.prog 58 #[.slice A xs.length ca, .slice B ys.length cb] w fun e w' => e = .returned (.int .i64 (cmpL xs ys)) ∧ w = w' := by
  go_enter Tryz.func58, Tryz.ntmps58
  go_wp2
  go_loop [11] (fun i => ∃ k : Nat, k ≤ xs.length ∧ k ≤ ys.length ∧ i = .int .i64 k ∧ cmpL xs ys = cmpL (xs.drop k) (ys.drop k))
    (fun i => xs.length - (intOf i).toNat)
  case atStart => exact ⟨0, Nat.zero_le _, Nat.zero_le _, rfl, by simp⟩
  case round =>
    obtain ⟨k, hk, hk2, rfl, heq⟩ := hrel
    have HE := Lib.hid heq
    clear heq
    by_cases hlt : k < xs.length
    · obtain ⟨b, off, rfl, hb0, hc⟩ := hx.2 (by omega)
      obtain ⟨x, hxk⟩ := some_at xs hlt
      have cx : w.cell? ⟨b, off + k, none⟩ = some (.int .i64 x) := hc k _ (ints_at xs hxk)
      have HX := Lib.hid hxk
      clear hxk hc
      by_cases hlt2 : k < ys.length
      · obtain ⟨b', off', rfl, hb0', hc'⟩ := hy.2 (by omega)
        obtain ⟨y, hyk⟩ := some_at ys hlt2
        have cy : w.cell? ⟨b', off' + k, none⟩ = some (.int .i64 y) := hc' k _ (ints_at ys hyk)
        have HY := Lib.hid hyk
        clear hyk hc'
        by_cases h1 : x < y
        · have HR := Lib.hid (HE.out.trans (cmp_lt HX.out HY.out h1))
          go_wp2_with (go_at_call 93; refine (cmp_Compare_int x y _).mono ?_; rw [if_pos h1]; rintro e w' ⟨rfl, rfl⟩)
          go_ret
          exact ⟨ret_int HR.out.symm, rfl⟩
        · by_cases h2 : y < x
          · have HR := Lib.hid (HE.out.trans (cmp_gt HX.out HY.out h2))
            go_wp2_with (go_at_call 93; refine (cmp_Compare_int x y _).mono ?_; rw [if_neg h1, if_pos h2]; rintro e w' ⟨rfl, rfl⟩)
            go_ret
            exact ⟨ret_int HR.out.symm, rfl⟩
          · have HR := Lib.hid (HE.out.trans (cmp_eq HX.out HY.out (by omega)))
            go_wp2_with (go_at_call 93; refine (cmp_Compare_int x y _).mono ?_; rw [if_neg h1, if_neg h2]; rintro e w' ⟨rfl, rfl⟩)
            go_round
            case rel => exact ⟨k + 1, by omega, by omega, by go_num, HR.out⟩
            case measure => simp [intOf]; omega
      · have hke : k = ys.length := by omega
        have HR := Lib.hid (HE.out.trans (cmp_long hlt hke.symm))
        clear hke
        go_wp2
        go_ret
        exact ⟨ret_int HR.out.symm, rfl⟩
    · obtain rfl : k = xs.length := by omega
      by_cases hlt2 : xs.length < ys.length
      · have HR := Lib.hid (HE.out.trans (cmp_short rfl hlt2))
        go_wp2
        go_ret
        exact ⟨ret_int HR.out.symm, rfl⟩
      · have HR := Lib.hid (HE.out.trans (cmp_end rfl (by omega)))
        go_wp2
        go_ret
        exact ⟨ret_int HR.out.symm, rfl⟩
end Go.Proofs.YtekidodfcanjaaaGreatDoor
