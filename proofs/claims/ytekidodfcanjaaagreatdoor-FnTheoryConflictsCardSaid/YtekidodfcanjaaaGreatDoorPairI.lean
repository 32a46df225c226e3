/-
  The program's PrefixPairs.
-/
import Derived.Test.YtekidodfcanjaaaGreatDoorPairS
import Derived.Test.YtekidodfcanjaaaGreatDoorDictI
namespace Go.Proofs.YtekidodfcanjaaaGreatDoor
open Go.RowKit
set_option linter.unusedVariables false
set_option maxRecDepth 100000

set_option maxHeartbeats 8000000 in
theorem impl_PrefixPairs (A : Option Addr) (cap : Nat) (l : List EntD) (w : World) (hr : DictR w w.heap.size A l) (hn : l.length ≤ 1048576) (hs : ShortD l) (hmx : MaxOk w) :
    Calls Tryz.prog 21 #[.agg #[.slice A l.length cap]] w (RowsRes (dictB l) (pairD l) w) := by
  have HS := Lib.hid hs
  have HM := Lib.hid hmx
  clear hs hmx
  obtain ⟨W1, hW1⟩ : ∃ W1, W1 = w.alloc (.cells #[.slice A l.length cap] 31) := ⟨_, rfl⟩
  have hb1 : Below w.heap.size w W1 := by rw [hW1]; exact (Below.refl _ _).alloc (Nat.le_refl _) _
  have bP : Box W1 w.heap.size 31 (.slice A l.length cap) := by rw [hW1]; exact Box.new w _ _
  cases hv : dictB l
  · have HV := Lib.hid hv
    rw [pairD_no hv]
    clear hv
    go_enter Tryz.func21, Tryz.ntmps21
    go_wp2_with fail
    rw [← hW1]
    clear hW1
    refine (impl_IsValidDictionary A cap l _ ((hr.below hb1).more hb1.size) hn HS.out (HM.out.below hb1)).mono ?_
    rw [HV.out]
    rintro e w3 ⟨rfl, b3⟩
    go_wp2
    go_ret2
    exact rows_no rfl (hb1.trans (b3.mono hb1.size))
  rw [pairD_yes hv]
  have HV := Lib.hid hv
  have h40 := dict_len hv
  clear hv
  go_enter Tryz.func21, Tryz.ntmps21
  go_wp2_with fail
  rw [← hW1]
  clear hW1
  refine (impl_IsValidDictionary A cap l _ ((hr.below hb1).more hb1.size) hn HS.out (HM.out.below hb1)).mono ?_
  rw [HV.out]
  rintro e w3 ⟨rfl, b3⟩
  have B3 := hb1.trans (b3.mono hb1.size)
  have bP3 := bP.far b3
  have B4 := B3.alloc B3.size (.cells #[] 26)
  have bP4 := bP3.alloc (.cells #[] 26)
  have own0 : (w3.alloc (.cells #[] 26)).ownsRow (w.heap.size + 1) 26 1 (.slice (some ⟨w3.heap.size, 0, none⟩) 0 0) 0 [] := World.ownsRow_made _ _ _ bP3.lt (by simp) rfl
  have cP4 := bP4.cell
  clear bP bP3 B3 b3
  go_wp2
  go_loopw [4, 16] (fun v i wr => ∃ (k : Nat) (vs : List Value), k ≤ l.length ∧ i = .int .i64 k ∧ wr.ownsRow (w.heap.size + 1) 26 1 v (pairT l k).length vs ∧ RowsAt wr (w.heap.size + 1) vs (pairT l k) ∧ Box wr w.heap.size 31 (.slice A l.length cap) ∧ Below w.heap.size w wr) (fun _ i _ => l.length - (intOf i).toNat)
  case atStart => exact ⟨0, [], Nat.zero_le _, rfl, own0, RowsAt.nil _ _, bP4, B4⟩
  case round =>
    obtain ⟨k, vs, hk, rfl, hown, hrows, bP, hb⟩ := hrel
    clear cP4
    have cP := bP.cell
    by_cases hlt : k < l.length
    · obtain ⟨b, off, hA, hb0, hc0⟩ := hr (by omega)
      subst hA
      obtain ⟨⟨o, t⟩, hx⟩ := some_at l hlt
      obtain ⟨ao, co, c1', c2', r1, hco, hcom⟩ := DictR.at_ hc0 hx
      have c1 := (hb.cell (p := ⟨b, off + k * 2, none⟩) hb0).trans c1'
      have c2 := (hb.cell (p := ⟨b, off + k * 2 + 1, none⟩) hb0).trans c2'
      have HNX := Lib.hid (pairT_next hx)
      have hol := dict_out HV.out hx
      simp only at hol
      have HX := Lib.hid hx
      have htl := pairT_len l k
      have htm : k * l.length ≤ 40 * 40 := Nat.mul_le_mul (by omega) h40
      have RO := Lib.hid (show ∀ W, Below w.heap.size w W → Reads W W.heap.size 1 ao o.length (ints o) from fun W hW => (r1.below hW).more hW.size)
      have i0 : (0 : Int) ≤ (k : Int) := by omega
      have i1 : (k : Int) < (l.length : Int) := by omega
      have ba := (Below.refl wr.heap.size wr).alloc (Nat.le_refl _) (.cells #[.slice ao o.length co, .string t] 50)
      have ta := Two.new wr 50 (.slice ao o.length co) (.string t)
      obtain ⟨g, hg⟩ : ∃ g, g = wr.heap.size := ⟨_, rfl⟩
      clear hx c1' c2' r1
      generalize hos : pairT l k = os at *
      clear hos
      go_upto_region 7 with (fail)
      rw [← hg] at ta
      generalize hX : wr.alloc (.cells #[.slice ao o.length co, .string t] 50) = xr at *
      rw [← hg]
      clear hX
      have hownx := row_below hown ba
      have hrowsx := hrows.below ba
      have bPx := bP.far ba
      have hbx := hb.trans (ba.mono hb.size)
      clear cP c1 c2 hg ba hown hrows bP hb
      have cP := bPx.cell
      go_wp2
      go_loopw [4, 24] (fun v j wr => ∃ (m : Nat) (vs : List Value), m ≤ l.length ∧ j = .int .i64 m ∧ wr.ownsRow (w.heap.size + 1) 26 1 v (os ++ pairK l o k m).length vs ∧ RowsAt wr (w.heap.size + 1) vs (os ++ pairK l o k m) ∧ Box wr w.heap.size 31 (.slice (some ⟨b, off, none⟩) l.length cap) ∧ Two wr g 50 (.slice ao o.length co) (.string t) ∧ Below w.heap.size w wr) (fun _ j _ => l.length - (intOf j).toNat)
      case atStart => exact ⟨0, vs, Nat.zero_le _, rfl, by rw [pairK, List.append_nil]; exact hownx, by rw [pairK, List.append_nil]; exact hrowsx, bPx, ta, hbx⟩
      case round =>
        obtain ⟨m, vs, hm, rfl, hown, hrows, bP, ta, hb⟩ := hrel
        clear cP
        have hpl := pairK_len l o k m
        have hoz : (os ++ pairK l o k m).length ≤ 1700 := by rw [List.length_append]; omega
        by_cases hmt : m < l.length
        · obtain ⟨⟨p, u⟩, hy⟩ := some_at l hmt
          obtain ⟨ap, cp, d1', d2', r2, hcp, hcm⟩ := DictR.at_ hc0 hy
          have d1 := (hb.cell (p := ⟨b, off + m * 2, none⟩) hb0).trans d1'
          have d2 := (hb.cell (p := ⟨b, off + m * 2 + 1, none⟩) hb0).trans d2'
          have hpl2 := dict_out HV.out hy
          simp only at hpl2
          have i2 : (0 : Int) ≤ (m : Int) := by omega
          have i3 : (m : Int) < (l.length : Int) := by omega
          have RP := Lib.hid (show ∀ W, Below w.heap.size w W → Reads W W.heap.size 1 ap p.length (ints p) from fun W hW => (r2.below hW).more hW.size)
          have HY := Lib.hid hy
          have bb := (Below.refl wr.heap.size wr).alloc (Nat.le_refl _) (.cells #[.slice ap p.length cp, .string u] 50)
          have tb := Two.new wr 50 (.slice ap p.length cp) (.string u)
          clear hy r2 d1' d2'
          go_upto_region 10 with (fail)
          generalize hX : wr.alloc (.cells #[.slice ap p.length cp, .string u] 50) = xr at *
          clear hX
          have hownx := row_below hown bb
          have hrowsx := hrows.below bb
          have bPx := bP.far bb
          have tax := ta.far bb
          have hbx := hb.trans (bb.mono hb.size)
          have e0 := tb.cell0
          have e1 := tax.cell0
          clear d1 d2
          by_cases hkm : k = m
          · have HND := Lib.hid (pairK_no (o := o) (i := k) HY.out (by simp [pairB, hkm]))
            have n1 : ((k : Int) != (m : Int)) = false := by simp [hkm]
            have n2 : (k != m) = false := by simp [hkm]
            clear hkm
            go_wp2
            go_roundw
            case rel => exact ⟨m + 1, vs, by omega, by go_num, by rw [HND.out]; exact hownx, by rw [HND.out]; exact hrowsx, bPx, tax, hbx⟩
            case measure => simp [intOf]; omega
          · have n1 : ((k : Int) != (m : Int)) = true := by simp; omega
            have n2 : (k != m) = true := by simpa using hkm
            cases hbg : beginsB p o
            · have HBG := Lib.hid hbg
              have HND := Lib.hid (pairK_no (o := o) (i := k) HY.out (by simp [pairB, hbg]))
              clear hkm hbg
              go_wp2_with fail
              refine (impl_startsWith ap ao cp co p o _ (RP.out _ hbx) (RO.out _ hbx) (by omega) (by omega) hcp hcm).mono ?_
              rw [HBG.out]
              rintro e w9 ⟨rfl, b9⟩
              have B9 := hbx.trans (b9.mono hbx.size)
              go_wp2
              go_roundw
              case rel => exact ⟨m + 1, vs, by omega, by go_num, by rw [HND.out]; exact row_below hownx b9, by rw [HND.out]; exact hrowsx.below b9, bPx.far b9, tax.far b9, B9⟩
              case measure => simp [intOf]; omega
            · have HBG := Lib.hid hbg
              have HYD := Lib.hid (pairK_yes (o := o) (i := k) HY.out (by simp [pairB, hbg, hkm]))
              clear hkm hbg
              go_wp2_with fail
              refine (impl_startsWith ap ao cp co p o _ (RP.out _ hbx) (RO.out _ hbx) (by omega) (by omega) hcp hcm).mono ?_
              rw [HBG.out]
              rintro e w9 ⟨rfl, b9⟩
              have B9 := hbx.trans (b9.mono hbx.size)
              have bP9 := bPx.far b9
              have ta9 := tax.far b9
              have hown9 := row_below hownx b9
              have hrows9 := hrowsx.below b9
              have sz9 : w.heap.size + 1 ≤ w9.heap.size := bP9.lt
              have hownA := hown9.alloc (.cells #[.int .i64 k, .int .i64 m] 3)
              have szA : w.heap.size + 1 ≤ (w9.alloc (.cells #[.int .i64 k, .int .i64 m] 3)).heap.size := by simp; omega
              have BA := B9.alloc B9.size (.cells #[.int .i64 k, .int .i64 m] 3)
              have bPA := bP9.alloc (.cells #[.int .i64 k, .int .i64 m] 3)
              have taA : Two (w9.alloc (.cells #[.int .i64 k, .int .i64 m] 3)) g 50 (.slice ao o.length co) (.string t) := ta9.far ((Below.refl _ _).alloc (Nat.le_refl _) _)
              have HNE := Lib.hid (bPA.ne_own hownA (by decide))
              have HTE := Lib.hid (taA.ne_own hownA (by decide))
              clear hown hrows hownx hrowsx e0 e1
              go_wp2_with (at_builtin; refine wpList_append_oneA hownA szA (.tmp 39) (.tmp 43) 41 Tryz.underlying41 infos_int (by omega) (by unfold maxLen; omega) ⟨rfl, rfl, rfl, rfl, rfl, rfl⟩ (by simp) ?_; intro v10 w10 hown10 hg10 hat10)
              have hrs := rows_step (r := [(k : Int), (m : Int)]) hown9 hrows9 sz9 (by simp) (by exact hg10)
              go_roundw
              case rel => exact ⟨m + 1, vs ++ [.slice (some ⟨w9.heap.size, 0, none⟩) 2 2], by omega, by go_num, by rw [HYD.out, ← List.append_assoc, List.length_append]; exact hown10, by rw [HYD.out, ← List.append_assoc]; exact hrs, bPA.grown hg10 HNE.out, taA.grown hg10 HTE.out, below_grown BA hg10 BA.size hownA rfl (by omega)⟩
              case measure => simp [intOf]; omega
        · obtain rfl : m = l.length := by omega
          go_wp2
          go_roundw
          case rel => exact ⟨k + 1, vs, by omega, by go_num, by rw [HNX.out]; exact hown, by rw [HNX.out]; exact hrows, bP, hb⟩
          case measure => simp [intOf]; omega
    · obtain rfl : k = l.length := by omega
      go_wp2
      go_ret2
      exact rows_yes rfl hown hrows (by omega) hb
end Go.Proofs.YtekidodfcanjaaaGreatDoor
