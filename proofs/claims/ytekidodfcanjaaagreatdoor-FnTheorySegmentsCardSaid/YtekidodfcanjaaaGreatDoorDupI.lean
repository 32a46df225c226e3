/-
  The program's DuplicateTexts.
-/
import Derived.Test.YtekidodfcanjaaaGreatDoorDupS
import Derived.Test.YtekidodfcanjaaaGreatDoorDictI
namespace Go.Proofs.YtekidodfcanjaaaGreatDoor
open Go.RowKit
set_option linter.unusedVariables false
set_option maxRecDepth 100000

set_option maxHeartbeats 8000000 in
theorem impl_DuplicateTexts (A : Option Addr) (cap : Nat) (l : List EntD) (w : World) (hr : DictR w w.heap.size A l) (hn : l.length ≤ 1048576) (hs : ShortD l) (hmx : MaxOk w) :
    Calls Tryz.prog 38 #[.agg #[.slice A l.length cap]] w (RowsRes (dictB l) (dupD l) w) := by
  have HS := Lib.hid hs
  have HM := Lib.hid hmx
  clear hs hmx
  obtain ⟨W1, hW1⟩ : ∃ W1, W1 = w.alloc (.cells #[.slice A l.length cap] 31) := ⟨_, rfl⟩
  have hb1 : Below w.heap.size w W1 := by rw [hW1]; exact (Below.refl _ _).alloc (Nat.le_refl _) _
  have bP : Box W1 w.heap.size 31 (.slice A l.length cap) := by rw [hW1]; exact Box.new w _ _
  cases hv : dictB l
  · have HV := Lib.hid hv
    rw [dupD_no hv]
    clear hv
    go_enter Tryz.func38, Tryz.ntmps38
    go_wp2_with fail
    rw [← hW1]
    clear hW1
    refine (impl_IsValidDictionary A cap l _ ((hr.below hb1).more hb1.size) hn HS.out (HM.out.below hb1)).mono ?_
    rw [HV.out]
    rintro e w3 ⟨rfl, b3⟩
    go_wp2
    go_ret2
    exact rows_no rfl (hb1.trans (b3.mono hb1.size))
  rw [dupD_yes hv]
  have HV := Lib.hid hv
  have h40 := dict_len hv
  clear hv
  go_enter Tryz.func38, Tryz.ntmps38
  go_wp2_with fail
  rw [← hW1]
  clear hW1
  refine (impl_IsValidDictionary A cap l _ ((hr.below hb1).more hb1.size) hn HS.out (HM.out.below hb1)).mono ?_
  rw [HV.out]
  rintro e w3 ⟨rfl, b3⟩
  have B3 := hb1.trans (b3.mono hb1.size)
  have bP3 := bP.far b3
  have B4 := B3.alloc B3.size (.cells #[] 26)
  have bP4 := bP3.alloc (.cells #[] 26)
  have own0 : (w3.alloc (.cells #[] 26)).ownsRow (w.heap.size + 1) 26 1 (.slice (some ⟨w3.heap.size, 0, none⟩) 0 0) 0 [] := World.ownsRow_made _ _ _ bP3.lt (by simp) rfl
  have cP4 := bP4.cell
  clear bP bP3 B3 b3
  go_wp2
  clear cP4
  go_loopw [4, 17] (fun v i wr => ∃ (k : Nat) (vs : List Value), k ≤ l.length ∧ i = .int .i64 k ∧ wr.ownsRow (w.heap.size + 1) 26 1 v (dupT l k).length vs ∧ RowsAt wr (w.heap.size + 1) vs (dupT l k) ∧ Box wr w.heap.size 31 (.slice A l.length cap) ∧ Below w.heap.size w wr) (fun _ i _ => l.length - (intOf i).toNat)
  case atStart => exact ⟨0, [], Nat.zero_le _, rfl, own0, RowsAt.nil _ _, bP4, B4⟩
  case round =>
    obtain ⟨k, vs, hk, rfl, hown, hrows, bP, hb⟩ := hrel
    have cP := bP.cell
    by_cases hlt : k < l.length
    · obtain ⟨b, off, hA, hb0, hc0⟩ := hr (by omega)
      subst hA
      obtain ⟨⟨o, t⟩, hx⟩ := some_at l hlt
      obtain ⟨ao, co, c1', c2', -, -, -⟩ := DictR.at_ hc0 hx
      have c1 := (hb.cell (p := ⟨b, off + k * 2, none⟩) hb0).trans c1'
      have c2 := (hb.cell (p := ⟨b, off + k * 2 + 1, none⟩) hb0).trans c2'
      have HX := Lib.hid hx
      have htl := dupT_len l k
      have i0 : (0 : Int) ≤ (k : Int) := by omega
      have i1 : (k : Int) < (l.length : Int) := by omega
      have bx := (Below.refl wr.heap.size wr).alloc (Nat.le_refl _) (.cells #[.slice ao o.length co, .string t] 50)
      have tx := Two.new wr 50 (.slice ao o.length co) (.string t)
      obtain ⟨g, hgg⟩ : ∃ g, g = wr.heap.size := ⟨_, rfl⟩
      clear hx c1' c2'
      go_upto_region 7 with (fail)
      rw [← hgg] at tx
      generalize hX : wr.alloc (.cells #[.slice ao o.length co, .string t] 50) = xr at *
      rw [← hgg]
      clear hX
      have hownx0 := row_below hown bx
      have hrowsx0 := hrows.below bx
      have bPx0 := bP.far bx
      have hbx0 := hb.trans (bx.mono hb.size)
      obtain ⟨lo2, hlo2⟩ : ∃ lo2, lo2 = xr.heap.size := ⟨_, rfl⟩
      have hvlt : ∀ x ∈ vs, ∀ g, x.ownBlock = some g → g < lo2 := fun x hx g hg => by rw [hlo2]; exact (hrowsx0.lt x hx g hg).2
      have hl1 : w.heap.size + 1 ≤ lo2 := by rw [hlo2]; exact bPx0.lt
      have hgl2 : g < lo2 := by rw [hlo2]; exact tx.lt
      have HVL := Lib.hid hvlt
      have ba := (Below.refl xr.heap.size xr).alloc (Nat.le_refl _) (.cells #[] 3)
      have ownG : (xr.alloc (.cells #[] 3)).ownsRow lo2 3 1 (.slice (some ⟨xr.heap.size, 0, none⟩) 0 0) 0 [] := World.ownsRow_made _ _ _ (by omega) (by simp) rfl
      have hownx := row_below hownx0 ba
      have hrowsx := hrowsx0.below ba
      have bPx := bPx0.far ba
      have txx := tx.far ba
      have hbx := hbx0.trans (ba.mono hbx0.size)
      have hzx : lo2 ≤ (xr.alloc (.cells #[] 3)).heap.size := by simp; omega
      have cPx := bPx.cell
      clear hvlt hown hrows bP hb hlo2 ba bx hownx0 hrowsx0 bPx0 hbx0 cP c1 c2 tx hgg
      generalize hos : dupT l k = os at *
      have HOS := Lib.hid hos
      clear hos
      go_wp2
      clear cPx
      go_loopw [7, 26] (fun gv j wr => ∃ m : Nat, m ≤ l.length ∧ j = .int .i64 m ∧ wr.ownsRow lo2 3 1 gv (dupG l t m).length (ints (dupG l t m)) ∧ wr.ownsRow (w.heap.size + 1) 26 1 u4 os.length vs ∧ RowsAt wr (w.heap.size + 1) vs os ∧ Box wr w.heap.size 31 (.slice (some ⟨b, off, none⟩) l.length cap) ∧ Two wr g 50 (.slice ao o.length co) (.string t) ∧ Below w.heap.size w wr ∧ lo2 ≤ wr.heap.size) (fun _ j _ => l.length - (intOf j).toNat)
      case atStart => exact ⟨0, Nat.zero_le _, rfl, ownG, hownx, hrowsx, bPx, txx, hbx, hzx⟩
      case round =>
        obtain ⟨m, hm, rfl, hg, hown, hrows, bP, tx, hb, hz⟩ := hrel
        have hgl := dupG_len l t m
        by_cases hmt : m < l.length
        · obtain ⟨⟨p, u⟩, hy⟩ := some_at l hmt
          obtain ⟨ap, cp, d1', d2', -, -, -⟩ := DictR.at_ hc0 hy
          have d1 := (hb.cell (p := ⟨b, off + m * 2, none⟩) hb0).trans d1'
          have d2 := (hb.cell (p := ⟨b, off + m * 2 + 1, none⟩) hb0).trans d2'
          have HY := Lib.hid hy
          have i2 : (0 : Int) ≤ (m : Int) := by omega
          have i3 : (m : Int) < (l.length : Int) := by omega
          have bb := (Below.refl wr.heap.size wr).alloc (Nat.le_refl _) (.cells #[.slice ap p.length cp, .string u] 50)
          have tb := Two.new wr 50 (.slice ap p.length cp) (.string u)
          clear hy d1' d2'
          go_upto_region 11 with (fail)
          generalize hX : wr.alloc (.cells #[.slice ap p.length cp, .string u] 50) = xr at *
          clear hX
          have hg2 := row_below hg bb
          have hown2 := row_below hown bb
          have hrows2 := hrows.below bb
          have bP2 := bP.far bb
          have tx2 := tx.far bb
          have hb2 := hb.trans (bb.mono hb.size)
          have hz2 := Nat.le_trans hz bb.size
          have e0 := tb.cell1
          have e2 := tx2.cell1
          clear d1 d2 hg hown hrows bP tx hb hz bb
          by_cases hut : u = t
          · have HGY := Lib.hid (dupG_yes HY.out hut)
            have e1 : (u.toList == t.toList) = true := by rw [str_beq, decide_eq_true hut]
            clear hut
            go_wp2_with (at_builtin; refine wpList_append_oneA hg2 hz2 (.tmp 36) (.tmp 38) 26 Tryz.underlying26 info_int (by omega) (by unfold maxLen; omega) ⟨rfl, rfl, rfl, rfl, rfl, rfl⟩ rfl ?_; intro v10 w10 hg10 gr10 at10)
            go_roundw
            case rel => exact ⟨m + 1, by omega, by go_num, by rw [HGY.out, List.length_append, ints_snoc]; exact hg10, hown2.kept gr10 (apart_or hown2 hg2 (by decide)), hrows2.kept gr10 (rows_far (lo := 0) hg2 HVL.out), bP2.grown gr10 (block_far hg2 (by omega)), tx2.grown gr10 (block_far hg2 hgl2), below_grown hb2 gr10 hb2.size hg2 rfl (by omega), Nat.le_trans hz2 gr10.size⟩
            case measure => simp [intOf]; omega
          · have HGN := Lib.hid (dupG_no HY.out hut)
            have e1 := str_other hut
            clear hut
            go_wp2
            go_roundw
            case rel => exact ⟨m + 1, by omega, by go_num, by rw [HGN.out]; exact hg2, hown2, hrows2, bP2, tx2, hb2, hz2⟩
            case measure => simp [intOf]; omega
        · obtain rfl : m = l.length := by omega
          by_cases hlen : 1 < (dupG l t l.length).length
          · obtain ⟨x, hx0⟩ := some_at (dupG l t l.length) (show 0 < _ by omega)
            obtain ⟨gb, cg, hgv, -, -, -, -, -, hgc, -⟩ := (Own.of_row hg).open_ (by omega)
            subst hgv
            have cg0 : wr.cell? ⟨gb, 0, none⟩ = some (.int .i64 x) := (hgc 0 (by omega)).trans (ints_at _ hx0)
            have HFH := Lib.hid (first_head HX.out rfl hx0)
            have j1 : (1 : Int) < ((dupG l t l.length).length : Int) := by omega
            have j3 : (0 : Int) < ((dupG l t l.length).length : Int) := by omega
            have j4 : 0 < (dupG l t l.length).length := by omega
            clear hgc hx0
            by_cases hxk : x = (k : Int)
            · have HYD := Lib.hid (dupT_yes HX.out (by simp only [dupOk]; rw [HFH.out, decide_eq_true hxk]; simpa using hlen))
              subst hxk
              go_wp2_with (at_builtin; refine wpList_append_oneA hown (by omega) (.tmp 51) (.tmp 53) 41 Tryz.underlying41 infos_int (by omega) (by unfold maxLen; omega) ⟨rfl, rfl, rfl, rfl, rfl, rfl⟩ (by simp) ?_; intro v10 w10 hown10 gr10 at10)
              have hrs := rows_put hown hrows hg hl1 HVL.out gr10
              go_roundw
              case rel => exact ⟨k + 1, _, by omega, by go_num, by rw [HYD.out, HOS.out, List.length_append]; exact hown10, by rw [HYD.out, HOS.out]; exact hrs, bP.grown gr10 (bP.ne_own hown (by decide)), below_grown hb gr10 hb.size hown rfl (by omega)⟩
              case measure => simp [intOf]; omega
            · have HND := Lib.hid (dupT_no HX.out (by simp only [dupOk]; rw [HFH.out, decide_eq_false hxk]; rfl))
              have n1 : (x == (k : Int)) = false := by simpa using hxk
              clear hxk
              go_wp2
              go_roundw
              case rel => exact ⟨k + 1, vs, by omega, by go_num, by rw [HND.out, HOS.out]; exact hown, by rw [HND.out, HOS.out]; exact hrows, bP, hb⟩
              case measure => simp [intOf]; omega
          · have HND := Lib.hid (dupT_no HX.out (by simp [dupOk, hlen]))
            obtain ⟨Ag, cg, rfl, -, -, -⟩ := (Own.of_row hg).slice
            have j1 : ¬ (1 : Int) < ((dupG l t l.length).length : Int) := by omega
            go_wp2
            go_roundw
            case rel => exact ⟨k + 1, vs, by omega, by go_num, by rw [HND.out, HOS.out]; exact hown, by rw [HND.out, HOS.out]; exact hrows, bP, hb⟩
            case measure => simp [intOf]; omega
    · obtain rfl : k = l.length := by omega
      go_wp2
      go_ret2
      exact rows_yes rfl hown hrows (by omega) hb
end Go.Proofs.YtekidodfcanjaaaGreatDoor
