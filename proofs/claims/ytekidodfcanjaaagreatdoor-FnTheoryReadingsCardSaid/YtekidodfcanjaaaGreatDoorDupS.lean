/-
  The reference's DuplicateTexts.
-/
import Derived.Test.YtekidodfcanjaaaGreatDoorDictPl
import Derived.Test.YtekidodfcanjaaaGreatDoorPairS
namespace Go.Proofs.YtekidodfcanjaaaGreatDoor
open Go.RowKit
set_option linter.unusedVariables false
set_option linter.unusedSimpArgs false
set_option maxRecDepth 100000

/-- One row more: a row of the call's own is put behind the others. -/
theorem rows_put {wr w' : World} {lo lo2 n : Nat} {v u : Value} {vs : List Value} {rows : List (List Int)} {r : List Int} (ho : wr.ownsRow lo 26 1 v n vs) (hr : RowsAt wr lo vs rows) (hu : wr.ownsRow lo2 3 1 u r.length (ints r)) (hlo : lo ≤ lo2) (hlt : ∀ x ∈ vs, ∀ g, x.ownBlock = some g → g < lo2)
    (hg : wr.grownBy w' v.ownBlock) : RowsAt w' lo (vs ++ [u]) (rows ++ [r]) := by
  have hs := hr.snoc (hu.base hlo) (fun x hx g hxg h2 => by
    have h1 := hlt x hx g hxg
    have h3 := (hu.lt g h2).1
    omega)
  exact hs.kept hg (hs.ne_outer ho)

theorem apart_or {w : World} {b b' s s' n n' : Nat} {e e' : TypeId} {v v' : Value} {xs xs' : List Value} (h : w.ownsRow b e s v n xs) (h' : w.ownsRow b' e' s' v' n' xs') (he : e ≠ e') : v.ownBlock = none ∨ v.ownBlock ≠ v'.ownBlock := by
  cases hb : v.ownBlock with
  | none => exact .inl rfl
  | some g => exact .inr fun h2 => rows_apart h h' he g hb h2.symm
theorem rows_far {w : World} {lo lo2 n : Nat} {e : TypeId} {s : Nat} {gv : Value} {xs : List Value} {vs : List Value} (hg : w.ownsRow lo2 e s gv n xs) (hlt : ∀ x ∈ vs, ∀ g, x.ownBlock = some g → g < lo2) : ∀ u ∈ vs, u.ownBlock = none ∨ u.ownBlock ≠ gv.ownBlock := by
  intro u hu
  cases hb : u.ownBlock with
  | none => exact .inl rfl
  | some g =>
    refine .inr fun h2 => ?_
    have h1 := hlt u hu g hb
    have h3 := (hg.lt g h2.symm).1
    omega
theorem rows_drewN {w : World} {lo : Nat} {vs : List Value} {rows : List (List Int)} (h : RowsAt w lo vs rows) (k : Nat) : RowsAt (w.drewN k) lo vs rows := ⟨h.len, fun j u r hu hr => drewN_own (h.row j u r hu hr) k, h.apart⟩
theorem block_far {w : World} {lo2 n B s : Nat} {e : TypeId} {gv : Value} {xs : List Value} (hg : w.ownsRow lo2 e s gv n xs) (hB : B < lo2) : gv.ownBlock ≠ some B := fun h => by
  have := (hg.lt B h).1
  omega
set_option maxHeartbeats 8000000 in
theorem spec_DuplicateTexts (A : Option Addr) (cap : Nat) (l : List EntD) (w : World) (hr : DictR w w.heap.size A l) (hn : l.length ≤ 1048576) (hs : ShortD l) :
    Calls Tryz.prog 39 #[.agg #[.slice A l.length cap]] w (RowsRes (dictB l) (dupD l) w) := by
  have HS := Lib.hid hs
  clear hs
  obtain ⟨W1, hW1⟩ : ∃ W1, W1 = w.alloc (.cells #[.slice A l.length cap] 31) := ⟨_, rfl⟩
  have hb1 : Below w.heap.size w W1 := by rw [hW1]; exact (Below.refl _ _).alloc (Nat.le_refl _) _
  have bP : Box W1 w.heap.size 31 (.slice A l.length cap) := by rw [hW1]; exact Box.new w _ _
  cases hv : dictB l
  · have HV := Lib.hid hv
    rw [dupD_no hv]
    clear hv
    go_enter Tryz.func39, Tryz.ntmps39
    go_wp2_with fail
    rw [← hW1]
    clear hW1
    refine (spec_l6Good A cap l _ ((hr.below hb1).more hb1.size) hn HS.out).mono ?_
    rw [HV.out]
    rintro e w3 ⟨rfl, b3⟩
    go_wp2
    go_ret2
    exact rows_no rfl (hb1.trans (b3.mono hb1.size))
  rw [dupD_yes hv]
  have HV := Lib.hid hv
  have h40 := dict_len hv
  clear hv
  go_enter Tryz.func39, Tryz.ntmps39
  go_wp2_with fail
  rw [← hW1]
  clear hW1
  refine (spec_l6Good A cap l _ ((hr.below hb1).more hb1.size) hn HS.out).mono ?_
  rw [HV.out]
  rintro e w3 ⟨rfl, b3⟩
  have B3 := hb1.trans (b3.mono hb1.size)
  have bP3 := bP.far b3
  have B4 := B3.alloc B3.size (.cells #[] 26)
  have bP4 := bP3.alloc (.cells #[] 26)
  have own0 : (w3.alloc (.cells #[] 26)).ownsRow (w.heap.size + 1) 26 1 (.slice (some ⟨w3.heap.size, 0, none⟩) 0 0) 0 [] := World.ownsRow_made _ _ _ bP3.lt (by simp) rfl
  clear bP bP3 B3 b3
  go_wp2
  go_loopw [4, 5] (fun v i wr => ∃ (k : Nat) (vs : List Value), k ≤ l.length ∧ i = .int .i64 k ∧ wr.ownsRow (w.heap.size + 1) 26 1 v (dupT l k).length vs ∧ RowsAt wr (w.heap.size + 1) vs (dupT l k) ∧ Box wr w.heap.size 31 (.slice A l.length cap) ∧ Below w.heap.size w wr) (fun _ i _ => l.length - (intOf i).toNat)
  case atStart => exact ⟨0, [], Nat.zero_le _, rfl, own0, RowsAt.nil _ _, bP4, B4⟩
  case round =>
    obtain ⟨k, vs, hk, rfl, hown, hrows, bP, hb⟩ := hrel
    have cP := bP.cell
    by_cases hlt : k < l.length
    · obtain ⟨b, off, hA, hb0, hc0⟩ := hr (by omega)
      subst hA
      obtain ⟨⟨o, t⟩, hx⟩ := some_at l hlt
      obtain ⟨ao, co, -, c2', -, -, -⟩ := DictR.at_ hc0 hx
      have HX := Lib.hid hx
      have htl := dupT_len l k
      have i0 : (0 : Int) ≤ (k : Int) := by omega
      have i1 : (k : Int) < (l.length : Int) := by omega
      obtain ⟨lo2, hlo2⟩ : ∃ lo2, lo2 = wr.heap.size := ⟨_, rfl⟩
      have hvlt : ∀ x ∈ vs, ∀ g, x.ownBlock = some g → g < lo2 := fun x hx g hg => by rw [hlo2]; exact (hrows.lt x hx g hg).2
      have hl1 : w.heap.size + 1 ≤ lo2 := by rw [hlo2]; exact bP.lt
      have HVL := Lib.hid hvlt
      have ba := (Below.refl wr.heap.size wr).alloc (Nat.le_refl _) (.cells #[] 3)
      have ownG : (wr.alloc (.cells #[] 3)).ownsRow lo2 3 1 (.slice (some ⟨wr.heap.size, 0, none⟩) 0 0) 0 [] := World.ownsRow_made _ _ _ (by omega) (by simp) rfl
      have hownx := row_below hown ba
      have hrowsx := hrows.below ba
      have bPx := bP.far ba
      have hbx := hb.trans (ba.mono hb.size)
      have hzx : lo2 ≤ (wr.alloc (.cells #[] 3)).heap.size := by simp; omega
      clear hx hvlt hown hrows bP hb hlo2 ba
      generalize hos : dupT l k = os at *
      have HOS := Lib.hid hos
      clear hos
      go_wp2
      go_loopw [6, 7, 8] (fun gv fv j wr => ∃ m : Nat, m ≤ l.length ∧ j = .int .i64 m ∧ fv = .bool (firstB l t k m) ∧ wr.ownsRow lo2 3 1 gv (dupG l t m).length (ints (dupG l t m)) ∧ wr.ownsRow (w.heap.size + 1) 26 1 u4 os.length vs ∧ RowsAt wr (w.heap.size + 1) vs os ∧ Box wr w.heap.size 31 (.slice (some ⟨b, off, none⟩) l.length cap) ∧ Below w.heap.size w wr ∧ lo2 ≤ wr.heap.size) (fun _ _ j _ => l.length - (intOf j).toNat)
      case atStart => exact ⟨0, Nat.zero_le _, rfl, by rw [firstB_zero], ownG, hownx, hrowsx, bPx, hbx, hzx⟩
      case round =>
        obtain ⟨m, hm, rfl, rfl, hg, hown, hrows, bP, hb, hz⟩ := hrel
        clear cP
        have cP := bP.cell
        have hgl := dupG_len l t m
        by_cases hmt : m < l.length
        · obtain ⟨⟨p, u⟩, hy⟩ := some_at l hmt
          obtain ⟨ap, cp, -, d2', -, -, -⟩ := DictR.at_ hc0 hy
          have d2 := (hb.cell (p := ⟨b, off + m * 2 + 1, none⟩) hb0).trans d2'
          have c2 := (hb.cell (p := ⟨b, off + k * 2 + 1, none⟩) hb0).trans c2'
          have HY := Lib.hid hy
          have i2 : (0 : Int) ≤ (m : Int) := by omega
          have i3 : (m : Int) < (l.length : Int) := by omega
          clear hy d2'
          by_cases hut : u = t
          · have HGY := Lib.hid (dupG_yes HY.out hut)
            have HFY := Lib.hid (firstB_yes (i := k) HY.out hut)
            have e1 : (u.toList == t.toList) = true := by rw [str_beq, decide_eq_true hut]
            clear hut
            cases hfb : firstB l t k m
            · have HF := Lib.hid (show firstB l t k (m + 1) = false by rw [HFY.out, hfb]; rfl)
              clear hfb
              go_wp2
              go_quiet (fail)
              go_wp2_with (at_builtin; refine wpList_append_oneA (drewN_own hg _) (by exact hz) (.tmp 41) (.tmp 43) 26 Tryz.underlying26 info_int (by omega) (by unfold maxLen; omega) ⟨rfl, rfl, rfl, rfl, rfl, rfl⟩ rfl ?_; intro v10 w10 hg10 gr10 at10)
              go_roundw
              case rel => exact ⟨m + 1, by omega, by go_num, by rw [HF.out], by rw [HGY.out, List.length_append, ints_snoc]; exact hg10, (drewN_own hown _).kept gr10 (apart_or hown hg (by decide)), (rows_drewN hrows _).kept gr10 (rows_far (lo := 0) hg HVL.out), (bP.drewN _).grown gr10 (block_far hg (by omega)), below_grown (below_drewN hb _) gr10 (by exact hb.size) (drewN_own hg _) rfl (by omega), Nat.le_trans hz gr10.size⟩
              case measure => simp [intOf]; omega
            · by_cases hkm : k ≤ m
              · have HF := Lib.hid (show firstB l t k (m + 1) = true by rw [HFY.out, hfb]; simp; omega)
                have j1 : (k : Int) ≤ (m : Int) := by omega
                clear hfb
                go_wp2
                go_quiet (fail)
                go_wp2_with (at_builtin; refine wpList_append_oneA (drewN_own hg _) (by exact hz) (.tmp 41) (.tmp 43) 26 Tryz.underlying26 info_int (by omega) (by unfold maxLen; omega) ⟨rfl, rfl, rfl, rfl, rfl, rfl⟩ rfl ?_; intro v10 w10 hg10 gr10 at10)
                go_roundw
                case rel => exact ⟨m + 1, by omega, by go_num, by rw [HF.out], by rw [HGY.out, List.length_append, ints_snoc]; exact hg10, (drewN_own hown _).kept gr10 (apart_or hown hg (by decide)), (rows_drewN hrows _).kept gr10 (rows_far (lo := 0) hg HVL.out), (bP.drewN _).grown gr10 (block_far hg (by omega)), below_grown (below_drewN hb _) gr10 (by exact hb.size) (drewN_own hg _) rfl (by omega), Nat.le_trans hz gr10.size⟩
                case measure => simp [intOf]; omega
              · have HF := Lib.hid (show firstB l t k (m + 1) = false by rw [HFY.out, hfb]; simp; omega)
                have j1 : ¬ (k : Int) ≤ (m : Int) := by omega
                clear hfb
                go_wp2
                go_quiet (fail)
                go_wp2_with (at_builtin; refine wpList_append_oneA (drewN_own hg _) (by exact hz) (.tmp 41) (.tmp 43) 26 Tryz.underlying26 info_int (by omega) (by unfold maxLen; omega) ⟨rfl, rfl, rfl, rfl, rfl, rfl⟩ rfl ?_; intro v10 w10 hg10 gr10 at10)
                go_roundw
                case rel => exact ⟨m + 1, by omega, by go_num, by rw [HF.out], by rw [HGY.out, List.length_append, ints_snoc]; exact hg10, (drewN_own hown _).kept gr10 (apart_or hown hg (by decide)), (rows_drewN hrows _).kept gr10 (rows_far (lo := 0) hg HVL.out), (bP.drewN _).grown gr10 (block_far hg (by omega)), below_grown (below_drewN hb _) gr10 (by exact hb.size) (drewN_own hg _) rfl (by omega), Nat.le_trans hz gr10.size⟩
                case measure => simp [intOf]; omega
          · have HGN := Lib.hid (dupG_no HY.out hut)
            have HFN := Lib.hid (firstB_no (i := k) HY.out hut)
            have e1 := str_other hut
            clear hut
            generalize hfb : firstB l t k m = fb at *
            have HFB := Lib.hid hfb
            clear hfb
            go_wp2
            go_quiet (fail)
            go_wp2
            go_roundw
            case rel => exact ⟨m + 1, by omega, by go_num, by rw [HFN.out], by rw [HGN.out]; exact drewN_own hg _, drewN_own hown _, rows_drewN hrows _, bP.drewN _, below_drewN hb _, hz⟩
            case measure => simp [intOf]; omega
        · obtain rfl : m = l.length := by omega
          obtain ⟨Ag, cg, rfl, -, -, -⟩ := (Own.of_row hg).slice
          cases hfb : firstB l t k l.length
          · have HND := Lib.hid (dupT_no HX.out (by simp [dupOk, hfb]))
            clear hfb
            go_wp2
            go_roundw
            case rel => exact ⟨k + 1, vs, by omega, by go_num, by rw [HND.out, HOS.out]; exact hown, by rw [HND.out, HOS.out]; exact hrows, bP, hb⟩
            case measure => simp [intOf]; omega
          · by_cases hlen : 1 < (dupG l t l.length).length
            · have HYD := Lib.hid (dupT_yes HX.out (by simp [dupOk, hfb, hlen]))
              have j1 : (1 : Int) < ((dupG l t l.length).length : Int) := by omega
              clear hfb
              go_wp2_with (at_builtin; refine wpList_append_oneA hown (by omega) (.tmp 57) (.tmp 59) 41 Tryz.underlying41 infos_int (by omega) (by unfold maxLen; omega) ⟨rfl, rfl, rfl, rfl, rfl, rfl⟩ (by simp) ?_; intro v10 w10 hown10 gr10 at10)
              have hrs := rows_put hown hrows hg hl1 HVL.out gr10
              go_roundw
              case rel => exact ⟨k + 1, _, by omega, by go_num, by rw [HYD.out, HOS.out, List.length_append]; exact hown10, by rw [HYD.out, HOS.out]; exact hrs, bP.grown gr10 (bP.ne_own hown (by decide)), below_grown hb gr10 hb.size hown rfl (by omega)⟩
              case measure => simp [intOf]; omega
            · have HND := Lib.hid (dupT_no HX.out (by simp [dupOk, hlen]))
              have j1 : ¬ (1 : Int) < ((dupG l t l.length).length : Int) := by omega
              clear hfb
              go_wp2
              go_roundw
              case rel => exact ⟨k + 1, vs, by omega, by go_num, by rw [HND.out, HOS.out]; exact hown, by rw [HND.out, HOS.out]; exact hrows, bP, hb⟩
              case measure => simp [intOf]; omega
    · obtain rfl : k = l.length := by omega
      go_wp2
      go_ret2
      exact rows_yes rfl hown hrows (by omega) hb
end Go.Proofs.YtekidodfcanjaaaGreatDoor
