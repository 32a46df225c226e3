/-
  The reference's look-up of an outline, and the joining of two lists of strokes.
-/
import Derived.Test.YtekidodfcanjaaaGreatDoorDictPl
import Derived.Test.YtekidodfcanjaaaGreatDoorBegins
import Derived.Test.YtekidodfcanjaaaGreatDoorDictS
namespace Go.Proofs.YtekidodfcanjaaaGreatDoor
open Go.RowKit
set_option linter.unusedVariables false
set_option linter.unusedSimpArgs false
set_option maxRecDepth 100000

set_option maxHeartbeats 2000000 in
theorem spec_l6At (A B : Option Addr) (cap cb : Nat) (l : List EntD) (o : List Int) (w : World) (hr : DictR w w.heap.size A l) (hv : dictB l = true) (ho : Reads w w.heap.size 1 B o.length (ints o)) :
    Calls Tryz.prog 51 #[.agg #[.slice A l.length cap], .slice B o.length cb] w fun e w' => e = .returned (.int .i64 (findD l o)) ∧ Below w.heap.size w w' := by
  obtain ⟨W1, hW1⟩ : ∃ W1, W1 = w.alloc (.cells #[.slice A l.length cap] 31) := ⟨_, rfl⟩
  have hb1 : Below w.heap.size w W1 := by rw [hW1]; exact (Below.refl _ _).alloc (Nat.le_refl _) _
  have bP : Box W1 w.heap.size 31 (.slice A l.length cap) := by rw [hW1]; exact Box.new w _ _
  have h40 := dict_len hv
  have HV := Lib.hid hv
  clear hv
  go_enter Tryz.func51, Tryz.ntmps51
  go_wp2
  rw [← hW1]
  clear hW1
  go_loopw [5] (fun i wr => ∃ k : Nat, k ≤ l.length ∧ i = .int .i64 k ∧ (∀ (j : Nat) d, j < k → l[j]? = some d → d.1 ≠ o) ∧ Box wr w.heap.size 31 (.slice A l.length cap) ∧ Below w.heap.size w wr) (fun i _ => l.length - (intOf i).toNat)
  case atStart => exact ⟨0, Nat.zero_le _, rfl, fun j _ hj => absurd hj (Nat.not_lt_zero _), bP, hb1⟩
  case round =>
    obtain ⟨k, hk, rfl, hall, bP, hb⟩ := hrel
    have HA := Lib.hid hall
    have cP := bP.cell
    clear hall
    by_cases hlt : k < l.length
    · obtain ⟨b, off, rfl, hb0, hc⟩ := (hr.below hb) (by omega)
      obtain ⟨⟨p, u⟩, hy⟩ := some_at l hlt
      obtain ⟨ap, cp, d1, -, r1, hcp, hcm⟩ := DictR.at_ hc hy
      have hpl := dict_out HV.out hy
      simp only at hpl
      have HY := Lib.hid hy
      have R1 := Lib.hid (r1.more hb.size)
      have R2 := Lib.hid ((ho.below hb).more hb.size)
      have i0 : (0 : Int) ≤ (k : Int) := by omega
      have i1 : (k : Int) < (l.length : Int) := by omega
      clear hy hc r1
      by_cases he : p = o
      · have HE := Lib.hid (decide_eq_true he)
        have HF := Lib.hid (findD_at HY.out he (fun j d hj hd => HA.out j d hj hd))
        clear he
        go_wp2_with fail
        refine (spec_l1Same ap B cp cb p o _ R1.out R2.out (by omega)).mono ?_
        rw [HE.out]
        rintro e w1 ⟨rfl, b1⟩
        go_wp2
        go_ret
        exact ⟨ret_int HF.out.symm, hb.trans (b1.mono hb.size)⟩
      · have HE := Lib.hid (decide_eq_false he)
        have HN := Lib.hid he
        clear he
        go_wp2_with fail
        refine (spec_l1Same ap B cp cb p o _ R1.out R2.out (by omega)).mono ?_
        rw [HE.out]
        rintro e w1 ⟨rfl, b1⟩
        go_wp2
        go_roundw
        case rel => exact ⟨k + 1, by omega, by go_num, fun j d hj hd => by
          rcases Nat.lt_or_ge j k with h | h
          · exact HA.out j d h hd
          · obtain rfl : j = k := by omega
            rw [HY.out] at hd
            obtain rfl := Option.some.inj hd
            exact HN.out, bP.far b1, hb.trans (b1.mono hb.size)⟩
        case measure => simp [intOf]; omega
    · obtain rfl : k = l.length := by omega
      have HF := Lib.hid (findD_no (l := l) (o := o) fun j d hd => HA.out j d (List.getElem?_eq_some_iff.1 hd).1 hd)
      go_wp2
      go_ret
      exact ⟨ret_int HF.out.symm, hb⟩

/-- The value that a look-up returns. -/
def lookV (l : List EntD) (o : List Int) : Value := match lookD l o with
  | some t => .tuple #[.string t, .bool true]
  | none => .tuple #[.string ⟨#[]⟩, .bool false]
theorem lookV_some {l : List EntD} {o : List Int} {t : ByteArray} (h : lookD l o = some t) : lookV l o = .tuple #[.string t, .bool true] := by simp [lookV, h]
theorem lookV_none {l : List EntD} {o : List Int} (h : lookD l o = none) : lookV l o = .tuple #[.string ⟨#[]⟩, .bool false] := by simp [lookV, h]
set_option maxHeartbeats 2000000 in
theorem spec_l6Find (A B : Option Addr) (cap cb : Nat) (l : List EntD) (o : List Int) (w : World) (hr : DictR w w.heap.size A l) (hv : dictB l = true) (ho : Reads w w.heap.size 1 B o.length (ints o)) :
    Calls Tryz.prog 114 #[.agg #[.slice A l.length cap], .slice B o.length cb] w fun e w' => e = .returned (lookV l o) ∧ Below w.heap.size w w' := by
  obtain ⟨W1, hW1⟩ : ∃ W1, W1 = w.alloc (.cells #[.slice A l.length cap] 31) := ⟨_, rfl⟩
  have hb1 : Below w.heap.size w W1 := by rw [hW1]; exact (Below.refl _ _).alloc (Nat.le_refl _) _
  have bP : Box W1 w.heap.size 31 (.slice A l.length cap) := by rw [hW1]; exact Box.new w _ _
  have h40 := dict_len hv
  have HV := Lib.hid hv
  have cP := bP.cell
  clear hv
  go_enter Tryz.func114, Tryz.ntmps114
  go_wp2_with fail
  rw [← hW1]
  clear hW1
  refine (spec_l6At A B cap cb l o _ ((hr.below hb1).more hb1.size) HV.out ((ho.below hb1).more hb1.size)).mono ?_
  rintro e w2 ⟨rfl, b2⟩
  have B2 := hb1.trans (b2.mono hb1.size)
  have bP2 := bP.far b2
  have cP2 := bP2.cell
  clear cP bP b2
  rcases findD_cases l o with ⟨h1, -⟩ | ⟨k, c, h1, h2, h3⟩
  · have HL := Lib.hid (lookV_none (lookD_none h1))
    rw [h1]
    clear h1
    go_wp2
    go_ret2
    exact ⟨congrArg Ending.returned HL.out.symm, B2⟩
  · have HL := Lib.hid (lookV_some (lookD_some h1 h2))
    obtain ⟨b, off, rfl, hb0, hc⟩ := (hr.below B2) (by have := (List.getElem?_eq_some_iff.1 h2).1; omega)
    obtain ⟨ap, cp, -, d2, -, -, -⟩ := DictR.at_ hc h2
    have hkl := (List.getElem?_eq_some_iff.1 h2).1
    rw [h1]
    have i0 : (0 : Int) ≤ (k : Int) := by omega
    have i1 : (k : Int) < (l.length : Int) := by omega
    have i2 : ¬ (k : Int) < 0 := by omega
    clear h1 h2 h3 hc
    go_wp2
    go_ret2
    exact ⟨congrArg Ending.returned HL.out.symm, B2⟩

/-- Two lists joined, in new memory. -/
def Joined (xs ys : List Int) (w : World) (e : Ending) (w' : World) : Prop := ∃ v, e = .returned v ∧ Own w' w.heap.size w'.heap.size 3 1 v (xs ++ ys).length (ints (xs ++ ys)) ∧ Below w.heap.size w w'
set_option maxHeartbeats 2000000 in
theorem spec_l22Join (A B : Option Addr) (ca cb : Nat) (xs ys : List Int) (w : World) (hx : Reads w w.heap.size 1 A xs.length (ints xs)) (hy : Reads w w.heap.size 1 B ys.length (ints ys)) (hn : xs.length ≤ 1048576) (hm : ys.length ≤ 1048576) :
    Calls Tryz.prog 52 #[.slice A xs.length ca, .slice B ys.length cb] w (Joined xs ys w) := by
  have ba := (Below.refl w.heap.size w).alloc (Nat.le_refl _) (.cells #[] 3)
  have own0 : (w.alloc (.cells #[] 3)).ownsRow w.heap.size 3 1 (.slice (some ⟨w.heap.size, 0, none⟩) 0 0) 0 [] := World.ownsRow_made _ _ _ (Nat.le_refl _) (by simp) rfl
  have hzx : w.heap.size ≤ (w.alloc (.cells #[] 3)).heap.size := by simp
  have hx1 := hx.below ba
  have HY := Lib.hid hy
  have h1 : ∀ zs : List Int, ∀ u ∈ ints zs, u.oneCell' = true := fun zs u hu => by obtain ⟨z, _, rfl⟩ := List.mem_map.1 hu; rfl
  have H1 := Lib.hid h1
  clear h1 hy
  go_enter Tryz.func52, Tryz.ntmps52
  go_wp2_with (first | (at_builtin; refine wpList_append_src own0 hzx hx1 (H1.out xs) (.tmp 5) (.tmp 6) 26 Tryz.underlying26 info_int (by omega) (by unfold maxLen; omega) ⟨rfl, rfl, rfl, rfl, rfl, by decide⟩ ?_; intro v2 w2 own2 b2; have B2 := ba.trans b2; have hy2 := HY.out.below B2) | (at_builtin; refine wpList_append_src own2 B2.size hy2 (H1.out ys) (.tmp 7) (.tmp 8) 26 Tryz.underlying26 info_int (by omega) (by unfold maxLen; omega) ⟨rfl, rfl, rfl, rfl, rfl, by decide⟩ ?_; intro v3 w3 own3 b3))
  go_ret
  have B3 := B2.trans b3
  simp only [Nat.zero_add, List.nil_append] at own3
  refine ⟨v3, rfl, ?_, B3⟩
  have e1 : ints (xs ++ ys) = ints xs ++ ints ys := by simp [ints]
  rw [e1, List.length_append]
  exact Own.of_row own3
end Go.Proofs.YtekidodfcanjaaaGreatDoor
