/-
  The program's look-up of an outline.
-/
import Derived.Test.YtekidodfcanjaaaGreatDoorAtS
import Derived.Test.YtekidodfcanjaaaGreatDoorDictI
namespace Go.Proofs.YtekidodfcanjaaaGreatDoor
open Go.RowKit
set_option linter.unusedVariables false
set_option linter.unusedSimpArgs false
set_option maxRecDepth 100000

theorem impl_Equal (A B : Option Addr) (ca cb : Nat) (xs ys : List Int) (w : World) (hx : Reads w w.heap.size 1 A xs.length (ints xs)) (hy : Reads w w.heap.size 1 B ys.length (ints ys)) (hn : xs.length ≤ 1048576) (hm : ys.length ≤ 1048576) :
    Calls Tryz.prog 78 #[.slice A xs.length ca, .slice B ys.length cb] w fun e w' => e = .returned (.bool (decide (xs = ys))) ∧ ∃ q, w' = w.drewN q := by
  by_cases hl : xs.length = ys.length
  · by_cases h0 : xs.length = 0
    · have hx0 : xs = [] := List.eq_nil_of_length_eq_zero h0
      have hy0 : ys = [] := List.eq_nil_of_length_eq_zero (by omega)
      subst hx0 hy0
      refine (Tryz.slices_Equal_int_empty A B ca 0 cb w (by omega)).mono ?_
      rintro e w' ⟨rfl, rfl⟩
      exact ⟨by simp, 0, rfl⟩
    · obtain ⟨b, off, rfl, -, hc⟩ := hx.2 (by omega)
      obtain ⟨b', off', rfl, -, hc'⟩ := hy.2 (by omega)
      refine (Tryz.slices_Equal_int b off xs.length ca b' off' ys.length cb xs ys w (Nat.le_refl _) (Nat.le_refl _) (by omega) (by omega)
        (fun j hj => by obtain ⟨x, hx'⟩ := some_at xs hj; rw [hc j _ (ints_at xs hx'), List.getD_eq_getElem?_getD, hx']; rfl)
        (fun j hj => by obtain ⟨x, hx'⟩ := some_at ys hj; rw [hc' j _ (ints_at ys hx'), List.getD_eq_getElem?_getD, hx']; rfl)).mono ?_
      rintro e w' ⟨rfl, q, rfl⟩
      refine ⟨ret_bool ?_, q, rfl⟩
      rw [List.take_of_length_le (Nat.le_refl _), List.take_of_length_le (Nat.le_refl _)]
      rw [Bool.eq_iff_iff]; simp
  · refine (Tryz.slices_Equal_int_lens A B xs.length ca ys.length cb w hl).mono ?_
    rintro e w' ⟨rfl, rfl⟩
    exact ⟨ret_bool (ne_of_length hl), 0, rfl⟩

set_option maxHeartbeats 1000000 in
theorem find1_calls (A B : Option Addr) (co cb g : Nat) (p o : List Int) (u : ByteArray) (w : World) (hp : Reads w w.heap.size 1 A p.length (ints p)) (ho : Reads w w.heap.size 1 B o.length (ints o)) (hg : Box w g 26 (.slice B o.length cb)) (hn : p.length ≤ 1048576) (hm : o.length ≤ 1048576) :
    Calls Tryz.prog 87 #[.agg #[.slice A p.length co, .string u], .pointer (some ⟨g, 0, none⟩)] w fun e w' => e = .returned (.bool (decide (p = o))) ∧ Below w.heap.size w w' := by
  obtain ⟨W1, hW1⟩ : ∃ W1, W1 = w.alloc (.cells #[.slice A p.length co, .string u] 50) := ⟨_, rfl⟩
  have hb1 : Below w.heap.size w W1 := by rw [hW1]; exact (Below.refl _ _).alloc (Nat.le_refl _) _
  have t1 : Two W1 w.heap.size 50 (.slice A p.length co) (.string u) := by rw [hW1]; exact Two.new w _ _ _
  have g1 := hg.far hb1
  have c1 := t1.cell0
  have c2 := g1.cell
  have c3 := hg.cell
  have hgl := hg.lt
  have HE := Lib.hid (impl_Equal A B co cb p o W1 ((hp.below hb1).more hb1.size) ((ho.below hb1).more hb1.size) hn hm)
  go_enter Tryz.func87, Tryz.ntmps87
  go_wp2_with fail
  rw [← hW1]
  clear hW1
  refine HE.out.mono ?_
  rintro e w1 ⟨rfl, q, rfl⟩
  go_wp2
  go_ret
  exact ⟨rfl, below_drewN hb1 q⟩

set_option maxHeartbeats 2000000 in
theorem IndexFunc_ent (A B : Option Addr) (cap cb g : Nat) (l : List EntD) (o : List Int) (w : World) (hr : DictR w w.heap.size A l) (hv : dictB l = true) (ho : Reads w w.heap.size 1 B o.length (ints o)) (hg : Box w g 26 (.slice B o.length cb)) (hm : o.length ≤ 1048576) :
    Calls Tryz.prog 86 #[.slice A l.length cap, .func (.func 87) #[] #[.pointer (some ⟨g, 0, none⟩)]] w fun e w' => e = .returned (.int .i64 (findD l o)) ∧ Below w.heap.size w w' := by
  have h40 := dict_len hv
  have HV := Lib.hid hv
  have hin : ∀ args W, (callFunc 87 args).run Tryz.prog W = .ok (.enter 87 args) W := fun args W => run_enter Tryz.func87 (by kernel_rfl) rfl args W
  clear hv
  go_enter Tryz.func86, Tryz.ntmps86
  go_wp2
  go_loopw [8] (fun i wr => ∃ k : Nat, k ≤ l.length ∧ i = .int .i64 k ∧ (∀ (j : Nat) d, j < k → l[j]? = some d → d.1 ≠ o) ∧ Below w.heap.size w wr) (fun i _ => l.length - (intOf i).toNat)
  case atStart => exact ⟨0, Nat.zero_le _, rfl, fun j _ hj => absurd hj (Nat.not_lt_zero _), Below.refl _ _⟩
  case round =>
    obtain ⟨k, hk, rfl, hall, hb⟩ := hrel
    have HA := Lib.hid hall
    clear hall
    by_cases hlt : k < l.length
    · obtain ⟨b, off, rfl, hb0, hc⟩ := (hr.below hb) (by omega)
      obtain ⟨⟨p, u⟩, hy⟩ := some_at l hlt
      obtain ⟨ap, cp, d1, d2, r1, hcp, hcm⟩ := DictR.at_ hc hy
      have hpl := dict_out HV.out hy
      simp only at hpl
      have HY := Lib.hid hy
      have HF1 := Lib.hid (find1_calls ap B cp cb g p o u wr (r1.more hb.size) ((ho.below hb).more hb.size) (hg.far hb) (by omega) hm)
      have i0 : (0 : Int) ≤ (k : Int) := by omega
      have i1 : (k : Int) < (l.length : Int) := by omega
      clear hy hc r1
      by_cases he : p = o
      · have HE := Lib.hid (decide_eq_true he)
        have HF := Lib.hid (findD_at HY.out he (fun j d hj hd => HA.out j d hj hd))
        clear he
        go_wp2_with fail
        refine HF1.out.mono ?_
        rw [HE.out]
        rintro e w1 ⟨rfl, b1⟩
        go_wp2
        go_ret
        exact ⟨ret_int HF.out.symm, hb.trans (b1.mono hb.size)⟩
      · have HE := Lib.hid (decide_eq_false he)
        have HN := Lib.hid he
        clear he
        go_wp2_with fail
        refine HF1.out.mono ?_
        rw [HE.out]
        rintro e w1 ⟨rfl, b1⟩
        go_wp2
        go_roundw
        case rel => exact ⟨k + 1, by omega, by go_num, fun j d hj hd => by
          rcases Nat.lt_or_ge j k with h | h
          · exact HA.out j d h hd
          · obtain rfl : j = k := by omega
            rw [HY.out] at hd
            obtain rfl := Option.some.inj hd
            exact HN.out, hb.trans (b1.mono hb.size)⟩
        case measure => simp [intOf]; omega
    · obtain rfl : k = l.length := by omega
      have HF := Lib.hid (findD_no (l := l) (o := o) fun j d hd => HA.out j d (List.getElem?_eq_some_iff.1 hd).1 hd)
      clear hin
      go_wp2
      go_ret
      exact ⟨ret_int HF.out.symm, hb⟩

set_option maxHeartbeats 2000000 in
theorem impl_find (A B : Option Addr) (cap cb : Nat) (l : List EntD) (o : List Int) (w : World) (hr : DictR w w.heap.size A l) (hv : dictB l = true) (ho : Reads w w.heap.size 1 B o.length (ints o)) (hm : o.length ≤ 1048576) :
    Calls Tryz.prog 49 #[.agg #[.slice A l.length cap], .slice B o.length cb] w fun e w' => e = .returned (.int .i64 (findD l o)) ∧ Below w.heap.size w w' := by
  obtain ⟨W1, hW1⟩ : ∃ W1, W1 = w.alloc (.cells #[.slice A l.length cap] 31) := ⟨_, rfl⟩
  have hb1 : Below w.heap.size w W1 := by rw [hW1]; exact (Below.refl _ _).alloc (Nat.le_refl _) _
  have bP : Box W1 w.heap.size 31 (.slice A l.length cap) := by rw [hW1]; exact Box.new w _ _
  have hs1 : W1.heap.size = w.heap.size + 1 := by rw [hW1]; simp
  obtain ⟨W2, hW2⟩ : ∃ W2, W2 = W1.alloc (.cells #[.slice B o.length cb] 26) := ⟨_, rfl⟩
  have hb2 : Below w.heap.size w W2 := by rw [hW2]; exact hb1.alloc hb1.size _
  have bP2 : Box W2 w.heap.size 31 (.slice A l.length cap) := by rw [hW2]; exact bP.alloc _
  have bQ2 : Box W2 W1.heap.size 26 (.slice B o.length cb) := by rw [hW2]; exact Box.new W1 _ _
  have hmf : ∀ (fn : Fn) (first cap : Array Value) (w : World), (Instr.makeFunc fn first cap).run Tryz.prog w = .ok (.func fn first cap) w := fun _ _ _ _ => rfl
  have HI := Lib.hid (IndexFunc_ent A B cap cb W1.heap.size l o W2 ((hr.below hb2).more hb2.size) hv ((ho.below hb2).more hb2.size) bQ2 hm)
  have cP := bP2.cell
  clear hv bQ2 bP
  go_enter Tryz.func49, Tryz.ntmps49
  go_wp2_with fail
  rw [← hW1, ← hW2]
  rw [hs1] at HI
  refine HI.out.mono ?_
  rintro e w1 ⟨rfl, b1⟩
  have B1 := hb2.trans (b1.mono hb2.size)
  clear hmf hW1 hW2 cP
  go_wp2
  go_ret
  exact ⟨rfl, B1⟩

set_option maxHeartbeats 2000000 in
theorem impl_lookup (A B : Option Addr) (cap cb : Nat) (l : List EntD) (o : List Int) (w : World) (hr : DictR w w.heap.size A l) (hv : dictB l = true) (ho : Reads w w.heap.size 1 B o.length (ints o)) (hm : o.length ≤ 1048576) :
    Calls Tryz.prog 113 #[.agg #[.slice A l.length cap], .slice B o.length cb] w fun e w' => e = .returned (lookV l o) ∧ Below w.heap.size w w' := by
  obtain ⟨W1, hW1⟩ : ∃ W1, W1 = w.alloc (.cells #[.slice A l.length cap] 31) := ⟨_, rfl⟩
  have hb1 : Below w.heap.size w W1 := by rw [hW1]; exact (Below.refl _ _).alloc (Nat.le_refl _) _
  have bP : Box W1 w.heap.size 31 (.slice A l.length cap) := by rw [hW1]; exact Box.new w _ _
  have h40 := dict_len hv
  have HV := Lib.hid hv
  have cP := bP.cell
  clear hv
  go_enter Tryz.func113, Tryz.ntmps113
  go_wp2_with fail
  rw [← hW1]
  clear hW1
  refine (impl_find A B cap cb l o _ ((hr.below hb1).more hb1.size) HV.out ((ho.below hb1).more hb1.size) hm).mono ?_
  rintro e w2 ⟨rfl, b2⟩
  have B2 := hb1.trans (b2.mono hb1.size)
  have bP2 := bP.far b2
  have cP2 := bP2.cell
  clear cP bP b2
  rcases findD_cases l o with ⟨h1, -⟩ | ⟨k, c, h1, h2, h3⟩
  · have HL := Lib.hid (lookV_none (lookD_none h1))
    rw [h1]
    clear h1
    go_wp2
    go_ret2
    exact ⟨congrArg Ending.returned HL.out.symm, B2⟩
  · have HL := Lib.hid (lookV_some (lookD_some h1 h2))
    obtain ⟨b, off, rfl, hb0, hc⟩ := (hr.below B2) (by have := (List.getElem?_eq_some_iff.1 h2).1; omega)
    obtain ⟨ap, cp, -, d2, -, -, -⟩ := DictR.at_ hc h2
    have hkl := (List.getElem?_eq_some_iff.1 h2).1
    rw [h1]
    have i0 : (0 : Int) ≤ (k : Int) := by omega
    have i1 : (k : Int) < (l.length : Int) := by omega
    have i2 : ¬ (k : Int) < 0 := by omega
    clear h1 h2 h3 hc
    go_wp2
    go_ret2
    exact ⟨congrArg Ending.returned HL.out.symm, B2⟩

theorem impl_isMatched (A B : Option Addr) (cap cb : Nat) (l : List EntD) (zs : List Int) (w : World) (hr : DictR w w.heap.size A l) (hn : l.length ≤ 1048576) (hs : ShortD l) (hmx : MaxOk w) (hz : Reads w w.heap.size 1 B zs.length (ints zs)) (hzn : zs.length ≤ 1048576) :
    Calls Tryz.prog 55 #[.agg #[.slice A l.length cap], .slice B zs.length cb] w fun e w' => e = .returned (.bool (dictB l && strokesB zs)) ∧ Below w.heap.size w w' := by
  obtain ⟨W1, hW1⟩ : ∃ W1, W1 = w.alloc (.cells #[.slice A l.length cap] 31) := ⟨_, rfl⟩
  have hb1 : Below w.heap.size w W1 := by rw [hW1]; exact (Below.refl _ _).alloc (Nat.le_refl _) _
  have bP : Box W1 w.heap.size 31 (.slice A l.length cap) := by rw [hW1]; exact Box.new w _ _
  have cP := bP.cell
  have HZ := Lib.hid hz
  clear hz
  cases hv : dictB l
  · have HV := Lib.hid hv
    clear hv
    go_enter Tryz.func55, Tryz.ntmps55
    go_wp2_with fail
    rw [← hW1]
    clear hW1
    refine (impl_IsValidDictionary A cap l _ ((hr.below hb1).more hb1.size) hn hs (hmx.below hb1)).mono ?_
    rw [HV.out]
    rintro e w3 ⟨rfl, b3⟩
    go_wp2
    go_ret
    exact ⟨ret_bool (by simp), hb1.trans (b3.mono hb1.size)⟩
  · have HV := Lib.hid hv
    clear hv
    go_enter Tryz.func55, Tryz.ntmps55
    go_wp2_with fail
    rw [← hW1]
    clear hW1
    refine (impl_IsValidDictionary A cap l _ ((hr.below hb1).more hb1.size) hn hs (hmx.below hb1)).mono ?_
    rw [HV.out]
    rintro e w3 ⟨rfl, b3⟩
    have B3 := hb1.trans (b3.mono hb1.size)
    go_wp2_with fail
    refine (impl_isStrokeList B cb zs _ ((HZ.out.below B3).more B3.size) hzn).mono ?_
    rintro e w4 ⟨rfl, b4⟩
    go_wp2
    go_ret
    exact ⟨ret_bool (by simp), B3.trans (b4.mono B3.size)⟩
end Go.Proofs.YtekidodfcanjaaaGreatDoor
