/-
  The law's equality of indexes.
-/
import Derived.Test.YthokekgdiebhjaaDoorIdxM
import Derived.Test.YthokekgdiebhjaaDoorBase
import Derived.Test.YthokekgdiebhjaaDoorInts
import Derived.StillTailTactics
namespace Go.Proofs.YthokekgdiebhjaaDoor
open Go.RowKit
set_option linter.unusedVariables false
set_option linter.unusedSimpArgs false
set_option maxRecDepth 100000

set_option maxHeartbeats 1000000 in
theorem eqIndexEntry_calls (A B : Option Addr) (ca cb : Nat) (c d : IdxD) (w : World) (hx : Reads w w.heap.size 1 A c.2.length (ints c.2)) (hy : Reads w w.heap.size 1 B d.2.length (ints d.2)) (hn : c.2.length ≤ 1048576) :
    Calls Tryd.prog 39 #[.agg #[.string c.1, .slice A c.2.length ca], .agg #[.string d.1, .slice B d.2.length cb]] w fun e' w' => e' = .returned (.bool (decide (c = d))) ∧ Below w.heap.size w w' := by
  obtain ⟨t, o⟩ := c
  obtain ⟨u, p⟩ := d
  simp only at hx hy hn ⊢
  obtain ⟨W1, hW1⟩ : ∃ W1, W1 = (w.alloc (.cells #[.string t, .slice A o.length ca] 33)).alloc (.cells #[.string u, .slice B p.length cb] 33) := ⟨_, rfl⟩
  have hb0 : Below w.heap.size w W1 := by rw [hW1]; exact ((Below.refl _ _).alloc (Nat.le_refl _) _).alloc (by simp) _
  by_cases h3 : t = u
  · by_cases h1 : o = p
    · have HE := Lib.hid (decide_eq_true h1)
      have HR := Lib.hid (show true = decide ((t, o) = (u, p)) by rw [h1, h3]; simp)
      have h4 : (t.toList == u.toList) = true := by rw [str_beq, decide_eq_true h3]
      clear h1 h3
      go_enter Tryd.func39, Tryd.ntmps39
      go_wp2_with fail
      rw [← hW1]
      clear hW1
      refine (eqIntS_calls A B ca cb o p _ ((hx.below hb0).more hb0.size) ((hy.below hb0).more hb0.size) hn).mono ?_
      rw [HE.out]
      rintro e w1 ⟨rfl, b1⟩
      have b2 := hb0.trans (b1.mono hb0.size)
      go_wp2
      go_ret
      exact ⟨ret_bool HR.out, b2⟩
    · have HE := Lib.hid (decide_eq_false h1)
      have HR := Lib.hid (show false = decide ((t, o) = (u, p)) by rw [eq_comm]; exact decide_eq_false (fun e => h1 (Prod.mk.inj e).2))
      have h4 : (t.toList == u.toList) = true := by rw [str_beq, decide_eq_true h3]
      clear h1 h3
      go_enter Tryd.func39, Tryd.ntmps39
      go_wp2_with fail
      rw [← hW1]
      clear hW1
      refine (eqIntS_calls A B ca cb o p _ ((hx.below hb0).more hb0.size) ((hy.below hb0).more hb0.size) hn).mono ?_
      rw [HE.out]
      rintro e w1 ⟨rfl, b1⟩
      have b2 := hb0.trans (b1.mono hb0.size)
      go_wp2
      go_ret
      exact ⟨ret_bool HR.out, b2⟩
  · have HR := Lib.hid (show false = decide ((t, o) = (u, p)) by rw [eq_comm]; exact decide_eq_false (fun e => h3 (Prod.mk.inj e).1))
    have h4 : (t.toList == u.toList) = false := by rw [str_beq, decide_eq_false h3]
    have HB := Lib.hid (((Below.refl w.heap.size w).alloc (Nat.le_refl _) (.cells #[.string t, .slice A o.length ca] 33)).alloc (by simp) (.cells #[.string u, .slice B p.length cb] 33))
    clear h3 hb0 hW1
    go_enter Tryd.func39, Tryd.ntmps39
    go_wp2
    go_ret
    exact ⟨ret_bool HR.out, HB.out⟩

set_option maxHeartbeats 2000000 in
theorem eqIndexEntryS_calls (lo lo' : Nat) (v v' : Value) (xs ys : List IdxD) (w : World) (hx : IdxS lo w v xs) (hy : IdxS lo' w v' ys) (hs : ∀ c ∈ xs, c.2.length ≤ 1048576) :
    Calls Tryd.prog 15 #[v, v'] w fun e w' => e = .returned (.bool (decide (xs = ys))) ∧ Below w.heap.size w w' := by
  obtain ⟨A, ca, rfl, hca, hcm⟩ := hx.slice
  obtain ⟨B, cb, rfl, hcb, hcm'⟩ := hy.slice
  unfold maxLen at hcm hcm'
  have HS := Lib.hid hs
  clear hs
  by_cases hl : xs.length = ys.length
  · have h2 : ((xs.length : Int) != (ys.length : Int)) = false := by rw [hl]; simp
    have HL := Lib.hid hl
    clear hl
    go_enter Tryd.func15, Tryd.ntmps15
    go_wp2
    go_loopw [5] (fun i wr => ∃ k : Nat, k ≤ xs.length ∧ i = .int .i64 k ∧ (∀ j, j < k → xs[j]? = ys[j]?) ∧ Below w.heap.size w wr)
      (fun i _ => xs.length - (intOf i).toNat)
    case atStart => exact ⟨0, Nat.zero_le _, rfl, fun j hj => absurd hj (Nat.not_lt_zero _), Below.refl _ _⟩
    case round =>
      obtain ⟨k, hk, rfl, hall, hb⟩ := hrel
      have HA := Lib.hid hall
      clear hall
      by_cases hlt : k < xs.length
      · have hlt2 : k < ys.length := by have := HL.out; omega
        obtain ⟨b, cap1, hv1, -, -, -, -, -, hc⟩ := (hx.far hb).open_ (by omega)
        injection hv1 with hv1a _ hv1c
        subst hv1a hv1c
        obtain ⟨b', cap2, hv2, -, -, -, -, -, hc'⟩ := (hy.far hb).open_ (by omega)
        injection hv2 with hv2a _ hv2c
        subst hv2a hv2c
        obtain ⟨⟨t, o⟩, hxk⟩ := some_at xs hlt
        obtain ⟨⟨u, p⟩, hyk⟩ := some_at ys hlt2
        obtain ⟨z1, c1, c2, ro1⟩ := hc k _ hxk
        obtain ⟨z2, d1, d2, ro2⟩ := hc' k _ hyk
        simp only at c1 c2 ro1 d1 d2 ro2
        obtain ⟨ao, co, hz1, r1, -, -⟩ := (Own.of_row ro1).slice
        obtain ⟨ap, cp, hz2, r2, -, -⟩ := (Own.of_row ro2).slice
        subst hz1 hz2
        have hsl := HS.out _ (List.mem_of_getElem? hxk)
        simp only at hsl
        have R1 := Lib.hid (r1.drew)
        have R2 := Lib.hid (r2.drew)
        have HX := Lib.hid hxk
        have HY := Lib.hid hyk
        have i1 : (k : Int) < (xs.length : Int) := by omega
        have i2 : (k : Int) < (ys.length : Int) := by omega
        have i0 : (0 : Int) ≤ (k : Int) := by omega
        clear hxk hyk hc hc' r1 r2 ro1 ro2
        by_cases hxy : (t, o) = (u, p)
        · have E := Lib.hid (decide_eq_true hxy)
          have EQ := Lib.hid hxy
          clear hxy
          go_wp2
          go_still_tail 8, (by kernel_rfl)
          go_wp2_with fail
          refine (eqIndexEntry_calls ao ap co cp (t, o) (u, p) _ R1.out R2.out hsl).mono ?_
          rw [E.out]
          rintro e w1 ⟨rfl, hb1⟩
          go_wp2
          go_roundw
          case rel => exact ⟨k + 1, by omega, by go_num, fun j hj => by
            rcases Nat.lt_or_ge j k with h | h
            · exact HA.out j h
            · rw [show j = k by omega, HX.out, HY.out, EQ.out], hb.drew.trans (hb1.mono (by exact hb.size))⟩
          case measure => simp [intOf]; omega
        · have E := Lib.hid (decide_eq_false hxy)
          have HN := Lib.hid (ne_of_at HX.out HY.out hxy)
          clear hxy
          go_wp2
          go_still_tail 8, (by kernel_rfl)
          go_wp2_with fail
          refine (eqIndexEntry_calls ao ap co cp (t, o) (u, p) _ R1.out R2.out hsl).mono ?_
          rw [E.out]
          rintro e w1 ⟨rfl, hb1⟩
          go_wp2
          go_ret
          exact ⟨ret_bool HN.out, hb.drew.trans (hb1.mono (by exact hb.size))⟩
      · obtain rfl : k = xs.length := by omega
        go_wp2
        go_ret
        exact ⟨ret_bool (eq_of_all HL.out HA.out), hb⟩
  · have h2 : ((xs.length : Int) != (ys.length : Int)) = true := by simp; omega
    have HL := Lib.hid hl
    clear hl
    go_enter Tryd.func15, Tryd.ntmps15
    go_wp2
    go_ret
    exact ⟨ret_bool (ne_of_length HL.out), Below.refl _ _⟩
end Go.Proofs.YthokekgdiebhjaaDoor
