/-
  The laws' helpers over dictionaries: equality.
-/
import Derived.Test.YtekidodfcanjaaaDoorDictSz
import Derived.Test.YtekidodfcanjaaaDoorInts
import Derived.StillTailTactics
namespace Go.Proofs.YtekidodfcanjaaaDoor
open Go.RowKit
set_option linter.unusedVariables false
set_option maxRecDepth 100000

theorem eqEntry_calls (A B : Option Addr) (ca cb : Nat) (c d : EntD) (w : World) (hx : Reads w w.heap.size 1 A c.1.length (ints c.1)) (hy : Reads w w.heap.size 1 B d.1.length (ints d.1)) (hn : c.1.length ≤ 1048576) :
    Calls Tryd.prog 34 #[.agg #[.slice A c.1.length ca, .string c.2], .agg #[.slice B d.1.length cb, .string d.2]] w fun e' w' => e' = .returned (.bool (decide (c = d))) ∧ Below w.heap.size w w' := by
  obtain ⟨o, t⟩ := c
  obtain ⟨p, u⟩ := d
  simp only at hx hy hn ⊢
  have hb0 : Below w.heap.size w ((w.alloc (.cells #[.slice A o.length ca, .string t] 46)).alloc (.cells #[.slice B p.length cb, .string u] 46)) := ((Below.refl _ _).alloc (Nat.le_refl _) _).alloc (by simp) _
  obtain ⟨W1, hW1⟩ : ∃ W1, W1 = (w.alloc (.cells #[.slice A o.length ca, .string t] 46)).alloc (.cells #[.slice B p.length cb, .string u] 46) := ⟨_, rfl⟩
  rw [← hW1] at hb0
  have k1 : W1.cell? ⟨w.heap.size, 1, none⟩ = some (.string t) := by rw [hW1]; simp [World.cell?_alloc_at, World.cell?_alloc_past]
  have k2 : W1.cell? ⟨w.heap.size + 1, 1, none⟩ = some (.string u) := by rw [hW1]; simp [World.cell?_alloc_at]
  have ks : W1.heap.size = w.heap.size + 2 := by rw [hW1]; simp
  have K1 := Lib.hid k1
  have K2 := Lib.hid k2
  have KS := Lib.hid ks
  clear k1 k2 ks
  by_cases h1 : o = p
  · have HE := Lib.hid (decide_eq_true h1)
    by_cases h3 : t = u
    · have HR := Lib.hid (show true = decide ((o, t) = (p, u)) by rw [h1, h3]; simp)
      have h4 : (t.toList == u.toList) = true := by rw [str_beq, decide_eq_true h3]
      have H3 := Lib.hid h3
      clear h1 h3
      go_enter Tryd.func34, Tryd.ntmps34
      go_wp2_with fail
      rw [← hW1]
      clear hW1
      refine (eqIntS_calls A B ca cb o p _ ((hx.below hb0).more hb0.size) ((hy.below hb0).more hb0.size) hn).mono ?_
      rw [HE.out]
      rintro e w1 ⟨rfl, b1⟩
      have b2 := hb0.trans (b1.mono hb0.size)
      have e1 := (b1.cell (p := ⟨w.heap.size, 1, none⟩) (by have := KS.out; simp; omega)).trans K1.out
      have e2 := (b1.cell (p := ⟨w.heap.size + 1, 1, none⟩) (by have := KS.out; simp; omega)).trans K2.out
      go_wp2
      go_ret
      exact ⟨ret_bool HR.out, b2⟩
    · have HR := Lib.hid (show false = decide ((o, t) = (p, u)) by rw [eq_comm]; exact decide_eq_false (fun e => h3 (Prod.mk.inj e).2))
      have h4 : (t.toList == u.toList) = false := by rw [str_beq, decide_eq_false h3]
      have H3 := Lib.hid h3
      clear h1 h3
      go_enter Tryd.func34, Tryd.ntmps34
      go_wp2_with fail
      rw [← hW1]
      clear hW1
      refine (eqIntS_calls A B ca cb o p _ ((hx.below hb0).more hb0.size) ((hy.below hb0).more hb0.size) hn).mono ?_
      rw [HE.out]
      rintro e w1 ⟨rfl, b1⟩
      have b2 := hb0.trans (b1.mono hb0.size)
      have e1 := (b1.cell (p := ⟨w.heap.size, 1, none⟩) (by have := KS.out; simp; omega)).trans K1.out
      have e2 := (b1.cell (p := ⟨w.heap.size + 1, 1, none⟩) (by have := KS.out; simp; omega)).trans K2.out
      go_wp2
      go_ret
      exact ⟨ret_bool HR.out, b2⟩
  · have HE := Lib.hid (decide_eq_false h1)
    have HR := Lib.hid (show false = decide ((o, t) = (p, u)) by rw [eq_comm]; exact decide_eq_false (fun e => h1 (Prod.mk.inj e).1))
    clear h1
    go_enter Tryd.func34, Tryd.ntmps34
    go_wp2_with fail
    rw [← hW1]
    clear hW1
    refine (eqIntS_calls A B ca cb o p _ ((hx.below hb0).more hb0.size) ((hy.below hb0).more hb0.size) hn).mono ?_
    rw [HE.out]
    rintro e w1 ⟨rfl, b1⟩
    have b2 := hb0.trans (b1.mono hb0.size)
    go_wp2
    go_ret
    exact ⟨ret_bool HR.out, b2⟩

set_option maxHeartbeats 1000000 in
theorem eqEntryS_calls (A B : Option Addr) (ca cb : Nat) (xs ys : List EntD) (w : World) (hx : DictR w w.heap.size A xs) (hy : DictR w w.heap.size B ys) (hn : xs.length ≤ 1048576) (hs : ShortD xs) :
    Calls Tryd.prog 15 #[.slice A xs.length ca, .slice B ys.length cb] w fun e w' => e = .returned (.bool (decide (xs = ys))) ∧ Below w.heap.size w w' := by
  have HS := Lib.hid hs
  clear hs
  by_cases hl : xs.length = ys.length
  · have h2 : ((xs.length : Int) != (ys.length : Int)) = false := by rw [hl]; simp
    have HL := Lib.hid hl
    clear hl
    go_enter Tryd.func15, Tryd.ntmps15
    go_wp2
    go_loopw [5] (fun i wr => ∃ k : Nat, k ≤ xs.length ∧ i = .int .i64 k ∧ (∀ j, j < k → xs[j]? = ys[j]?) ∧ Below w.heap.size w wr)
      (fun i _ => xs.length - (intOf i).toNat)
    case atStart => exact ⟨0, Nat.zero_le _, rfl, fun j hj => absurd hj (Nat.not_lt_zero _), Below.refl _ _⟩
    case round =>
      obtain ⟨k, hk, rfl, hall, hb⟩ := hrel
      have HA := Lib.hid hall
      clear hall
      by_cases hlt : k < xs.length
      · have hlt2 : k < ys.length := by have := HL.out; omega
        obtain ⟨b, off, rfl, hb0, hc⟩ := (hx.below hb) (by omega)
        obtain ⟨b', off', rfl, hb0', hc'⟩ := (hy.below hb) (by omega)
        obtain ⟨⟨o, t⟩, hxk⟩ := some_at xs hlt
        obtain ⟨⟨p, u⟩, hyk⟩ := some_at ys hlt2
        obtain ⟨ao, co, c1, c2, r1, -, -⟩ := DictR.at_ hc hxk
        obtain ⟨ap, cp, d1, d2, r2, -, -⟩ := DictR.at_ hc' hyk
        have hsl := (HS.out _ (List.mem_of_getElem? hxk)).1
        simp only at hsl
        have R1 := Lib.hid ((r1.more hb.size).drew)
        have R2 := Lib.hid ((r2.more hb.size).drew)
        have HX := Lib.hid hxk
        have HY := Lib.hid hyk
        have i1 : (k : Int) < (xs.length : Int) := by omega
        have i2 : (k : Int) < (ys.length : Int) := by omega
        have i0 : (0 : Int) ≤ (k : Int) := by omega
        clear hxk hyk hc hc' r1 r2
        by_cases hxy : (o, t) = (p, u)
        · have E := Lib.hid (decide_eq_true hxy)
          have EQ := Lib.hid hxy
          clear hxy
          go_wp2
          go_still_tail 8, (by kernel_rfl)
          go_wp2_with fail
          refine (eqEntry_calls ao ap co cp (o, t) (p, u) _ R1.out R2.out hsl).mono ?_
          rw [E.out]
          rintro e w1 ⟨rfl, hb1⟩
          go_wp2
          go_roundw
          case rel => exact ⟨k + 1, by omega, by go_num, fun j hj => by
            rcases Nat.lt_or_ge j k with h | h
            · exact HA.out j h
            · rw [show j = k by omega, HX.out, HY.out, EQ.out], hb.drew.trans (hb1.mono (by exact hb.size))⟩
          case measure => simp [intOf]; omega
        · have E := Lib.hid (decide_eq_false hxy)
          have HN := Lib.hid (ne_of_at HX.out HY.out hxy)
          clear hxy
          go_wp2
          go_still_tail 8, (by kernel_rfl)
          go_wp2_with fail
          refine (eqEntry_calls ao ap co cp (o, t) (p, u) _ R1.out R2.out hsl).mono ?_
          rw [E.out]
          rintro e w1 ⟨rfl, hb1⟩
          go_wp2
          go_ret
          exact ⟨ret_bool HN.out, hb.drew.trans (hb1.mono (by exact hb.size))⟩
      · obtain rfl : k = xs.length := by omega
        go_wp2
        go_ret
        exact ⟨ret_bool (eq_of_all HL.out HA.out), hb⟩
  · have h2 : ((xs.length : Int) != (ys.length : Int)) = true := by simp; omega
    have HL := Lib.hid hl
    clear hl
    go_enter Tryd.func15, Tryd.ntmps15
    go_wp2
    go_ret
    exact ⟨ret_bool (ne_of_length HL.out), Below.refl _ _⟩
theorem eqDictionary_calls (A B : Option Addr) (ca cb : Nat) (xs ys : List EntD) (w : World) (hx : DictR w w.heap.size A xs) (hy : DictR w w.heap.size B ys) (hn : xs.length ≤ 1048576) (hs : ShortD xs) :
    Calls Tryd.prog 8 #[.agg #[.slice A xs.length ca], .agg #[.slice B ys.length cb]] w fun e w' => e = .returned (.bool (decide (xs = ys))) ∧ Below w.heap.size w w' := by
  have hb0 : Below w.heap.size w ((w.alloc (.cells #[.slice A xs.length ca] 30)).alloc (.cells #[.slice B ys.length cb] 30)) := ((Below.refl _ _).alloc (Nat.le_refl _) _).alloc (by simp) _
  have HS := Lib.hid hs
  clear hs
  by_cases hxy : xs = ys
  · have E := Lib.hid (decide_eq_true hxy)
    clear hxy
    rw [E.out]
    go_enter Tryd.func8, Tryd.ntmps8
    go_wp2_with fail
    refine (eqEntryS_calls A B ca cb xs ys _ ((hx.below hb0).more hb0.size) ((hy.below hb0).more hb0.size) hn HS.out).mono ?_
    rw [E.out]
    rintro e w1 ⟨rfl, b1⟩
    have b2 := hb0.trans (b1.mono hb0.size)
    go_wp2
    go_ret
    exact ⟨rfl, b2⟩
  · have E := Lib.hid (decide_eq_false hxy)
    clear hxy
    rw [E.out]
    go_enter Tryd.func8, Tryd.ntmps8
    go_wp2_with fail
    refine (eqEntryS_calls A B ca cb xs ys _ ((hx.below hb0).more hb0.size) ((hy.below hb0).more hb0.size) hn HS.out).mono ?_
    rw [E.out]
    rintro e w1 ⟨rfl, b1⟩
    have b2 := hb0.trans (b1.mono hb0.size)
    go_wp2
    go_ret
    exact ⟨rfl, b2⟩
end Go.Proofs.YtekidodfcanjaaaDoor
