/-
  Whether a list of strokes begins with another one: both programs.
-/
import Derived.Test.YtekidodfcanjaaaGreatDoorDictPl
import Derived.Test.YtekidodfcanjaaaGreatDoorInts
import Derived.Test.YtekidodfcanjaaaGreatDoorShelf
namespace Go.Proofs.YtekidodfcanjaaaGreatDoor
open Go.RowKit
set_option linter.unusedVariables false
set_option maxRecDepth 100000

set_option maxHeartbeats 2000000 in
theorem spec_l1Same (A B : Option Addr) (ca cb : Nat) (xs ys : List Int) (w : World) (hx : Reads w w.heap.size 1 A xs.length (ints xs)) (hy : Reads w w.heap.size 1 B ys.length (ints ys)) (hn : xs.length ≤ 1048576) :
    Calls Tryz.prog 89 #[.slice A xs.length ca, .slice B ys.length cb] w fun e w' => e = .returned (.bool (decide (xs = ys))) ∧ Below w.heap.size w w' := by
  by_cases hl : xs.length = ys.length
  · have h2 : ((xs.length : Int) != (ys.length : Int)) = false := by rw [hl]; simp
    have HL := Lib.hid hl
    clear hl
    go_enter Tryz.func89, Tryz.ntmps89
    go_wp2
    go_loopw [5] (fun i wr => ∃ k : Nat, k ≤ xs.length ∧ i = .int .i64 k ∧ (∀ j, j < k → xs[j]? = ys[j]?) ∧ Below w.heap.size w wr)
      (fun i _ => xs.length - (intOf i).toNat)
    case atStart => exact ⟨0, Nat.zero_le _, rfl, fun j hj => absurd hj (Nat.not_lt_zero _), Below.refl _ _⟩
    case round =>
      obtain ⟨k, hk, rfl, hall, hb⟩ := hrel
      have HA := Lib.hid hall
      clear hall
      by_cases hlt : k < xs.length
      · have hlt2 : k < ys.length := by have := HL.out; omega
        obtain ⟨b, off, rfl, hb0, hc⟩ := (hx.below hb).2 (by omega)
        obtain ⟨b', off', rfl, hb0', hc'⟩ := (hy.below hb).2 (by omega)
        obtain ⟨x, hxk⟩ := some_at xs hlt
        obtain ⟨y, hyk⟩ := some_at ys hlt2
        have cx : wr.cell? ⟨b, off + k, none⟩ = some (.int .i64 x) := hc k _ (ints_at xs hxk)
        have cy : wr.cell? ⟨b', off' + k, none⟩ = some (.int .i64 y) := hc' k _ (ints_at ys hyk)
        have HX := Lib.hid hxk
        have HY := Lib.hid hyk
        have i1 : (k : Int) < (xs.length : Int) := by omega
        have i2 : (k : Int) < (ys.length : Int) := by omega
        have i0 : (0 : Int) ≤ (k : Int) := by omega
        clear hxk hyk hc hc'
        by_cases hxy : x = y
        · subst hxy
          go_wp2
          go_quiet (fail)
          go_wp2
          go_roundw
          case rel => exact ⟨k + 1, by omega, by go_num, fun j hj => by
            rcases Nat.lt_or_ge j k with h | h
            · exact HA.out j h
            · rw [show j = k by omega, HX.out, HY.out], below_drewN hb _⟩
          case measure => simp [intOf]; omega
        · have HN := Lib.hid (ne_of_at HX.out HY.out hxy)
          have e1 : (x != y) = true := by simpa using hxy
          clear hxy
          go_wp2
          go_quiet (fail)
          go_wp2
          go_ret
          exact ⟨ret_bool HN.out, below_drewN hb _⟩
      · obtain rfl : k = xs.length := by omega
        go_wp2
        go_ret
        exact ⟨ret_bool (eq_of_all HL.out HA.out), hb⟩
  · have h2 : ((xs.length : Int) != (ys.length : Int)) = true := by simp; omega
    have HL := Lib.hid hl
    clear hl
    go_enter Tryz.func89, Tryz.ntmps89
    go_wp2
    go_ret
    exact ⟨ret_bool (ne_of_length HL.out), Below.refl _ _⟩

theorem Reads.front {w : World} {B : Nat} {A : Option Addr} {xs : List Int} (h : Reads w B 1 A xs.length (ints xs)) {m : Nat} (hm : m ≤ xs.length) : Reads w B 1 A (xs.take m).length (ints (xs.take m)) := by
  refine ⟨by simp [ints], fun hn => ?_⟩
  have h0 : 0 < xs.length := by simp at hn; omega
  obtain ⟨b, off, e, hb, hc⟩ := h.2 h0
  refine ⟨b, off, e, hb, fun j u hj => hc j u ?_⟩
  have hjl : j < (ints (xs.take m)).length := (List.getElem?_eq_some_iff.1 hj).1
  simp only [ints, List.length_map, List.length_take] at hjl
  simp only [ints, List.map_take] at hj ⊢
  rwa [List.getElem?_take_of_lt (by omega)] at hj
theorem begins_spell {o p : List Int} (h : p.length ≤ o.length) : decide (o.take p.length = p) = beginsB o p := by simp [beginsB, h]
theorem begins_not {o p : List Int} (h : ¬ p.length ≤ o.length) : beginsB o p = false := by simp [beginsB, h]
theorem spec_l4Begins (A B : Option Addr) (ca cb : Nat) (xs ys : List Int) (w : World) (hx : Reads w w.heap.size 1 A xs.length (ints xs)) (hy : Reads w w.heap.size 1 B ys.length (ints ys)) (hn : xs.length ≤ 1048576) (hy0 : 0 < ys.length) (hca : xs.length ≤ ca) (hcm : ca ≤ maxLen) :
    Calls Tryz.prog 54 #[.slice A xs.length ca, .slice B ys.length cb] w fun e w' => e = .returned (.bool (beginsB xs ys)) ∧ Below w.heap.size w w' := by
  unfold maxLen at hcm
  by_cases hl : ys.length ≤ xs.length
  · obtain ⟨b, off, rfl, -, -⟩ := hx.2 (by omega)
    have hf := hx.front hl
    have ht : (xs.take ys.length).length = ys.length := by simp; omega
    rw [ht] at hf
    have HS := Lib.hid (spec_l1Same (some ⟨b, off, none⟩) B ca cb (xs.take ys.length) ys w (by rw [ht]; exact hf) hy (by simp; omega))
    have HB := Lib.hid (begins_spell hl)
    have HT := Lib.hid ht
    clear ht hf
    go_enter Tryz.func54, Tryz.ntmps54
    go_wp2_with fail
    have H := HS.out
    rw [HT.out] at H
    refine H.mono ?_
    rw [HB.out]
    rintro e w1 ⟨rfl, b1⟩
    clear H
    go_wp2
    go_ret
    exact ⟨rfl, b1⟩
  · have HB := Lib.hid (begins_not hl)
    go_enter Tryz.func54, Tryz.ntmps54
    go_wp2
    go_ret
    exact ⟨ret_bool HB.out.symm, Below.refl _ _⟩
theorem impl_startsWith (A B : Option Addr) (ca cb : Nat) (xs ys : List Int) (w : World) (hx : Reads w w.heap.size 1 A xs.length (ints xs)) (hy : Reads w w.heap.size 1 B ys.length (ints ys)) (hn : xs.length ≤ 1048576) (hy0 : 0 < ys.length) (hca : xs.length ≤ ca) (hcm : ca ≤ maxLen) :
    Calls Tryz.prog 53 #[.slice A xs.length ca, .slice B ys.length cb] w fun e w' => e = .returned (.bool (beginsB xs ys)) ∧ Below w.heap.size w w' := by
  unfold maxLen at hcm
  by_cases hl : ys.length ≤ xs.length
  · obtain ⟨b, off, rfl, -, hc⟩ := hx.2 (by omega)
    obtain ⟨b', off', rfl, -, hc'⟩ := hy.2 hy0
    have HS := Lib.hid (Tryz.slices_Equal_int b off ys.length ca b' off' ys.length cb xs ys w hl (Nat.le_refl _) (by omega) (by omega)
      (fun j hj => by obtain ⟨x, hx'⟩ := some_at xs hj; rw [hc j _ (ints_at xs hx'), List.getD_eq_getElem?_getD, hx']; rfl)
      (fun j hj => by obtain ⟨x, hx'⟩ := some_at ys hj; rw [hc' j _ (ints_at ys hx'), List.getD_eq_getElem?_getD, hx']; rfl))
    have HB := Lib.hid (show (xs.take ys.length == ys.take ys.length) = beginsB xs ys by
      rw [← begins_spell hl, List.take_of_length_le (l := ys) (Nat.le_refl _)]
      rw [Bool.eq_iff_iff]; simp)
    clear hc hc'
    go_enter Tryz.func53, Tryz.ntmps53
    go_wp2_with fail
    refine HS.out.mono ?_
    rw [HB.out]
    rintro e w1 ⟨rfl, q, rfl⟩
    go_wp2
    go_ret
    exact ⟨rfl, below_drewN (Below.refl _ _) q⟩
  · have HB := Lib.hid (begins_not hl)
    go_enter Tryz.func53, Tryz.ntmps53
    go_wp2
    go_ret
    exact ⟨ret_bool HB.out.symm, Below.refl _ _⟩
end Go.Proofs.YtekidodfcanjaaaGreatDoor
