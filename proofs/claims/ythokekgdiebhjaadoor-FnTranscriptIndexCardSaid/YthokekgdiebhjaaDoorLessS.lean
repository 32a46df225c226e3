/-
  The reference's byte order of two texts: its contract.
-/
import Derived.Test.YthokekgdiebhjaaDoorLessPl
import Derived.Test.YthokekgdiebhjaaDoorBase
import Derived.Test.YthokekgdiebhjaaDoorRText
namespace Go.Proofs.YthokekgdiebhjaaDoor
open Go.RowKit
set_option linter.unusedVariables false
set_option maxRecDepth 100000

theorem byte_of {s : ByteArray} {k : Nat} (h : k < s.size) : s.data.toList[k]? = some s[k] := by
  rw [List.getElem?_eq_getElem (by simpa using h)]
  rfl
set_option maxHeartbeats 1000000 in
theorem spec_l18Less (s t : ByteArray) (w : World) (hs : s.size ≤ 1048576) (ht : t.size ≤ 1048576) : Calls Tryd.prog 55 #[.string s, .string t] w fun e w' => e = .returned (.bool (lessB s t)) ∧ Below w.heap.size w w' := by
  go_enter Tryd.func55, Tryd.ntmps55
  go_wp2
  go_loopw [5] (fun i wr => ∃ k : Nat, i = .int .i64 k ∧ k ≤ s.size ∧ k ≤ t.size ∧ (∀ j, j < k → s.data.toList[j]? = t.data.toList[j]?) ∧ Below w.heap.size w wr) (fun i _ => s.size - (intOf i).toNat)
  case atStart => exact ⟨0, rfl, Nat.zero_le _, Nat.zero_le _, fun j hj => absurd hj (Nat.not_lt_zero _), Below.refl _ _⟩
  case round =>
    obtain ⟨k, rfl, h1, h2, hall, hb⟩ := hrel
    have HA := Lib.hid hall
    clear hall
    by_cases hk : k < s.size ∧ k < t.size
    · obtain ⟨k1, k2⟩ := hk
      have i1 : (k : Int) < (s.size : Int) := by omega
      have i2 : (k : Int) < (t.size : Int) := by omega
      have i0 : (0 : Int) ≤ (k : Int) := by omega
      by_cases he : s[k] = t[k]
      · have hne : ((s[k].toNat : Int) != (t[k].toNat : Int)) = false := by rw [he]; simp
        have HE := Lib.hid he
        clear he
        go_wp2
        go_quiet (fail)
        go_wp2
        go_roundw
        case rel => exact ⟨k + 1, by go_num, k1, k2, fun j hj => by
          rcases Nat.lt_or_ge j k with h | h
          · exact HA.out j h
          · rw [show j = k by omega, byte_of k1, byte_of k2, HE.out], below_drewN hb _⟩
        case measure => simp [intOf]; omega
      · have hne : ((s[k].toNat : Int) != (t[k].toNat : Int)) = true := by
          have : s[k].toNat ≠ t[k].toNat := fun h => he (UInt8.toNat_inj.1 h)
          simp; omega
        have HE := Lib.hid he
        clear he
        go_wp2
        go_quiet (fail)
        go_wp2
        go_quiet (fail)
        go_wp2
        go_ret
        refine ⟨ret_bool ?_, below_drewN (below_drewN hb _) _⟩
        rw [show lessB s t = decide (s[k].toNat < t[k].toNat) from lessL_ne HA.out (by simpa using k1) (by simpa using k2) (fun h => HE.out h)]
    · have hend : k = s.size ∨ k = t.size := by omega
      have HE := Lib.hid hend
      have hb9 := hb
      by_cases hk1 : k < s.size
      · have i1 : (k : Int) < (s.size : Int) := by omega
        have i2 : ¬ (k : Int) < (t.size : Int) := by omega
        clear hk hend
        go_wp2
        go_ret
        refine ⟨ret_bool ?_, hb⟩
        rw [lessB, lessL_end HA.out (by simpa using h1) (by simpa using h2) (by simpa using HE.out)]
        simp
      · have i1 : ¬ (k : Int) < (s.size : Int) := by omega
        clear hk hend
        go_wp2
        go_ret
        refine ⟨ret_bool ?_, hb⟩
        rw [lessB, lessL_end HA.out (by simpa using h1) (by simpa using h2) (by simpa using HE.out)]
        simp

/-- The place of a text in a sorted list: behind the lesser ones. -/
def placeB (l : List ByteArray) (s : ByteArray) : Nat := (l.takeWhile fun x => lessB x s).length
theorem placeB_at : ∀ (k : Nat) (l : List ByteArray) (s : ByteArray), (∀ j x, j < k → l[j]? = some x → lessB x s = true) → k ≤ l.length → (∀ x, l[k]? = some x → lessB x s = false) → placeB l s = k
  | 0, [], s, _, _, _ => rfl
  | 0, y :: l, s, _, _, h => by
    have := h y (by simp)
    simp [placeB, this]
  | k + 1, [], s, _, h, _ => by simp at h
  | k + 1, y :: l, s, h1, h2, h3 => by
    have hy := h1 0 y (by omega) (by simp)
    have ih := placeB_at k l s (fun j x hj hx => h1 (j + 1) x (by omega) (by simpa using hx)) (by simpa using h2) (fun x hx => h3 x (by simpa using hx))
    simp only [placeB, List.takeWhile_cons, hy, if_true, List.length_cons] at ih ⊢
    omega
set_option maxHeartbeats 1000000 in
theorem spec_l21Place (A : Option Addr) (cap : Nat) (l : List ByteArray) (s : ByteArray) (w : World) (hr : Reads w w.heap.size 1 A l.length (strsV l)) (hn : l.length ≤ 1048576) (hl : ∀ x ∈ l, x.size ≤ 1048576) (hs : s.size ≤ 1048576) :
    Calls Tryd.prog 32 #[.slice A l.length cap, .string s] w fun e w' => e = .returned (.int .i64 (placeB l s : Nat)) ∧ Below w.heap.size w w' := by
  have HX := Lib.hid hl
  clear hl
  go_enter Tryd.func32, Tryd.ntmps32
  go_wp2
  go_loopw [5] (fun i wr => ∃ k : Nat, i = .int .i64 k ∧ k ≤ l.length ∧ (∀ j x, j < k → l[j]? = some x → lessB x s = true) ∧ Below w.heap.size w wr) (fun i _ => l.length - (intOf i).toNat)
  case atStart => exact ⟨0, rfl, Nat.zero_le _, fun j x hj => absurd hj (Nat.not_lt_zero _), Below.refl _ _⟩
  case round =>
    obtain ⟨k, rfl, hk, hall, hb⟩ := hrel
    have HA := Lib.hid hall
    clear hall
    by_cases hlt : k < l.length
    · obtain ⟨b, off, rfl, hb0, hc⟩ := (hr.below hb).2 (by omega)
      obtain ⟨x, hx⟩ := some_at l hlt
      have c1 : wr.cell? ⟨b, off + k, none⟩ = some (.string x) := hc k _ (by simp [strsV, hx])
      have hxs := HX.out x (List.mem_of_getElem? hx)
      have HK := Lib.hid hx
      have i1 : (k : Int) < (l.length : Int) := by omega
      have i0 : (0 : Int) ≤ (k : Int) := by omega
      clear hc hx
      go_wp2_with fail
      refine (spec_l18Less x s _ hxs hs).mono ?_
      rintro e w2 ⟨rfl, hb2⟩
      have HB := Lib.hid (hb.trans (hb2.mono hb.size))
      clear c1
      cases hq : lessB x s
      · have HQ := Lib.hid hq
        clear hq
        go_wp2
        go_ret
        exact ⟨by rw [placeB_at k l s HA.out hk (fun y hy => by rw [HK.out] at hy; injection hy with hy; subst hy; exact HQ.out)]; rfl, HB.out⟩
      · have HQ := Lib.hid hq
        clear hq
        go_wp2
        go_roundw
        case rel => exact ⟨k + 1, by go_num, hlt, fun j y hj hy => by
          rcases Nat.lt_or_ge j k with h | h
          · exact HA.out j y h hy
          · rw [show j = k by omega, HK.out] at hy
            injection hy with hy
            subst hy
            exact HQ.out, HB.out⟩
        case measure => simp [intOf]; omega
    · obtain rfl : k = l.length := by omega
      go_wp2
      go_ret
      exact ⟨by rw [placeB_at l.length l s HA.out (Nat.le_refl _) (fun y hy => by simp at hy)]; rfl, hb⟩
end Go.Proofs.YthokekgdiebhjaaDoor
