/-
  The program's padded, timeText and FormatTime, over the shelf's strconv.Itoa.
-/
import Derived.Test.YtjdnmknegpikcaaDoorNum
import Derived.Test.YtjdnmknegpikcaaDoorShelf
import Derived.Lib.AppendIntMem
namespace Go.Proofs.YtjdnmknegpikcaaDoor
open Go.RowKit
set_option linter.unusedVariables false

theorem below_grow (w : World) (k : Nat) (os : Array Obj) : Below w.heap.size w (Sort.grow (w.drewN k) os) :=
  ⟨rfl, rfl, rfl, by simp [Sort.grow], fun i hi => by simp [Sort.grow, Array.getElem?_append, hi]⟩
theorem itoa_nat (n : Nat) : Lib.itoa (n : Int) = Lib.decDigits n := by
  unfold Lib.itoa
  rw [if_neg (by omega)]
  rfl

theorem itoa_calls (z : Int) (n : Nat) (hz : z = n) (w : World) (hn : n ≤ 999999999) (htab : Lib.TabIs Tryd.prog w "internal/strconv.uint64pow10" .u64 Lib.pow10Tab) :
    Calls Tryd.prog 36 #[.int .i64 z] w fun e w' => e = .returned (.string ⟨(Lib.decDigits n).toArray⟩) ∧ Below w.heap.size w w' := by
  subst hz
  refine (Tryd.strconv_Itoa n (by omega) (by omega) _ htab).mono ?_
  rintro e w1 ⟨rfl, k1, os1, rfl⟩
  exact ⟨by rw [itoa_nat], below_grow w k1 os1⟩

set_option maxHeartbeats 2000000 in
theorem impl_padded (n D : Nat) (w : World) (hn : n ≤ 999999999) (hD : D ≤ 100) (htab : Lib.TabIs Tryd.prog w "internal/strconv.uint64pow10" .u64 Lib.pow10Tab) :
    Calls Tryd.prog 54 #[.int .i64 n, .int .i64 D] w fun e w' => e = .returned (.string ⟨(padL D (Lib.decDigits n)).toArray⟩) ∧ Below w.heap.size w w' := by
  have hlen := dec_len n
  have HT := Lib.hid htab
  clear htab
  go_enter Tryd.func54, Tryd.ntmps54
  go_wp2_with fail
  refine (Tryd.strconv_Itoa n (by omega) (by omega) _ HT.out).mono ?_
  rintro e w1 ⟨rfl, k1, os1, rfl⟩
  rw [itoa_nat]
  have HB := Lib.hid (below_grow w k1 os1)
  generalize Sort.grow (w.drewN k1) os1 = w1 at *
  obtain ⟨s0, hs0⟩ : ∃ s0, s0 = Lib.decDigits n := ⟨_, rfl⟩
  rw [← hs0] at hlen ⊢
  have HS := Lib.hid hs0
  clear hs0
  go_wp2
  go_loop [5] (fun v => ∃ s : List UInt8, v = .string ⟨s.toArray⟩ ∧ padL D s = padL D s0 ∧ s.length ≤ 1000000000 + D) (fun v => D - strLen v)
  case atStart => exact ⟨s0, rfl, rfl, by omega⟩
  case round =>
    obtain ⟨s, rfl, hp, hl⟩ := hrel
    have HP := Lib.hid hp
    clear hp
    by_cases hlt : s.length < D
    · have h1 : (s.length : Int) < (D : Int) := by omega
      have y1 : ¬ (9223372036854775807 < 1 + s.length) := by omega
      have y2 : ¬ (9223372036854775807 < s.length + 1) := by omega
      go_wp2
      go_roundw
      case rel => exact ⟨48 :: s, congrArg Value.string (ByteArray.mk_append_mk [48] s), by rw [padL_more hlt]; exact HP.out, by simp; omega⟩
      case measure => simp [strLen, ByteArray.size]; omega
    · have h1 : ¬ (s.length : Int) < (D : Int) := by omega
      go_wp2
      go_ret
      exact ⟨by rw [← HS.out, ← HP.out, padL_long (by omega)]; rfl, HB.out⟩

theorem impl_padded_int (z E : Int) (n D : Nat) (hz : z = n) (hE : E = D) (w : World) (hn : n ≤ 999999999) (hD : D ≤ 100) (htab : Lib.TabIs Tryd.prog w "internal/strconv.uint64pow10" .u64 Lib.pow10Tab) :
    Calls Tryd.prog 54 #[.int .i64 z, .int .i64 E] w fun e w' => e = .returned (.string ⟨(padL D (Lib.decDigits n)).toArray⟩) ∧ Below w.heap.size w w' := by
  subst hz hE
  exact impl_padded n D w hn hD htab

set_option maxHeartbeats 2000000 in
theorem impl_timeText (n : Nat) (w : World) (hn : n ≤ 99999999) (htab : Lib.TabIs Tryd.prog w "internal/strconv.uint64pow10" .u64 Lib.pow10Tab) :
    Calls Tryd.prog 37 #[.int .i64 n] w fun e w' => e = .returned (.string ⟨(timeOf n).toArray⟩) ∧ Below w.heap.size w w' := by
  have HT := Lib.hid (Lib.tabBelow_of_tabIs htab)
  clear htab
  have l1 := pad_len (D := 2) (n := n / 3600000) (by omega) (by omega)
  have l2 := pad_len (D := 2) (n := n / 60000 % 60) (by omega) (by omega)
  have l3 := pad_len (D := 2) (n := n / 1000 % 60) (by omega) (by omega)
  have l4 := pad_len (D := 3) (n := n % 1000) (by omega) (by omega)
  go_enter Tryd.func37, Tryd.ntmps37
  go_wp2_with fail
  refine (impl_padded_int _ _ (n / 3600000) 2 (by omega) rfl _ (by omega) (by omega) (HT.out _ (Below.refl _ _))).mono ?_
  rintro e w1 ⟨rfl, b1⟩
  generalize hx1 : padL 2 (Lib.decDigits (n / 3600000)) = x1 at *
  have HX1 := Lib.hid hx1
  clear hx1
  go_wp2_with fail
  refine (impl_padded_int _ _ (n / 60000 % 60) 2 (by omega) rfl _ (by omega) (by omega) (HT.out _ b1)).mono ?_
  rintro e w2 ⟨rfl, c2⟩
  have b2 := b1.trans (c2.mono b1.size)
  generalize hx2 : padL 2 (Lib.decDigits (n / 60000 % 60)) = x2 at *
  have HX2 := Lib.hid hx2
  clear hx2
  go_wp2_with fail
  refine (impl_padded_int _ _ (n / 1000 % 60) 2 (by omega) rfl _ (by omega) (by omega) (HT.out _ b2)).mono ?_
  rintro e w3 ⟨rfl, c3⟩
  have b3 := b2.trans (c3.mono b2.size)
  generalize hx3 : padL 2 (Lib.decDigits (n / 1000 % 60)) = x3 at *
  have HX3 := Lib.hid hx3
  clear hx3
  go_wp2_with fail
  refine (impl_padded_int _ _ (n % 1000) 3 (by omega) rfl _ (by omega) (by omega) (HT.out _ b3)).mono ?_
  rintro e w4 ⟨rfl, c4⟩
  have b4 := b3.trans (c4.mono b3.size)
  generalize hx4 : padL 3 (Lib.decDigits (n % 1000)) = x4 at *
  have HX4 := Lib.hid hx4
  clear hx4
  go_wp2
  refine bodyPost_ret (v := .string (⟨x1.toArray⟩ ++ ⟨[58].toArray⟩ ++ ⟨x2.toArray⟩ ++ ⟨[58].toArray⟩ ++ ⟨x3.toArray⟩ ++ ⟨[44].toArray⟩ ++ ⟨x4.toArray⟩)) (by simp [results, go_sem]) rfl ?_
  refine ⟨?_, b4⟩
  simp only [bytes_add]
  rw [← HX1.out, ← HX2.out, ← HX3.out, ← HX4.out]
  rfl
end Go.Proofs.YtjdnmknegpikcaaDoor
