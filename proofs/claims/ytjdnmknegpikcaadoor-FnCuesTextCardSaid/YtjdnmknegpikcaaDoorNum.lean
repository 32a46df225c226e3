/-
  The reference's decimal numeral.
-/
import Derived.Test.YtjdnmknegpikcaaDoorBase
import Derived.Test.YtjdnmknegpikcaaDoorRows
import Derived.Test.YtjdnmknegpikcaaDoorIn
import Derived.Lib.ItoaNum
import Derived.IntWalk
namespace Go.Proofs.YtjdnmknegpikcaaDoor
open Go.RowKit
set_option linter.unusedVariables false

def strLen : Value → Nat
  | .string s => s.size
  | _ => 0
def NumT (n : Nat) (w : World) (e : Ending) (w' : World) : Prop := e = .returned (.string ⟨(Lib.decDigits n).toArray⟩) ∧ ∃ m, w' = w.drewN m
theorem digit_at : ∀ d, d < 10 → (⟨#[48, 49, 50, 51, 52, 53, 54, 55, 56, 57]⟩ : ByteArray).extract d (d + 1) = ⟨#[UInt8.ofNat (48 + d)]⟩ := by decide +kernel
theorem dec_small {n : Nat} (h : n < 10) : Lib.decDigits n = [UInt8.ofNat (48 + n)] := by rw [Lib.decDigits, dif_pos h]
theorem dec_big {n : Nat} (h : ¬ n < 10) : Lib.decDigits n = Lib.decDigits (n / 10) ++ [UInt8.ofNat (48 + n % 10)] := by rw [Lib.decDigits, dif_neg h]
theorem dec_len (n : Nat) : (Lib.decDigits n).length ≤ n + 1 := by
  induction n using Nat.strongRecOn with
  | _ n ih =>
    by_cases h : n < 10
    · rw [dec_small h]; simp
    · rw [dec_big h]
      have := ih (n / 10) (by omega)
      simp
      omega
theorem num_quiet {P : Program} {f : FuncId} {args : Array Value} {w : World} {k q : Nat} (h : Calls P f args (w.drewN k) (NumT q (w.drewN k))) :
    Calls P f args (w.drewN k) fun e w'' => e = .returned (.string ⟨(Lib.decDigits q).toArray⟩) ∧ ∃ m, w'' = w.drewN m :=
  h.mono fun e w' ⟨he, m, hm⟩ => ⟨he, k + m, by rw [hm]; simp [World.drewN, Nat.add_assoc]⟩

set_option maxHeartbeats 2000000 in
theorem spec_l1Num (n : Nat) : ∀ (w : World), n ≤ 999999999 → Calls Tryd.prog 58 #[.int .i64 n] w (NumT n w) := by
  induction n using Nat.strongRecOn with
  | _ n ih =>
    intro w hn
    have h0 : ¬ ((n : Int) < 0) := by omega
    by_cases h10 : n < 10
    · have h1 : (n : Int) < 10 := by omega
      have h2 : (n : Int) + 1 ≤ 10 := by omega
      have h3 : (0 : Int) ≤ (n : Int) := by omega
      have h4 : (n : Int) ≤ (n : Int) + 1 := by omega
      have HD := Lib.hid (digit_at n h10)
      have HS := Lib.hid (dec_small h10)
      have HI := Lib.hid ih
      clear ih
      go_enter Tryd.func58, Tryd.ntmps58
      go_wp2
      refine bodyPost_ret (v := .string ((⟨#[48, 49, 50, 51, 52, 53, 54, 55, 56, 57]⟩ : ByteArray).extract n (n + 1))) (by simp [results, go_sem]) rfl ?_
      exact ⟨by rw [HD.out, HS.out], 0, rfl⟩
    · have h1 : ¬ (n : Int) < 10 := by omega
      obtain ⟨q, hq⟩ : ∃ q, q = n / 10 := ⟨_, rfl⟩
      obtain ⟨d, hd⟩ : ∃ d, d = n % 10 := ⟨_, rfl⟩
      have hq1 : Int.tdiv (n : Int) 10 = (q : Int) := by rw [Int.tdiv_eq_ediv_of_nonneg (by omega)]; omega
      have hq2 : (n : Int) / 10 = (q : Int) := by omega
      have hd1 : Int.tmod (n : Int) 10 = (d : Int) := by rw [Int.tmod_eq_emod_of_nonneg (by omega)]; omega
      have hd2 : (n : Int) % 10 = (d : Int) := by omega
      have hd3 : IntKind.i64.wrap ((d : Int) + 1) = (d : Int) + 1 := IntWalk.i64_in _ (by omega)
      have hd10 : d < 10 := by omega
      have b1 : (0 : Int) ≤ (d : Int) := by omega
      have b2 : (d : Int) + 1 ≤ 10 := by omega
      have b3 : (d : Int) ≤ (d : Int) + 1 := by omega
      have hex := digit_at d hd10
      have hlen := dec_len q
      have y1 : ¬ (9223372036854775807 < (Lib.decDigits q).length + 1) := by omega
      have y2 : ¬ (9223372036854775806 < (Lib.decDigits q).length) := by omega
      have HC := Lib.hid (ih q (by omega))
      have hq9 : q ≤ 999999999 := by omega
      have HS := Lib.hid (show Lib.decDigits n = Lib.decDigits q ++ [UInt8.ofNat (48 + d)] by rw [dec_big h10, hq, hd])
      clear ih hq hd hlen
      go_enter Tryd.func58, Tryd.ntmps58
      go_wp2
      go_quiet ((go_at_call 58; exact num_quiet (HC.out _ hq9)))
      go_wp2
      refine bodyPost_ret (v := .string (⟨(Lib.decDigits q).toArray⟩ ++ ⟨#[48 + UInt8.ofNat d]⟩)) (by simp [results, go_sem]) rfl ?_
      refine ⟨?_, nq, rfl⟩
      rw [HS.out, UInt8.ofNat_add]
      exact congrArg (fun b => Ending.returned (Value.string b)) (ByteArray.mk_append_mk (Lib.decDigits q) [48 + UInt8.ofNat d])

/-- Zeros ahead, up to so many digits. -/
def padL (D : Nat) (s : List UInt8) : List UInt8 := List.replicate (D - s.length) 48 ++ s
theorem padL_long {D : Nat} {s : List UInt8} (h : D ≤ s.length) : padL D s = s := by simp [padL, Nat.sub_eq_zero_of_le h]
theorem padL_more {D : Nat} {s : List UInt8} (h : s.length < D) : padL D (48 :: s) = padL D s := by
  unfold padL
  obtain ⟨k, hk⟩ : ∃ k, D - s.length = k + 1 := ⟨D - s.length - 1, by omega⟩
  rw [hk, show D - (48 :: s).length = k by simp only [List.length_cons]; omega, List.replicate_succ']
  simp
theorem padL_length (D : Nat) (s : List UInt8) : (padL D s).length ≤ D + s.length := by
  simp only [padL, List.length_append, List.length_replicate]
  omega

def PadT (n D : Nat) (w : World) (e : Ending) (w' : World) : Prop := e = .returned (.string ⟨(padL D (Lib.decDigits n)).toArray⟩) ∧ ∃ m, w' = w.drewN m

set_option maxHeartbeats 2000000 in
theorem spec_l20Pad (n D : Nat) (w : World) (hn : n ≤ 999999999) (hD : D ≤ 100) : Calls Tryd.prog 46 #[.int .i64 n, .int .i64 D] w (PadT n D w) := by
  have hlen := dec_len n
  go_enter Tryd.func46, Tryd.ntmps46
  go_wp2_with fail
  refine (spec_l1Num n _ hn).mono ?_
  rintro e w1 ⟨rfl, m1, rfl⟩
  obtain ⟨s0, hs0⟩ : ∃ s0, s0 = Lib.decDigits n := ⟨_, rfl⟩
  rw [← hs0] at hlen ⊢
  have HS := Lib.hid hs0
  clear hs0
  go_wp2
  go_loop [5] (fun v => ∃ s : List UInt8, v = .string ⟨s.toArray⟩ ∧ padL D s = padL D s0 ∧ s.length ≤ 1000000000 + D) (fun v => D - strLen v)
  case atStart => exact ⟨s0, rfl, rfl, by omega⟩
  case round =>
    obtain ⟨s, rfl, hp, hl⟩ := hrel
    have HP := Lib.hid hp
    clear hp
    by_cases hlt : s.length < D
    · have h1 : (s.length : Int) < (D : Int) := by omega
      have y1 : ¬ (9223372036854775807 < 1 + s.length) := by omega
      have y2 : ¬ (9223372036854775807 < s.length + 1) := by omega
      go_wp2
      go_roundw
      case rel => exact ⟨48 :: s, congrArg Value.string (ByteArray.mk_append_mk [48] s), by rw [padL_more hlt]; exact HP.out, by simp; omega⟩
      case measure => simp [strLen, ByteArray.size]; omega
    · have h1 : ¬ (s.length : Int) < (D : Int) := by omega
      go_wp2
      go_ret
      exact ⟨by rw [← HS.out, ← HP.out, padL_long (by omega)]; rfl, m1, rfl⟩
theorem spec_l20Pad_int (z E : Int) (n D : Nat) (hz : z = n) (hE : E = D) (w : World) (hn : n ≤ 999999999) (hD : D ≤ 100) : Calls Tryd.prog 46 #[.int .i64 z, .int .i64 E] w (PadT n D w) := by
  subst hz hE
  exact spec_l20Pad n D w hn hD

/-- A time as text. -/
def timeL (h m s ms : Nat) : List UInt8 := padL 2 (Lib.decDigits h) ++ [58] ++ padL 2 (Lib.decDigits m) ++ [58] ++ padL 2 (Lib.decDigits s) ++ [44] ++ padL 3 (Lib.decDigits ms)
def timeOf (at_ : Nat) : List UInt8 := timeL (at_ / 3600000) (at_ / 60000 % 60) (at_ / 1000 % 60) (at_ % 1000)
theorem pad_len {D n : Nat} (hn : n ≤ 1000) (hD : D ≤ 3) : (padL D (Lib.decDigits n)).length ≤ 1100 := by
  have h1 := padL_length D (Lib.decDigits n)
  have h2 := dec_len n
  omega
theorem bytes_add (a b : List UInt8) : (⟨a.toArray⟩ : ByteArray) ++ ⟨b.toArray⟩ = ⟨(a ++ b).toArray⟩ := ByteArray.mk_append_mk a b

set_option maxHeartbeats 2000000 in
theorem spec_l20Time (n : Nat) (w : World) (hn : n ≤ 99999999) : Calls Tryd.prog 25 #[.int .i64 n] w fun e w' => e = .returned (.string ⟨(timeOf n).toArray⟩) ∧ ∃ m, w' = w.drewN m := by
  have a1 : Int.tdiv (n : Int) 3600000 = ((n / 3600000 : Nat) : Int) := by rw [Int.tdiv_eq_ediv_of_nonneg (by omega)]; omega
  have a2 : Int.tdiv (n : Int) 60000 = ((n / 60000 : Nat) : Int) := by rw [Int.tdiv_eq_ediv_of_nonneg (by omega)]; omega
  have a3 : Int.tdiv (n : Int) 1000 = ((n / 1000 : Nat) : Int) := by rw [Int.tdiv_eq_ediv_of_nonneg (by omega)]; omega
  have a4 : Int.tmod (n : Int) 1000 = ((n % 1000 : Nat) : Int) := by rw [Int.tmod_eq_emod_of_nonneg (by omega)]; omega
  have a5 : Int.tmod ((n / 60000 : Nat) : Int) 60 = ((n / 60000 % 60 : Nat) : Int) := by rw [Int.tmod_eq_emod_of_nonneg (by omega)]; omega
  have a6 : Int.tmod ((n / 1000 : Nat) : Int) 60 = ((n / 1000 % 60 : Nat) : Int) := by rw [Int.tmod_eq_emod_of_nonneg (by omega)]; omega
  have l1 := pad_len (D := 2) (n := n / 3600000) (by omega) (by omega)
  have l2 := pad_len (D := 2) (n := n / 60000 % 60) (by omega) (by omega)
  have l3 := pad_len (D := 2) (n := n / 1000 % 60) (by omega) (by omega)
  have l4 := pad_len (D := 3) (n := n % 1000) (by omega) (by omega)
  go_enter Tryd.func25, Tryd.ntmps25
  clear a1 a2 a3 a4 a5 a6
  go_wp2_with fail
  refine (spec_l20Pad_int _ _ (n / 3600000) 2 (by omega) rfl _ (by omega) (by omega)).mono ?_
  rintro e w1 ⟨rfl, m1, rfl⟩
  generalize hx1 : padL 2 (Lib.decDigits (n / 3600000)) = x1 at *
  have HX1 := Lib.hid hx1
  clear hx1
  go_wp2_with fail
  refine (spec_l20Pad_int _ _ (n / 60000 % 60) 2 (by omega) rfl _ (by omega) (by omega)).mono ?_
  rintro e w2 ⟨rfl, m2, rfl⟩
  generalize hx2 : padL 2 (Lib.decDigits (n / 60000 % 60)) = x2 at *
  have HX2 := Lib.hid hx2
  clear hx2
  go_wp2_with fail
  refine (spec_l20Pad_int _ _ (n / 1000 % 60) 2 (by omega) rfl _ (by omega) (by omega)).mono ?_
  rintro e w3 ⟨rfl, m3, rfl⟩
  generalize hx3 : padL 2 (Lib.decDigits (n / 1000 % 60)) = x3 at *
  have HX3 := Lib.hid hx3
  clear hx3
  go_wp2_with fail
  refine (spec_l20Pad_int _ _ (n % 1000) 3 (by omega) rfl _ (by omega) (by omega)).mono ?_
  rintro e w4 ⟨rfl, m4, rfl⟩
  generalize hx4 : padL 3 (Lib.decDigits (n % 1000)) = x4 at *
  have HX4 := Lib.hid hx4
  clear hx4
  go_wp2
  refine bodyPost_ret (v := .string (⟨x1.toArray⟩ ++ ⟨[58].toArray⟩ ++ ⟨x2.toArray⟩ ++ ⟨[58].toArray⟩ ++ ⟨x3.toArray⟩ ++ ⟨[44].toArray⟩ ++ ⟨x4.toArray⟩)) (by simp [results, go_sem]) rfl ?_
  refine ⟨?_, m1 + m2 + m3 + m4, by simp [World.drewN, Nat.add_assoc]⟩
  simp only [bytes_add]
  rw [← HX1.out, ← HX2.out, ← HX3.out, ← HX4.out]
  rfl

/-- What FormatTime gives. -/
def Timed2 (z : Int) (w : World) (e : Ending) (w' : World) : Prop := e = .returned (.tuple #[.string (if 0 ≤ z ∧ z ≤ 99999999 then ⟨(timeOf z.toNat).toArray⟩ else ⟨#[]⟩), .bool (decide (0 ≤ z ∧ z ≤ 99999999))]) ∧ ∃ m, w' = w.drewN m
set_option maxHeartbeats 1000000 in
theorem spec_FormatTime (z : Int) (w : World) : Calls Tryd.prog 19 #[.int .i64 z] w (Timed2 z w) := by
  by_cases h : 0 ≤ z ∧ z ≤ 99999999
  · obtain ⟨n, rfl⟩ : ∃ n : Nat, z = n := ⟨z.toNat, by omega⟩
    have hin : inB (n : Int) 0 99999999 = true := inB_yes h.1 h.2
    have HC := Lib.hid (show Timed2 (n : Int) = fun w e w' => e = .returned (.tuple #[.string ⟨(timeOf n).toArray⟩, .bool true]) ∧ ∃ m, w' = w.drewN m by funext w e w'; simp [Timed2, h])
    rw [HC.out]
    go_enter Tryd.func19, Tryd.ntmps19
    go_wp2_with fail
    refine (spec_l1In _ _ _ _).mono ?_
    rw [hin]
    rintro e w' ⟨rfl, rfl⟩
    go_wp2_with fail
    refine (spec_l20Time n _ (by omega)).mono ?_
    rintro e w1 ⟨rfl, m1, rfl⟩
    go_wp2
    go_ret2
    exact ⟨rfl, m1, rfl⟩
  · have hin : inB z 0 99999999 = false := inB_no h
    have HC := Lib.hid (show Timed2 z = fun w e w' => e = .returned (.tuple #[.string ⟨#[]⟩, .bool false]) ∧ ∃ m, w' = w.drewN m by funext w e w'; simp [Timed2, h])
    rw [HC.out]
    clear h
    go_enter Tryd.func19, Tryd.ntmps19
    go_wp2_with fail
    refine (spec_l1In _ _ _ _).mono ?_
    rw [hin]
    rintro e w' ⟨rfl, rfl⟩
    go_wp2
    go_ret2
    exact ⟨rfl, 0, rfl⟩
end Go.Proofs.YtjdnmknegpikcaaDoor
