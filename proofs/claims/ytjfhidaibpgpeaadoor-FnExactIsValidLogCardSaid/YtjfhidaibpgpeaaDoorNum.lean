/-
  The reference's decimal numeral.
-/
import Derived.Test.YtjfhidaibpgpeaaDoorBase
import Derived.Test.YtjfhidaibpgpeaaDoorRows
import Derived.Test.YtjfhidaibpgpeaaDoorIn
import Derived.Lib.ItoaNum
import Derived.IntWalk
namespace Go.Proofs.YtjfhidaibpgpeaaDoor
open Go.RowKit
set_option linter.unusedVariables false

def strLen : Value → Nat
  | .string s => s.size
  | _ => 0
def NumT (n : Nat) (w : World) (e : Ending) (w' : World) : Prop := e = .returned (.string ⟨(Lib.decDigits n).toArray⟩) ∧ ∃ m, w' = w.drewN m
theorem digit_at : ∀ d, d < 10 → (⟨#[48, 49, 50, 51, 52, 53, 54, 55, 56, 57]⟩ : ByteArray).extract d (d + 1) = ⟨#[UInt8.ofNat (48 + d)]⟩ := by decide +kernel
theorem dec_small {n : Nat} (h : n < 10) : Lib.decDigits n = [UInt8.ofNat (48 + n)] := by rw [Lib.decDigits, dif_pos h]
theorem dec_big {n : Nat} (h : ¬ n < 10) : Lib.decDigits n = Lib.decDigits (n / 10) ++ [UInt8.ofNat (48 + n % 10)] := by rw [Lib.decDigits, dif_neg h]
theorem dec_len (n : Nat) : (Lib.decDigits n).length ≤ n + 1 := by
  induction n using Nat.strongRecOn with
  | _ n ih =>
    by_cases h : n < 10
    · rw [dec_small h]; simp
    · rw [dec_big h]
      have := ih (n / 10) (by omega)
      simp
      omega
theorem num_quiet {P : Program} {f : FuncId} {args : Array Value} {w : World} {k q : Nat} (h : Calls P f args (w.drewN k) (NumT q (w.drewN k))) :
    Calls P f args (w.drewN k) fun e w'' => e = .returned (.string ⟨(Lib.decDigits q).toArray⟩) ∧ ∃ m, w'' = w.drewN m :=
  h.mono fun e w' ⟨he, m, hm⟩ => ⟨he, k + m, by rw [hm]; simp [World.drewN, Nat.add_assoc]⟩

set_option maxHeartbeats 2000000 in
theorem spec_l1Num (n : Nat) : ∀ (w : World), n ≤ 999999999 → Calls Tryd.prog 31 #[.int .i64 n] w (NumT n w) := by
  induction n using Nat.strongRecOn with
  | _ n ih =>
    intro w hn
    have h0 : ¬ ((n : Int) < 0) := by omega
    by_cases h10 : n < 10
    · have h1 : (n : Int) < 10 := by omega
      have h2 : (n : Int) + 1 ≤ 10 := by omega
      have h3 : (0 : Int) ≤ (n : Int) := by omega
      have h4 : (n : Int) ≤ (n : Int) + 1 := by omega
      have HD := Lib.hid (digit_at n h10)
      have HS := Lib.hid (dec_small h10)
      have HI := Lib.hid ih
      clear ih
      go_enter Tryd.func31, Tryd.ntmps31
      go_wp2
      refine bodyPost_ret (v := .string ((⟨#[48, 49, 50, 51, 52, 53, 54, 55, 56, 57]⟩ : ByteArray).extract n (n + 1))) (by simp [results, go_sem]) rfl ?_
      exact ⟨by rw [HD.out, HS.out], 0, rfl⟩
    · have h1 : ¬ (n : Int) < 10 := by omega
      obtain ⟨q, hq⟩ : ∃ q, q = n / 10 := ⟨_, rfl⟩
      obtain ⟨d, hd⟩ : ∃ d, d = n % 10 := ⟨_, rfl⟩
      have hq1 : Int.tdiv (n : Int) 10 = (q : Int) := by rw [Int.tdiv_eq_ediv_of_nonneg (by omega)]; omega
      have hq2 : (n : Int) / 10 = (q : Int) := by omega
      have hd1 : Int.tmod (n : Int) 10 = (d : Int) := by rw [Int.tmod_eq_emod_of_nonneg (by omega)]; omega
      have hd2 : (n : Int) % 10 = (d : Int) := by omega
      have hd3 : IntKind.i64.wrap ((d : Int) + 1) = (d : Int) + 1 := IntWalk.i64_in _ (by omega)
      have hd10 : d < 10 := by omega
      have b1 : (0 : Int) ≤ (d : Int) := by omega
      have b2 : (d : Int) + 1 ≤ 10 := by omega
      have b3 : (d : Int) ≤ (d : Int) + 1 := by omega
      have hex := digit_at d hd10
      have hlen := dec_len q
      have y1 : ¬ (9223372036854775807 < (Lib.decDigits q).length + 1) := by omega
      have y2 : ¬ (9223372036854775806 < (Lib.decDigits q).length) := by omega
      have HC := Lib.hid (ih q (by omega))
      have hq9 : q ≤ 999999999 := by omega
      have HS := Lib.hid (show Lib.decDigits n = Lib.decDigits q ++ [UInt8.ofNat (48 + d)] by rw [dec_big h10, hq, hd])
      clear ih hq hd hlen
      go_enter Tryd.func31, Tryd.ntmps31
      go_wp2
      go_quiet ((go_at_call 31; exact num_quiet (HC.out _ hq9)))
      go_wp2
      refine bodyPost_ret (v := .string (⟨(Lib.decDigits q).toArray⟩ ++ ⟨#[48 + UInt8.ofNat d]⟩)) (by simp [results, go_sem]) rfl ?_
      refine ⟨?_, nq, rfl⟩
      rw [HS.out, UInt8.ofNat_add]
      exact congrArg (fun b => Ending.returned (Value.string b)) (ByteArray.mk_append_mk (Lib.decDigits q) [48 + UInt8.ofNat d])

/-- Zeros ahead, up to so many digits. -/
def padL (D : Nat) (s : List UInt8) : List UInt8 := List.replicate (D - s.length) 48 ++ s
theorem padL_long {D : Nat} {s : List UInt8} (h : D ≤ s.length) : padL D s = s := by simp [padL, Nat.sub_eq_zero_of_le h]
theorem padL_more {D : Nat} {s : List UInt8} (h : s.length < D) : padL D (48 :: s) = padL D s := by
  unfold padL
  obtain ⟨k, hk⟩ : ∃ k, D - s.length = k + 1 := ⟨D - s.length - 1, by omega⟩
  rw [hk, show D - (48 :: s).length = k by simp only [List.length_cons]; omega, List.replicate_succ']
  simp
theorem padL_length (D : Nat) (s : List UInt8) : (padL D s).length ≤ D + s.length := by
  simp only [padL, List.length_append, List.length_replicate]
  omega

def PadT (n D : Nat) (w : World) (e : Ending) (w' : World) : Prop := e = .returned (.string ⟨(padL D (Lib.decDigits n)).toArray⟩) ∧ ∃ m, w' = w.drewN m

/-- A time as text. -/
def timeL (h m s ms : Nat) : List UInt8 := padL 2 (Lib.decDigits h) ++ [58] ++ padL 2 (Lib.decDigits m) ++ [58] ++ padL 2 (Lib.decDigits s) ++ [44] ++ padL 3 (Lib.decDigits ms)
def timeOf (at_ : Nat) : List UInt8 := timeL (at_ / 3600000) (at_ / 60000 % 60) (at_ / 1000 % 60) (at_ % 1000)
theorem pad_len {D n : Nat} (hn : n ≤ 1000) (hD : D ≤ 3) : (padL D (Lib.decDigits n)).length ≤ 1100 := by
  have h1 := padL_length D (Lib.decDigits n)
  have h2 := dec_len n
  omega
theorem bytes_add (a b : List UInt8) : (⟨a.toArray⟩ : ByteArray) ++ ⟨b.toArray⟩ = ⟨(a ++ b).toArray⟩ := ByteArray.mk_append_mk a b

/-- What FormatTime gives. -/
def Timed2 (z : Int) (w : World) (e : Ending) (w' : World) : Prop := e = .returned (.tuple #[.string (if 0 ≤ z ∧ z ≤ 99999999 then ⟨(timeOf z.toNat).toArray⟩ else ⟨#[]⟩), .bool (decide (0 ≤ z ∧ z ≤ 99999999))]) ∧ ∃ m, w' = w.drewN m
end Go.Proofs.YtjfhidaibpgpeaaDoor
