/-
  Times as text: what both sides read. No statement is named here.
-/
import Derived.Test.YtjdnmknegpikcaaDoorNum
import Derived.Lib.Atoi
namespace Go.Proofs.YtjdnmknegpikcaaDoor
open Go.RowKit
set_option linter.unusedVariables false

def dig (n : Nat) : UInt8 := UInt8.ofNat (48 + n)
theorem dig_nat {n : Nat} (h : n < 10) : (dig n).toNat = 48 + n := by
  unfold dig
  rw [UInt8.toNat_ofNat']
  omega
theorem pad_two {n : Nat} (h : n < 100) : padL 2 (Lib.decDigits n) = [dig (n / 10), dig (n % 10)] := by
  by_cases h1 : n < 10
  · rw [dec_small h1, show n / 10 = 0 by omega, show n % 10 = n by omega]; rfl
  · rw [dec_big h1, dec_small (show n / 10 < 10 by omega)]; rfl
theorem pad_three {n : Nat} (h : n < 1000) : padL 3 (Lib.decDigits n) = [dig (n / 100), dig (n / 10 % 10), dig (n % 10)] := by
  by_cases h1 : n < 10
  · rw [dec_small h1, show n / 100 = 0 by omega, show n / 10 % 10 = 0 by omega, show n % 10 = n by omega]; rfl
  · by_cases h2 : n < 100
    · rw [dec_big h1, dec_small (show n / 10 < 10 by omega), show n / 100 = 0 by omega, show n / 10 % 10 = n / 10 by omega]; rfl
    · rw [dec_big h1, dec_big (show ¬ n / 10 < 10 by omega), dec_small (show n / 10 / 10 < 10 by omega), show n / 10 / 10 = n / 100 by omega]; rfl
/-- The twelve bytes of a time. -/
def timeB (t : Nat) : List UInt8 :=
  [dig (t / 3600000 / 10), dig (t / 3600000 % 10), 58, dig (t / 60000 % 60 / 10), dig (t / 60000 % 60 % 10), 58, dig (t / 1000 % 60 / 10), dig (t / 1000 % 60 % 10), 44,
    dig (t % 1000 / 100), dig (t % 1000 / 10 % 10), dig (t % 1000 % 10)]
theorem timeOf_bytes {t : Nat} (h : t ≤ 99999999) : timeOf t = timeB t := by
  unfold timeOf timeL
  rw [pad_two (show t / 3600000 < 100 by omega), pad_two (show t / 60000 % 60 < 100 by omega), pad_two (show t / 1000 % 60 < 100 by omega), pad_three (show t % 1000 < 1000 by omega)]
  rfl
theorem time_parts (t : Nat) : t / 3600000 * 3600000 + t / 60000 % 60 * 60000 + t / 1000 % 60 * 1000 + t % 1000 = t := by omega

/-- The number of a text of digits, or nothing. -/
def numD (l : List UInt8) : Option Nat := if l.all (fun c => decide (48 ≤ c.toNat) && decide (c.toNat ≤ 57)) then some (l.foldl (fun n c => 10 * n + (c.toNat - 48)) 0) else none
theorem numD_two {a b : Nat} (ha : a < 10) (hb : b < 10) : numD [dig a, dig b] = some (10 * a + b) := by
  have h1 := dig_nat ha
  have h2 := dig_nat hb
  unfold numD
  rw [if_pos (by simp [h1, h2]; omega)]
  simp only [List.foldl, h1, h2]
  congr 1
  omega
theorem numD_three {a b c : Nat} (ha : a < 10) (hb : b < 10) (hc : c < 10) : numD [dig a, dig b, dig c] = some (100 * a + 10 * b + c) := by
  have h1 := dig_nat ha
  have h2 := dig_nat hb
  have h3 := dig_nat hc
  unfold numD
  rw [if_pos (by simp [h1, h2, h3]; omega)]
  simp only [List.foldl, h1, h2, h3]
  congr 1
  omega
/-- What stands at the places of a time. -/
theorem time_read {t : Nat} (h : t ≤ 99999999) {l : List UInt8} (hl : timeOf t = l) :
    l.length = 12 ∧ numD (l.take 2) = some (t / 3600000) ∧ numD ((l.drop 3).take 2) = some (t / 60000 % 60) ∧ numD ((l.drop 6).take 2) = some (t / 1000 % 60) ∧ numD (l.drop 9) = some (t % 1000) := by
  subst hl
  rw [timeOf_bytes h]
  refine ⟨rfl, ?_, ?_, ?_, ?_⟩
  · show numD [_, _] = _
    rw [numD_two (by omega) (by omega)]
    congr 1; omega
  · show numD [_, _] = _
    rw [numD_two (by omega) (by omega)]
    congr 1; omega
  · show numD [_, _] = _
    rw [numD_two (by omega) (by omega)]
    congr 1; omega
  · show numD [_, _, _] = _
    rw [numD_three (by omega) (by omega) (by omega)]
    congr 1; omega
theorem time_inj {t t' : Nat} (h : t ≤ 99999999) (h' : t' ≤ 99999999) (he : timeOf t = timeOf t') : t = t' := by
  obtain ⟨-, a1, a2, a3, a4⟩ := time_read h he
  obtain ⟨-, b1, b2, b3, b4⟩ := time_read h' (rfl : timeOf t' = timeOf t')
  rw [a1] at b1
  rw [a2] at b2
  rw [a3] at b3
  rw [a4] at b4
  have c1 := Option.some.inj b1
  have c2 := Option.some.inj b2
  have c3 := Option.some.inj b3
  have c4 := Option.some.inj b4
  have d := time_parts t
  have d' := time_parts t'
  rw [c1, c2, c3, c4] at d
  omega
/-- What both ParseTime give. -/
def TimeOk (l : List UInt8) (z : Int) (b : Bool) : Prop := (b = true ∧ ∃ t : Nat, z = t ∧ t ≤ 99999999 ∧ timeOf t = l) ∨ (b = false ∧ z = 0 ∧ ∀ t : Nat, t ≤ 99999999 → timeOf t ≠ l)
theorem timeOk_one {l : List UInt8} {z z' : Int} {b b' : Bool} (h : TimeOk l z b) (h' : TimeOk l z' b') : z = z' ∧ b = b' := by
  rcases h with ⟨rfl, t, rfl, ht, he⟩ | ⟨rfl, rfl, hn⟩ <;> rcases h' with ⟨rfl, t', rfl, ht', he'⟩ | ⟨rfl, rfl, hn'⟩
  · exact ⟨by rw [time_inj ht ht' (he.trans he'.symm)], rfl⟩
  · exact absurd he (hn' t ht)
  · exact absurd he' (hn t' ht')
  · exact ⟨rfl, rfl⟩
end Go.Proofs.YtjdnmknegpikcaaDoor
