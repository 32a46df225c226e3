/-
  The normalized form of a word, as a plain function on bytes. No program is named here.
-/
import Derived.Test.YthokekgdiebhjaaDoorBase
namespace Go.Proofs.YthokekgdiebhjaaDoor

/-- What one byte becomes. -/
def nb (c : UInt8) : List UInt8 :=
  if 65 ≤ c.toNat ∧ c.toNat ≤ 90 then [UInt8.ofNat (c.toNat + 32)] else if (97 ≤ c.toNat ∧ c.toNat ≤ 122) ∨ (48 ≤ c.toNat ∧ c.toNat ≤ 57) then [c] else []

/-- What a word becomes. -/
def norm (l : List UInt8) : List UInt8 := l.flatMap nb
def bytesV (l : List UInt8) : List Value := l.map fun c => .int .u8 c.toNat

theorem nb_le (c : UInt8) : (nb c).length ≤ 1 := by unfold nb; split <;> (try split) <;> simp
theorem norm_le (l : List UInt8) : (norm l).length ≤ l.length := by
  induction l with
  | nil => simp [norm]
  | cons c l ih =>
    have := nb_le c
    simp only [norm, List.flatMap_cons, List.length_append, List.length_cons] at ih ⊢
    omega
theorem norm_snoc (l : List UInt8) (c : UInt8) : norm (l ++ [c]) = norm l ++ nb c := by simp [norm]
theorem take_snoc (s : ByteArray) (k : Nat) (h : k < s.size) : s.data.toList.take (k + 1) = s.data.toList.take k ++ [s[k]] := by
  rw [List.take_succ_eq_append_getElem (by simpa using h)]; rfl
theorem norm_take_le (s : ByteArray) (k : Nat) : (norm (s.data.toList.take k)).length ≤ k := Nat.le_trans (norm_le _) (List.length_take_le _ _)

theorem norm_up (s : ByteArray) (k : Nat) (h : k < s.size) (h1 : (65 : Int) ≤ (s[k].toNat : Int)) (h2 : (s[k].toNat : Int) ≤ 90) :
    bytesV (norm (s.data.toList.take (k + 1))) = bytesV (norm (s.data.toList.take k)) ++ [.int .u8 ((s[k].toNat : Int) + 32)] ∧ (norm (s.data.toList.take (k + 1))).length = (norm (s.data.toList.take k)).length + 1 := by
  rw [take_snoc s k h, norm_snoc]
  have : nb s[k] = [UInt8.ofNat (s[k].toNat + 32)] := by unfold nb; rw [if_pos (by omega)]
  rw [this]
  simp [bytesV]
  omega
theorem norm_same (s : ByteArray) (k : Nat) (h : k < s.size) (h1 : ((97 : Int) ≤ (s[k].toNat : Int) ∧ (s[k].toNat : Int) ≤ 122) ∨ ((48 : Int) ≤ (s[k].toNat : Int) ∧ (s[k].toNat : Int) ≤ 57)) :
    bytesV (norm (s.data.toList.take (k + 1))) = bytesV (norm (s.data.toList.take k)) ++ [.int .u8 (s[k].toNat : Int)] ∧ (norm (s.data.toList.take (k + 1))).length = (norm (s.data.toList.take k)).length + 1 := by
  rw [take_snoc s k h, norm_snoc]
  have : nb s[k] = [s[k]] := by unfold nb; rw [if_neg (by omega), if_pos (by omega)]
  rw [this]
  simp [bytesV]
theorem norm_none (s : ByteArray) (k : Nat) (h : k < s.size) (h1 : ¬ ((65 : Int) ≤ (s[k].toNat : Int) ∧ (s[k].toNat : Int) ≤ 90)) (h2 : ¬ (((97 : Int) ≤ (s[k].toNat : Int) ∧ (s[k].toNat : Int) ≤ 122) ∨ ((48 : Int) ≤ (s[k].toNat : Int) ∧ (s[k].toNat : Int) ≤ 57))) :
    norm (s.data.toList.take (k + 1)) = norm (s.data.toList.take k) := by
  rw [take_snoc s k h, norm_snoc]
  have : nb s[k] = [] := by unfold nb; rw [if_neg (by omega), if_neg (by omega)]
  rw [this]
  simp
end Go.Proofs.YthokekgdiebhjaaDoor
