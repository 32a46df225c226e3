/-
  The laws' marks.
-/
import Derived.Test.YthokekgdiebhjaaDoorBase
import Derived.Test.YthokekgdiebhjaaDoorRows
import Derived.IntWalk
namespace Go.Proofs.YthokekgdiebhjaaDoor
open Go.RowKit
set_option linter.unusedVariables false
set_option maxRecDepth 100000

/-! ### The laws' marks -/
def mtGo : Nat → Nat → ByteArray → ByteArray
  | 0, _, acc => acc
  | f + 1, n, acc => if n = 0 then acc else mtGo f (n / 10) (⟨#[UInt8.ofNat (48 + n % 10)]⟩ ++ acc)
theorem mtGo_zero (f : Nat) (acc : ByteArray) : mtGo f 0 acc = acc := by cases f <;> rfl
theorem mtGo_step {f n : Nat} (hf : n < f) (h : 0 < n) (acc : ByteArray) : mtGo f n acc = mtGo (f - 1) (n / 10) (⟨#[UInt8.ofNat (48 + n % 10)]⟩ ++ acc) := by
  cases f with
  | zero => omega
  | succ f => rw [mtGo, if_neg (by omega)]; rfl
def mtext (n : Nat) : ByteArray := ⟨#[109]⟩ ++ mtGo (n + 1) n ⟨#[]⟩

set_option maxHeartbeats 1000000 in
theorem markText_calls (n : Nat) (w : World) (h0 : 0 < n) (h1 : n < 4611686018427387904) :
    Calls Tryd.prog 42 #[.int .i64 n] w fun e w' => e = .returned (.string (mtext n)) ∧ Below w.heap.size w w' := by
  go_enter Tryd.func42, Tryd.ntmps42
  go_wp2
  go_loopw [0, 3] (fun i t wr => ∃ (m j f : Nat) (acc : ByteArray), i = .int .i64 m ∧ t = .string acc ∧ mtGo f m acc = mtGo (n + 1) n ⟨#[]⟩ ∧ m < f ∧ acc.size ≤ j ∧ j ≤ 62 ∧ m * 2 ^ j ≤ n ∧ m < 4611686018427387904 ∧ Below w.heap.size w wr)
    (fun i _ _ => (intOf i).toNat)
  case atStart => exact ⟨n, 0, n + 1, ⟨#[]⟩, rfl, rfl, rfl, by omega, by decide, by omega, by omega, h1, Below.refl _ _⟩
  case round =>
    obtain ⟨m, j, f, acc, rfl, rfl, hg, hmf, hsz, hj, hm, hml, hb⟩ := hrel
    have HG := Lib.hid hg
    clear hg
    by_cases hlt : 0 < m
    · have hj62 : j < 62 := by
        rcases Nat.lt_or_ge j 62 with h | h
        · exact h
        · have h2 : 2 ^ 62 ≤ 2 ^ j := Nat.pow_le_pow_right (by omega) h
          have h3 : 2 ^ j ≤ m * 2 ^ j := Nat.le_mul_of_pos_left _ hlt
          omega
      have hcv := run_string_of_one (P := Tryd.prog) (wr := wr) (x := 48 + (m : Int) % 10) (src := 22) (dst := 9) (by omega) (by omega) Tryd.underlying22 Tryd.underlying5 Tryd.underlying9
      obtain ⟨d, hd⟩ : ∃ d, d = UInt8.ofNat (48 + m % 10) := ⟨_, rfl⟩
      rw [show UInt8.ofNat (48 + (m : Int) % 10).toNat = d by rw [hd, show (48 + (m : Int) % 10).toNat = 48 + m % 10 by omega]] at hcv
      have hx1 : (ByteArray.mk #[d]).size = 1 := rfl
      have hx2 : (ByteArray.mk #[d] ++ acc).size ≤ j + 1 := by rw [ByteArray.size_append, hx1]; omega
      have HX2 := Lib.hid hx2
      have HX3 := Lib.hid hd
      clear hx1 hx2 hd
      go_wp2
      go_roundw
      case rel => exact ⟨m / 10, j + 1, f - 1, _, by go_num, rfl, by rw [HX3.out, ← mtGo_step hmf hlt]; exact HG.out, by omega, HX2.out, by omega, by
        have h2 : m / 10 * 2 ≤ m := by omega
        have h3 : m / 10 * 2 * 2 ^ j ≤ m * 2 ^ j := Nat.mul_le_mul_right _ h2
        rw [Nat.pow_succ, Nat.mul_comm (2 ^ j) 2, ← Nat.mul_assoc]
        omega, by omega, hb.alloc hb.size _⟩
      case measure => simp [intOf]; omega
    · obtain rfl : m = 0 := by omega
      go_wp2
      go_ret
      exact ⟨by have := HG.out; rw [mtGo_zero] at this; rw [mtext, ← this]; rfl, hb⟩
end Go.Proofs.YthokekgdiebhjaaDoor
