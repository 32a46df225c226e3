/-
  The laws' marks.
-/
import Derived.Test.YtekidodfcanjaaaDoorBase
import Derived.Test.YtekidodfcanjaaaDoorRows
import Derived.IntWalk
namespace Go.Proofs.YtekidodfcanjaaaDoor
open Go.RowKit
set_option linter.unusedVariables false
set_option maxRecDepth 100000

/-! ### The laws' marks -/
def mtGo : Nat → Nat → ByteArray → ByteArray
  | 0, _, acc => acc
  | f + 1, n, acc => if n = 0 then acc else mtGo f (n / 10) (⟨#[UInt8.ofNat (48 + n % 10)]⟩ ++ acc)
theorem mtGo_zero (f : Nat) (acc : ByteArray) : mtGo f 0 acc = acc := by cases f <;> rfl
theorem mtGo_step {f n : Nat} (hf : n < f) (h : 0 < n) (acc : ByteArray) : mtGo f n acc = mtGo (f - 1) (n / 10) (⟨#[UInt8.ofNat (48 + n % 10)]⟩ ++ acc) := by
  cases f with
  | zero => omega
  | succ f => rw [mtGo, if_neg (by omega)]; rfl
def mtext (n : Nat) : ByteArray := ⟨#[109]⟩ ++ mtGo (n + 1) n ⟨#[]⟩

end Go.Proofs.YtekidodfcanjaaaDoor
