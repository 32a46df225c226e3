/-
  The reference's draw of a dictionary and strokes.
-/
import Derived.Test.YtoimkppjbabgeaaGreatDoorDrawM
namespace Go.Proofs.YtoimkppjbabgeaaGreatDoor
open Go.RowKit
set_option linter.unusedVariables false
set_option linter.unusedSimpArgs false
set_option maxRecDepth 100000

def DrewDS (w : World) (e : Ending) (w' : World) : Prop := ∃ (v : Value) (l : List EntD) (A : Option Addr) (c : Nat) (xs : List Int), e = .returned (.tuple #[.agg #[v], .slice A xs.length c]) ∧
  DictT w' w.heap.size w.heap.size v l ∧ EntsB 41 8 l ∧ Reads w' w'.heap.size 1 A xs.length (ints xs) ∧ xs.length ≤ 61 ∧ xs.length ≤ c ∧ c ≤ maxLen ∧ Below w.heap.size w w'

end Go.Proofs.YtoimkppjbabgeaaGreatDoor
