/-
  Contracts of the laws' helpers over []int: toIntS, eqIntS, markIntS, heldIntS.
-/
import Derived.Test.YtoimkppjbabgeaaGreatDoorIn
namespace Go.Proofs.YtoimkppjbabgeaaGreatDoor
open Go.RowKit
set_option linter.unusedVariables false

/-- toIntS copies into new memory. -/
def Copied (zs : List Int) (w : World) (e : Ending) (w' : World) : Prop := ∃ v, e = .returned v ∧ Own w' w.heap.size w'.heap.size 3 1 v zs.length (ints zs) ∧ Below w.heap.size w w'


end Go.Proofs.YtoimkppjbabgeaaGreatDoor
