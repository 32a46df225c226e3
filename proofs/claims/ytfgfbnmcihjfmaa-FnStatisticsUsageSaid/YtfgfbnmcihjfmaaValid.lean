/-
  Contracts of both IsValidCues, and of eqCueS.
-/
import Derived.Test.YtfgfbnmcihjfmaaCap
import Derived.IntWalk
import Derived.StillTailTactics
namespace Go.Proofs.Ytfgfbnmcihjfmaa
open Go.RowKit
set_option linter.unusedVariables false

/-- The ints of a cue fit their kind. -/
def Fits (l : List CueD) : Prop := ∀ c ∈ l, (-9223372036854775808 ≤ c.1 ∧ c.1 ≤ 9223372036854775807) ∧ (-9223372036854775808 ≤ c.2.1 ∧ c.2.1 ≤ 9223372036854775807)

end Go.Proofs.Ytfgfbnmcihjfmaa
