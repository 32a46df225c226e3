/-
  The law FnExactIsValidTranscript returns true for every transcript: its walk over the contracts.
-/
import Derived.Test.YthokekgdiebhjaaDoorTransArg
import Derived.Test.YthokekgdiebhjaaDoorSpecText
namespace Go.Proofs.YthokekgdiebhjaaDoor
open Go.RowKit
set_option linter.unusedVariables false
set_option maxRecDepth 100000

theorem short_of {l : List TurnD} {left : Int} (h : SmallT l left) (hl : left ≤ 1048576) : l.length ≤ 1048576 ∧ ShortT l := by
  unfold SmallT at h
  refine ⟨by omega, fun c hc => ?_⟩
  have := totalT_mem hc
  omega

end Go.Proofs.YthokekgdiebhjaaDoor
