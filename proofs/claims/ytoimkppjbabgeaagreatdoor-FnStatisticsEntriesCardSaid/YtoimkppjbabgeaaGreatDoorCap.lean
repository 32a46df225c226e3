/-
  Contracts over captions and bounds: isMillis, l20Caption, isPrintable, isCaption.
-/
import Derived.Test.YtoimkppjbabgeaaGreatDoorBase
import Derived.Test.YtoimkppjbabgeaaGreatDoorCues
import Derived.Test.YtoimkppjbabgeaaGreatDoorIn
namespace Go.Proofs.YtoimkppjbabgeaaGreatDoor
open Go.RowKit
set_option linter.unusedVariables false


end Go.Proofs.YtoimkppjbabgeaaGreatDoor
