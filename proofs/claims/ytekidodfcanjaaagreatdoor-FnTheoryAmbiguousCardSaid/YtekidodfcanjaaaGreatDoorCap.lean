/-
  Contracts over captions and bounds: isMillis, l20Caption, isPrintable, isCaption.
-/
import Derived.Test.YtekidodfcanjaaaGreatDoorBase
import Derived.Test.YtekidodfcanjaaaGreatDoorCues
import Derived.Test.YtekidodfcanjaaaGreatDoorIn
namespace Go.Proofs.YtekidodfcanjaaaGreatDoor
open Go.RowKit
set_option linter.unusedVariables false


end Go.Proofs.YtekidodfcanjaaaGreatDoor
