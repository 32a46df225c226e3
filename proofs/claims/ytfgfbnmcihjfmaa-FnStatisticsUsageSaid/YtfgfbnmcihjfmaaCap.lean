/-
  Contracts over captions and bounds: isMillis, l20Caption, isPrintable, isCaption.
-/
import Derived.Test.YtfgfbnmcihjfmaaBase
import Derived.Test.YtfgfbnmcihjfmaaCues
import Derived.Test.YtfgfbnmcihjfmaaIn
namespace Go.Proofs.Ytfgfbnmcihjfmaa
open Go.RowKit
set_option linter.unusedVariables false


end Go.Proofs.Ytfgfbnmcihjfmaa
