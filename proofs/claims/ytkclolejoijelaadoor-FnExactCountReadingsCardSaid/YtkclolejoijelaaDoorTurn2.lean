/-
  Small words for the laws' walks over dictionaries. No program is named here.
-/
import Derived.Test.YtkclolejoijelaaDoorOwn
namespace Go.Proofs.YtkclolejoijelaaDoor
open Go.RowKit
set_option linter.unusedVariables false
theorem two_below2 {w wx : World} {p q : Addr} {u v : Value} (h : wx.cell? p = some u ∧ wx.cell? q = some v ∧ Below w.heap.size w wx) : Below w.heap.size w wx := h.2.2
end Go.Proofs.YtkclolejoijelaaDoor
