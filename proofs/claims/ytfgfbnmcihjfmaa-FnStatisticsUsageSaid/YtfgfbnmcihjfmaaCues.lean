/-
  Contracts of the laws' helpers over cues.
-/
import Derived.Test.YtfgfbnmcihjfmaaBase
import Derived.Test.YtfgfbnmcihjfmaaRows
namespace Go.Proofs.Ytfgfbnmcihjfmaa
open Go.RowKit
set_option linter.unusedVariables false

def szLeft (n left : Int) : Int := if n ≤ left then left - n else -1
theorem szLeft_yes {n left : Int} (h : n ≤ left) : szLeft n left = left - n := if_pos h
theorem szLeft_no {n left : Int} (h : ¬ n ≤ left) : szLeft n left = -1 := if_neg h
def total (l : List CueD) : Nat := (l.map fun c => c.2.2.size).sum
theorem total_take_succ {l : List CueD} {k : Nat} {c : CueD} (h : l[k]? = some c) : total (l.take (k + 1)) = total (l.take k) + c.2.2.size := by
  rw [List.take_add_one, h]
  simp [total]
def Small (l : List CueD) (left : Int) : Prop := (l.length : Int) + total l ≤ left
/-- What the law's size test tells. -/
def Sized (l : List CueD) (left : Int) (w : World) (e : Ending) (w' : World) : Prop := ∃ r : Int, e = .returned (.int .i64 r) ∧ (r < 0 ∨ 0 ≤ r ∧ Small l left) ∧ Below w.heap.size w w'

end Go.Proofs.Ytfgfbnmcihjfmaa
