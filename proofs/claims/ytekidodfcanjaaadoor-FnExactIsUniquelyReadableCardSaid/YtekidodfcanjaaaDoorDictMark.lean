/-
  The laws' marks in dictionaries.
-/
import Derived.Test.YtekidodfcanjaaaDoorDictOwn
namespace Go.Proofs.YtekidodfcanjaaaDoor
open Go.RowKit
set_option linter.unusedVariables false
set_option maxRecDepth 100000

def totalM (l : List EntD) : Nat := (l.map fun c => c.1.length + 1).sum
theorem totalM_take {l : List EntD} {k : Nat} {c : EntD} (h : l[k]? = some c) : totalM (l.take (k + 1)) = totalM (l.take k) + (c.1.length + 1) := by
  rw [List.take_add_one, h]
  simp [totalM]
theorem totalM_take_le (l : List EntD) (j : Nat) : totalM (l.take j) ≤ totalM l := by
  have h : totalM l = totalM (l.take j) + totalM (l.drop j) := by
    unfold totalM
    rw [← List.sum_append, ← List.map_append, List.take_append_drop]
  omega
theorem totalM_small {l : List EntD} (h : SmallD l 1048576) : totalM l ≤ 2097152 := by
  have h1 : totalM l ≤ totalD l + l.length := by
    clear h
    induction l with
    | nil => simp [totalM]
    | cons c l ih =>
      simp only [totalM, totalD, List.map_cons, List.sum_cons, List.length_cons] at *
      omega
  unfold SmallD at h
  omega
end Go.Proofs.YtekidodfcanjaaaDoor
