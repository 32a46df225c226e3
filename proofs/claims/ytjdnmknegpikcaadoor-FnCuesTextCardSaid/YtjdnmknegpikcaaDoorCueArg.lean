/-
  An argument of type []Cue, opened.
-/
import Derived.Test.YtjdnmknegpikcaaDoorValid
import Derived.Test.YtjdnmknegpikcaaDoorBase
namespace Go.Proofs.YtjdnmknegpikcaaDoor
open Go.ChangeShapes Go.WideShapes Go.Deep
set_option linter.unusedVariables false

/-- What a law is told of a slice of cues that came in. -/
def CuesArg (W : World) (v : Value) (l : List CueD) : Prop :=
  ∃ A cap, v = .slice A l.length cap ∧ Reads W W.heap.size 3 A l.length (cuesV l) ∧ l.length ≤ cap ∧ cap ≤ maxLen ∧ (∀ c ∈ l, c.2.2.size ≤ maxLen) ∧ Fits l

/-- The k-th cue's cells, by index. -/
theorem cuesV_get {l : List CueD} {j : Nat} {u : Value} (h : (cuesV l)[j]? = some u) : ∃ i r c, (r = 0 ∨ r = 1 ∨ r = 2) ∧ j = i * 3 + r ∧ i < l.length ∧ l[i]? = some c ∧ (cueV c)[r]? = some u := by
  have hj : j < l.length * 3 := by rw [← cuesV_length]; exact (List.getElem?_eq_some_iff.1 h).1
  obtain ⟨i, r, hr, rfl⟩ : ∃ i r, (r = 0 ∨ r = 1 ∨ r = 2) ∧ j = i * 3 + r := ⟨j / 3, j % 3, by omega, by omega⟩
  obtain ⟨c, hc⟩ := some_at l (show i < l.length by omega)
  obtain ⟨h1, h2, h3⟩ := cuesV_at hc
  refine ⟨i, r, c, hr, rfl, by omega, hc, ?_⟩
  rcases hr with rfl | rfl | rfl
  · rw [Nat.add_zero, h1] at h; rw [← h]; rfl
  · rw [h2] at h; rw [← h]; rfl
  · rw [h3] at h; rw [← h]; rfl

end Go.Proofs.YtjdnmknegpikcaaDoor
