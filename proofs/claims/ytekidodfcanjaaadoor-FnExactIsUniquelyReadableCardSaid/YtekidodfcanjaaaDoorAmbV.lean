/-
  The shortest list of strokes with two readings, as a value. No program is named here.
-/
import Derived.Test.YtekidodfcanjaaaDoorSrchQ
namespace Go.Proofs.YtekidodfcanjaaaDoor
set_option linter.unusedVariables false

open Classical in
/-- The least list of strokes with two readings, or the empty list (a search finds it: ambD_eq). -/
noncomputable def ambD (l : List EntD) : List Int := if h : ∃ out, AmbRes (outsD l) out ∧ out.length ≤ 2000 then Classical.choose h else []
theorem ambD_eq {l : List EntD} {out : List Int} (h : AmbRes (outsD l) out) (hl : out.length ≤ 2000) : ambD l = out := by
  unfold ambD
  rw [dif_pos ⟨out, h, hl⟩]
  exact amb_same (Classical.choose_spec (⟨out, h, hl⟩ : ∃ out, AmbRes (outsD l) out ∧ out.length ≤ 2000)).1 h
theorem ambD_len (l : List EntD) : (ambD l).length ≤ 2000 := by
  unfold ambD
  split
  · rename_i h
    exact (Classical.choose_spec h).2
  · simp
noncomputable def ambV (l : List EntD) : List Int := if dictB l then ambD l else []
noncomputable def ambVB (l : List EntD) : Bool := decide (0 < (ambV l).length)
noncomputable def uniqB (l : List EntD) : Bool := dictB l && decide ((ambD l).length = 0)
theorem ambV_yes {l : List EntD} (h : dictB l = true) : ambV l = ambD l := by rw [ambV, if_pos h]
theorem ambV_no {l : List EntD} (h : dictB l = false) : ambV l = [] := by rw [ambV, if_neg (by simp [h])]
theorem ambV_len (l : List EntD) : (ambV l).length ≤ 1048576 := by
  unfold ambV
  split
  · have := ambD_len l; omega
  · simp
/-- Something is found exactly if it has a stroke. -/
theorem amb_some {E : List (List Int)} {out : List Int} (h : AmbRes E out) : (0 < out.length ↔ IsMin E out) ∧ (out = [] ↔ ∀ s, ¬ Reach E [] s) := by
  rcases h with ⟨rfl, h⟩ | h
  · exact ⟨⟨fun h0 => absurd h0 (by simp), fun h1 => absurd h1.1 (h _)⟩, ⟨fun _ => h, fun _ => rfl⟩⟩
  · have hne := reach_some h.1
    refine ⟨⟨fun _ => h, fun _ => List.length_pos_iff.2 hne⟩, ⟨fun e => absurd e hne, fun h1 => absurd h.1 (h1 _)⟩⟩
end Go.Proofs.YtekidodfcanjaaaDoor
