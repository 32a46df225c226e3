/-
  Contracts of l20If and of the reference's ShiftCues and ScaleCues; of the program's ScaleCues.
-/
import Derived.Test.YtjdnmknegpikcaaDoorTimed
import Derived.StillTailTactics
import Derived.IntWalk
namespace Go.Proofs.YtjdnmknegpikcaaDoor
open Go.RowKit
set_option linter.unusedVariables false
set_option maxRecDepth 100000

/-- l20If hands a track of the call's own back if it is valid. -/
theorem spec_l20If (lo hi : Nat) (v : Value) (l : List CueD) (w : World) (h : Own w lo hi 59 3 v l.length (cuesV l)) (hn : l.length ≤ 1048576) (ht : ∀ c ∈ l, c.2.2.size ≤ maxLen) :
    Calls Tryd.prog 35 #[v] w fun e w' => e = .returned (.tuple #[if validB l then v else .slice none 0 0, .bool (validB l)]) ∧ Below w.heap.size w w' := by
  obtain ⟨A, cap, rfl, hr, -, -⟩ := h.slice
  cases hv : validB l
  · go_enter Tryd.func35, Tryd.ntmps35
    go_wp2_with fail
    refine (spec_IsValidCues A cap l _ hr hn ht).mono ?_
    rintro e w1 ⟨rfl, hb⟩
    go_wp2
    go_ret2
    exact ⟨rfl, hb⟩
  · go_enter Tryd.func35, Tryd.ntmps35
    go_wp2_with fail
    refine (spec_IsValidCues A cap l _ hr hn ht).mono ?_
    rintro e w1 ⟨rfl, hb⟩
    go_wp2
    go_ret2
    exact ⟨rfl, hb⟩

/-- A track of which the first k cues are changed. -/
def partT (g : Int → Int) (l : List CueD) (k : Nat) : List CueD := mapT g (l.take k) ++ l.drop k
theorem partT_zero (g : Int → Int) (l : List CueD) : partT g l 0 = l := by simp [partT, mapT]
theorem partT_all (g : Int → Int) (l : List CueD) : partT g l l.length = mapT g l := by simp [partT]
theorem partT_length (g : Int → Int) (l : List CueD) (k : Nat) : (partT g l k).length = l.length := by simp [partT, mapT]; omega
theorem partT_set (g : Int → Int) {l : List CueD} {k : Nat} {c : CueD} (h : l[k]? = some c) : (partT g l k).set k (g c.1, g c.2.1, c.2.2) = partT g l (k + 1) := by
  have hk : k < l.length := (List.getElem?_eq_some_iff.1 h).1
  unfold partT
  rw [mapT_snoc g h, List.set_append_right _ _ (by rw [mapT_length]; simp; omega), mapT_length, List.length_take, show k - min k l.length = 0 by omega, ← List.getElem_cons_drop (h := hk), List.set_cons_zero]
  simp

theorem shift_le (l : List CueD) (d : Int) : ((shiftL l d).getD []).length ≤ l.length := timed_le _ _ _
end Go.Proofs.YtjdnmknegpikcaaDoor
