/-
  Contracts of both ActiveCue; the law FnExactActiveCue returns true: its walk.
-/
import Derived.Test.YtjdnmknegpikcaaDoorCueArg
import Derived.Test.YtjdnmknegpikcaaDoorEqCue
namespace Go.Proofs.YtjdnmknegpikcaaDoor
open Go.RowKit
set_option linter.unusedVariables false

def actB (at_ : Int) (c : CueD) : Bool := decide (c.1 ≤ at_) && decide (at_ < c.2.1)
/-- The place of the cue that is shown, and whether there is one. -/
def activeL (l : List CueD) (at_ : Int) : Option Nat := if validB l then l.findIdx? (actB at_) else none
def placeOf (o : Option Nat) : Int := ((o.getD 0 : Nat) : Int)
theorem active_yes {l : List CueD} {at_ : Int} {k : Nat} {c : CueD} (hv : validB l = true) (hk : l[k]? = some c) (hc : actB at_ c = true) (hall : ∀ j, j < k → ∀ d, l[j]? = some d → actB at_ d = false) : activeL l at_ = some k := by
  rw [activeL, if_pos hv, List.findIdx?_eq_some_iff_getElem]
  have hlt : k < l.length := (List.getElem?_eq_some_iff.1 hk).1
  refine ⟨hlt, by rw [(List.getElem?_eq_some_iff.1 hk).2]; exact hc, fun j hj => ?_⟩
  rw [hall j hj _ (List.getElem?_eq_getElem (by omega))]
  simp
theorem active_none {l : List CueD} {at_ : Int} (hall : ∀ j, j < l.length → ∀ d, l[j]? = some d → actB at_ d = false) : activeL l at_ = none := by
  unfold activeL
  split
  · rw [List.findIdx?_eq_none_iff]
    intro c hc
    obtain ⟨j, hj⟩ := List.mem_iff_getElem?.1 hc
    rw [hall j (List.getElem?_eq_some_iff.1 hj).1 c hj]
  · rfl
theorem active_invalid {l : List CueD} {at_ : Int} (hv : validB l = false) : activeL l at_ = none := by rw [activeL, hv]; rfl

/-- The results of ActiveCue. -/
def Acted (l : List CueD) (at_ : Int) (w : World) (e : Ending) (w' : World) : Prop := e = .returned (.tuple #[.int .i64 (placeOf (activeL l at_)), .bool (activeL l at_).isSome]) ∧ Below w.heap.size w w'
theorem acted_no {l : List CueD} {at_ : Int} {w w' : World} (h : activeL l at_ = none) (hb : Below w.heap.size w w') : Acted l at_ w (.returned (.tuple #[.int .i64 0, .bool false])) w' := ⟨by rw [h]; rfl, hb⟩
theorem acted_yes {l : List CueD} {at_ : Int} {w w' : World} {k : Nat} (h : activeL l at_ = some k) (hb : Below w.heap.size w w') : Acted l at_ w (.returned (.tuple #[.int .i64 (k : Int), .bool true])) w' := ⟨by rw [h]; rfl, hb⟩

theorem valid_bounds {l : List CueD} (hv : validB l = true) {k : Nat} {c : CueD} (h : l[k]? = some c) : 0 ≤ c.1 ∧ c.1 < c.2.1 ∧ c.2.1 ≤ 99999999 ∧ captionB c.2.2 = true := by
  cases ho : okAt (lastOf 0 (l.take k)) c
  · rw [chain_no h ho] at hv; cases hv
  · have h1 := okAt_yes ho
    have hch : chainB 0 (l.take k) = true := by
      have h2 : chainB 0 l = true := by simp only [validB, Bool.and_eq_true] at hv; exact hv.2
      rw [← List.take_append_drop k l, chain_append, Bool.and_eq_true] at h2
      exact h2.1
    have h3 := lastOf_nonneg hch
    exact ⟨by omega, h1.2.1, h1.2.2.2.1, h1.2.2.2.2⟩

end Go.Proofs.YtjdnmknegpikcaaDoor
