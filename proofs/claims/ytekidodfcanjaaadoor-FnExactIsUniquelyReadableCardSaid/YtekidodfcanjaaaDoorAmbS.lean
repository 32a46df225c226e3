/-
  AmbiguousStrokes and IsUniquelyReadable, the reference's and the program's.
-/
import Derived.Test.YtekidodfcanjaaaDoorWitN
import Derived.Test.YtekidodfcanjaaaDoorAmbI
import Derived.Test.YtekidodfcanjaaaDoorDictS
import Derived.Test.YtekidodfcanjaaaDoorDictI
namespace Go.Proofs.YtekidodfcanjaaaDoor
open Go.RowKit
set_option linter.unusedVariables false
set_option linter.unusedSimpArgs false
set_option maxRecDepth 100000

/-- What AmbiguousStrokes returns. -/
def AmbOut (l : List EntD) (w : World) (e : Ending) (w' : World) : Prop := (∃ v, e = .returned (.tuple #[v, .bool (ambVB l)]) ∧ Own w' w.heap.size w'.heap.size 3 1 v (ambV l).length (ints (ambV l)) ∧ Below w.heap.size w w') ∧ (dictB l = true → AmbRes (outsD l) (ambD l))
theorem ambOut_no {l : List EntD} {w w' : World} (h : dictB l = false) (hb : Below w.heap.size w w') : AmbOut l w (.returned (.tuple #[.slice none 0 0, .bool false])) w' := by
  refine ⟨⟨.slice none 0 0, ?_, ?_, hb⟩, fun h1 => by rw [h] at h1; cases h1⟩
  · simp [ambVB, ambV_no h]
  · rw [ambV_no h]; exact Own.none_
theorem ambVB_yes {l : List EntD} (h : dictB l = true) : ambVB l = decide (0 < (ambD l).length) := by rw [ambVB, ambV_yes h]
set_option maxHeartbeats 2000000 in
theorem spec_IsUniquelyReadable (A : Option Addr) (cap : Nat) (l : List EntD) (w : World) (hr : DictR w w.heap.size A l) (hn : l.length ≤ 1048576) (hs : ShortD l) :
    Calls Tryd.prog 5 #[.agg #[.slice A l.length cap]] w fun e w' => e = .returned (.tuple #[.bool (uniqB l), .bool (dictB l)]) ∧ Below w.heap.size w w' ∧ (dictB l = true → AmbRes (outsD l) (ambD l)) := by
  obtain ⟨W1, hW1⟩ : ∃ W1, W1 = w.alloc (.cells #[.slice A l.length cap] 30) := ⟨_, rfl⟩
  have hb1 : Below w.heap.size w W1 := by rw [hW1]; exact (Below.refl _ _).alloc (Nat.le_refl _) _
  have bP : Box W1 w.heap.size 30 (.slice A l.length cap) := by rw [hW1]; exact Box.new w _ _
  have HG := Lib.hid (spec_l6Good A cap l W1 ((hr.below hb1).more hb1.size) hn hs)
  have cP := bP.cell
  have HR := Lib.hid hr
  clear hs hr
  go_enter Tryd.func5, Tryd.ntmps5
  go_wp2_with fail
  rw [← hW1]
  clear hW1
  refine HG.out.mono ?_
  rintro e w2 ⟨rfl, b2⟩
  have B2 := hb1.trans (b2.mono hb1.size)
  have c2 := (bP.far b2).cell
  clear cP bP b2 hb1
  cases hv : dictB l with
  | false =>
    have HU := Lib.hid (show uniqB l = false by unfold uniqB; rw [hv]; rfl)
    have HN := Lib.hid hv
    clear hv
    go_wp2
    go_ret2
    exact ⟨by first | (rw [HU.out, HN.out]; done) | (rw [HU.out, HN.out]; rfl) | (rw [HU.out]; done) | (rw [HU.out]; rfl), B2, fun h => by rw [HN.out] at h; cases h⟩
  | true =>
    have HV := Lib.hid hv
    clear hv
    go_wp2_with fail
    refine (spec_l22Witness A cap l _ ((HR.out.below B2).more B2.size) HV.out).mono ?_
    rintro e w3 ⟨v3, rfl, o3, hres, b3⟩
    obtain ⟨A3, c3, rfl, -, -, -⟩ := o3.slice
    have B3 := B2.trans (b3.mono B2.size)
    have HRES := Lib.hid hres
    clear o3 hres b3 c2
    by_cases h0 : (ambD l).length = 0
    · have HU := Lib.hid (show uniqB l = true by unfold uniqB; rw [HV.out, h0]; rfl)
      have g0 : (((ambD l).length : Int) == 0) = true := by rw [h0]; rfl
      clear h0
      go_wp2
      go_ret2
      exact ⟨by first | (rw [HU.out, HV.out]; done) | (rw [HU.out, HV.out]; rfl) | (rw [HU.out]; done) | (rw [HU.out]; rfl), B3, fun _ => HRES.out⟩
    · have HU := Lib.hid (show uniqB l = false by unfold uniqB; rw [HV.out, decide_eq_false h0]; rfl)
      have g0 : (((ambD l).length : Int) == 0) = false := by rw [beq_eq_false_iff_ne]; omega
      clear h0
      go_wp2
      go_ret2
      exact ⟨by first | (rw [HU.out, HV.out]; done) | (rw [HU.out, HV.out]; rfl) | (rw [HU.out]; done) | (rw [HU.out]; rfl), B3, fun _ => HRES.out⟩
set_option maxHeartbeats 2000000 in
theorem impl_IsUniquelyReadable (A : Option Addr) (cap : Nat) (l : List EntD) (w : World) (hr : DictR w w.heap.size A l) (hn : l.length ≤ 1048576) (hs : ShortD l) (hmx : MaxOk w) :
    Calls Tryd.prog 7 #[.agg #[.slice A l.length cap]] w fun e w' => e = .returned (.tuple #[.bool (uniqB l), .bool (dictB l)]) ∧ Below w.heap.size w w' ∧ (dictB l = true → AmbRes (outsD l) (ambD l)) := by
  obtain ⟨W1, hW1⟩ : ∃ W1, W1 = w.alloc (.cells #[.slice A l.length cap] 30) := ⟨_, rfl⟩
  have hb1 : Below w.heap.size w W1 := by rw [hW1]; exact (Below.refl _ _).alloc (Nat.le_refl _) _
  have bP : Box W1 w.heap.size 30 (.slice A l.length cap) := by rw [hW1]; exact Box.new w _ _
  have HG := Lib.hid (impl_IsValidDictionary A cap l W1 ((hr.below hb1).more hb1.size) hn hs (hmx.below hb1))
  have cP := bP.cell
  have HR := Lib.hid hr
  clear hs hr hmx
  go_enter Tryd.func7, Tryd.ntmps7
  go_wp2_with fail
  rw [← hW1]
  clear hW1
  refine HG.out.mono ?_
  rintro e w2 ⟨rfl, b2⟩
  have B2 := hb1.trans (b2.mono hb1.size)
  have c2 := (bP.far b2).cell
  clear cP bP b2 hb1
  cases hv : dictB l with
  | false =>
    have HU := Lib.hid (show uniqB l = false by unfold uniqB; rw [hv]; rfl)
    have HN := Lib.hid hv
    clear hv
    go_wp2
    go_ret2
    exact ⟨by first | (rw [HU.out, HN.out]; done) | (rw [HU.out, HN.out]; rfl) | (rw [HU.out]; done) | (rw [HU.out]; rfl), B2, fun h => by rw [HN.out] at h; cases h⟩
  | true =>
    have HV := Lib.hid hv
    clear hv
    go_wp2_with fail
    refine (impl_ambiguous A cap l _ ((HR.out.below B2).more B2.size) HV.out).mono ?_
    rintro e w3 ⟨v3, rfl, o3, hres, b3⟩
    obtain ⟨A3, c3, rfl, -, -, -⟩ := o3.slice
    have B3 := B2.trans (b3.mono B2.size)
    have HRES := Lib.hid hres
    clear o3 hres b3 c2
    by_cases h0 : (ambD l).length = 0
    · have HU := Lib.hid (show uniqB l = true by unfold uniqB; rw [HV.out, h0]; rfl)
      rw [show decide (0 < (ambD l).length) = false from decide_eq_false (by omega)]
      clear h0
      go_wp2
      go_ret2
      exact ⟨by first | (rw [HU.out, HV.out]; done) | (rw [HU.out, HV.out]; rfl) | (rw [HU.out]; done) | (rw [HU.out]; rfl), B3, fun _ => HRES.out⟩
    · have HU := Lib.hid (show uniqB l = false by unfold uniqB; rw [HV.out, decide_eq_false h0]; rfl)
      rw [show decide (0 < (ambD l).length) = true from decide_eq_true (by omega)]
      clear h0
      go_wp2
      go_ret2
      exact ⟨by first | (rw [HU.out, HV.out]; done) | (rw [HU.out, HV.out]; rfl) | (rw [HU.out]; done) | (rw [HU.out]; rfl), B3, fun _ => HRES.out⟩
end Go.Proofs.YtekidodfcanjaaaDoor
