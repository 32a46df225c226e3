/-
  slices.ContainsFunc over the list of the rests met.
-/
import Derived.Test.YtekidodfcanjaaaDoorWitE
namespace Go.Proofs.YtekidodfcanjaaaDoor
open Go.RowKit
set_option linter.unusedVariables false
set_option linter.unusedSimpArgs false
set_option maxRecDepth 100000

set_option maxHeartbeats 1000000 in
theorem ContainsFunc_rows (A R : Option Addr) (cap cr g : Nat) (rows : List (List Int)) (r : List Int) (u : Value) (w : World) (hl : ListR w A rows) (hr : Reads w w.heap.size 1 R r.length (ints r)) (hg : Two w g 58 u (.slice R r.length cr)) (hm : r.length ≤ 1048576) (hn : rows.length ≤ 1048576) (hs : ∀ x ∈ rows, x.length ≤ 1048576) :
    Calls Tryd.prog 31 #[.slice A rows.length cap, .func (.func 32) #[] #[.pointer (some ⟨g, 0, none⟩)]] w fun e w' => e = .returned (.bool (decide (r ∈ rows))) ∧ ∃ q, w' = w.drewN q := by
  have HI := Lib.hid (IndexFunc_rows A R cap cr g rows r u w hl hr hg hm hn hs)
  clear hl hr hg hs
  by_cases hmem : r ∈ rows
  · rw [show decide (r ∈ rows) = true from decide_eq_true hmem]
    have HM := Lib.hid hmem
    clear hmem
    go_enter Tryd.func31, Tryd.ntmps31
    go_wp2_with fail
    refine HI.out.mono ?_
    rintro e w1 ⟨⟨z, rfl, hz⟩, q, rfl⟩
    have h0 : 0 ≤ z := hz.2 HM.out
    clear hz
    go_wp2
    go_ret
    exact ⟨by first | rfl | simp [h0], q, rfl⟩
  · rw [show decide (r ∈ rows) = false from decide_eq_false hmem]
    have HM := Lib.hid hmem
    clear hmem
    go_enter Tryd.func31, Tryd.ntmps31
    go_wp2_with fail
    refine HI.out.mono ?_
    rintro e w1 ⟨⟨z, rfl, hz⟩, q, rfl⟩
    have h0 : ¬ 0 ≤ z := fun h => HM.out (hz.1 h)
    clear hz
    go_wp2
    go_ret
    exact ⟨by first | rfl | simp [h0], q, rfl⟩
end Go.Proofs.YtekidodfcanjaaaDoor
