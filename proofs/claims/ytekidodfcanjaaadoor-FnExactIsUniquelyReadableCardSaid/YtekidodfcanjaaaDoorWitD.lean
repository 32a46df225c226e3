/-
  The question whether a state's rest has been met: the program's closure in 'ambiguous'.
-/
import Derived.Test.YtekidodfcanjaaaDoorWitC
import Derived.Test.YtekidodfcanjaaaDoorAtI
namespace Go.Proofs.YtekidodfcanjaaaDoor
open Go.RowKit
set_option linter.unusedVariables false
set_option linter.unusedSimpArgs false
set_option maxRecDepth 100000

set_option maxHeartbeats 1000000 in
theorem ambig1_calls (A R : Option Addr) (co cr g : Nat) (p r : List Int) (u : Value) (w : World) (hp : Reads w w.heap.size 1 A p.length (ints p)) (hr : Reads w w.heap.size 1 R r.length (ints r)) (hg : Two w g 58 u (.slice R r.length cr)) (hn : p.length ≤ 1048576) (hm : r.length ≤ 1048576) :
    Calls Tryd.prog 32 #[.slice A p.length co, .pointer (some ⟨g, 0, none⟩)] w fun e w' => e = .returned (.bool (decide (p = r))) ∧ ∃ q, w' = w.drewN q := by
  have c2 := hg.cell1
  have HE := Lib.hid (impl_Equal A R co cr p r w hp hr hn hm)
  clear hp hr
  go_enter Tryd.func32, Tryd.ntmps32
  go_wp2_with fail
  refine HE.out.mono ?_
  rintro e w1 ⟨rfl, q, rfl⟩
  go_wp2
  go_ret
  exact ⟨rfl, q, rfl⟩
end Go.Proofs.YtekidodfcanjaaaDoor
