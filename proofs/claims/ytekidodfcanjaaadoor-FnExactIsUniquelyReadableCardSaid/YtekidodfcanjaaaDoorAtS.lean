/-
  The reference's look-up of an outline, and the joining of two lists of strokes.
-/
import Derived.Test.YtekidodfcanjaaaDoorDictPl
import Derived.Test.YtekidodfcanjaaaDoorBegins
import Derived.Test.YtekidodfcanjaaaDoorDictS
namespace Go.Proofs.YtekidodfcanjaaaDoor
open Go.RowKit
set_option linter.unusedVariables false
set_option linter.unusedSimpArgs false
set_option maxRecDepth 100000

/-- Two lists joined, in new memory. -/
def Joined (xs ys : List Int) (w : World) (e : Ending) (w' : World) : Prop := ∃ v, e = .returned v ∧ Own w' w.heap.size w'.heap.size 3 1 v (xs ++ ys).length (ints (xs ++ ys)) ∧ Below w.heap.size w w'
set_option maxHeartbeats 2000000 in
theorem spec_l22Join (A B : Option Addr) (ca cb : Nat) (xs ys : List Int) (w : World) (hx : Reads w w.heap.size 1 A xs.length (ints xs)) (hy : Reads w w.heap.size 1 B ys.length (ints ys)) (hn : xs.length ≤ 1048576) (hm : ys.length ≤ 1048576) :
    Calls Tryd.prog 21 #[.slice A xs.length ca, .slice B ys.length cb] w (Joined xs ys w) := by
  have ba := (Below.refl w.heap.size w).alloc (Nat.le_refl _) (.cells #[] 3)
  have own0 : (w.alloc (.cells #[] 3)).ownsRow w.heap.size 3 1 (.slice (some ⟨w.heap.size, 0, none⟩) 0 0) 0 [] := World.ownsRow_made _ _ _ (Nat.le_refl _) (by simp) rfl
  have hzx : w.heap.size ≤ (w.alloc (.cells #[] 3)).heap.size := by simp
  have hx1 := hx.below ba
  have HY := Lib.hid hy
  have h1 : ∀ zs : List Int, ∀ u ∈ ints zs, u.oneCell' = true := fun zs u hu => by obtain ⟨z, _, rfl⟩ := List.mem_map.1 hu; rfl
  have H1 := Lib.hid h1
  clear h1 hy
  go_enter Tryd.func21, Tryd.ntmps21
  go_wp2_with (first | (at_builtin; refine wpList_append_src own0 hzx hx1 (H1.out xs) (.tmp 5) (.tmp 6) 36 Tryd.underlying36 info_int (by omega) (by unfold maxLen; omega) ⟨rfl, rfl, rfl, rfl, rfl, by decide⟩ ?_; intro v2 w2 own2 b2; have B2 := ba.trans b2; have hy2 := HY.out.below B2) | (at_builtin; refine wpList_append_src own2 B2.size hy2 (H1.out ys) (.tmp 7) (.tmp 8) 36 Tryd.underlying36 info_int (by omega) (by unfold maxLen; omega) ⟨rfl, rfl, rfl, rfl, rfl, by decide⟩ ?_; intro v3 w3 own3 b3))
  go_ret
  have B3 := B2.trans b3
  simp only [Nat.zero_add, List.nil_append] at own3
  refine ⟨v3, rfl, ?_, B3⟩
  have e1 : ints (xs ++ ys) = ints xs ++ ints ys := by simp [ints]
  rw [e1, List.length_append]
  exact Own.of_row own3
end Go.Proofs.YtekidodfcanjaaaDoor
