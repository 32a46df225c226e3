/-
  The program's look-up of an outline.
-/
import Derived.Test.YtekidodfcanjaaaDoorAtS
import Derived.Test.YtekidodfcanjaaaDoorDictI
namespace Go.Proofs.YtekidodfcanjaaaDoor
open Go.RowKit
set_option linter.unusedVariables false
set_option linter.unusedSimpArgs false
set_option maxRecDepth 100000

theorem impl_Equal (A B : Option Addr) (ca cb : Nat) (xs ys : List Int) (w : World) (hx : Reads w w.heap.size 1 A xs.length (ints xs)) (hy : Reads w w.heap.size 1 B ys.length (ints ys)) (hn : xs.length ≤ 1048576) (hm : ys.length ≤ 1048576) :
    Calls Tryd.prog 28 #[.slice A xs.length ca, .slice B ys.length cb] w fun e w' => e = .returned (.bool (decide (xs = ys))) ∧ ∃ q, w' = w.drewN q := by
  by_cases hl : xs.length = ys.length
  · by_cases h0 : xs.length = 0
    · have hx0 : xs = [] := List.eq_nil_of_length_eq_zero h0
      have hy0 : ys = [] := List.eq_nil_of_length_eq_zero (by omega)
      subst hx0 hy0
      refine (Tryd.slices_Equal_int_empty A B ca 0 cb w (by omega)).mono ?_
      rintro e w' ⟨rfl, rfl⟩
      exact ⟨by simp, 0, rfl⟩
    · obtain ⟨b, off, rfl, -, hc⟩ := hx.2 (by omega)
      obtain ⟨b', off', rfl, -, hc'⟩ := hy.2 (by omega)
      refine (Tryd.slices_Equal_int b off xs.length ca b' off' ys.length cb xs ys w (Nat.le_refl _) (Nat.le_refl _) (by omega) (by omega)
        (fun j hj => by obtain ⟨x, hx'⟩ := some_at xs hj; rw [hc j _ (ints_at xs hx'), List.getD_eq_getElem?_getD, hx']; rfl)
        (fun j hj => by obtain ⟨x, hx'⟩ := some_at ys hj; rw [hc' j _ (ints_at ys hx'), List.getD_eq_getElem?_getD, hx']; rfl)).mono ?_
      rintro e w' ⟨rfl, q, rfl⟩
      refine ⟨ret_bool ?_, q, rfl⟩
      rw [List.take_of_length_le (Nat.le_refl _), List.take_of_length_le (Nat.le_refl _)]
      rw [Bool.eq_iff_iff]; simp
  · refine (Tryd.slices_Equal_int_lens A B xs.length ca ys.length cb w hl).mono ?_
    rintro e w' ⟨rfl, rfl⟩
    exact ⟨ret_bool (ne_of_length hl), 0, rfl⟩

end Go.Proofs.YtekidodfcanjaaaDoor
