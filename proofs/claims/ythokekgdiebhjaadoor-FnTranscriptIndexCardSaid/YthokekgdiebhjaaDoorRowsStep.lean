/-
  One row more: 'append(out, []int{..})'.
-/
import Derived.Test.YthokekgdiebhjaaDoorRowsSS
namespace Go.Proofs.YthokekgdiebhjaaDoor
open Go.RowKit
set_option linter.unusedVariables false

theorem rows_step {wr w' : World} {lo : Nat} {v : Value} {vs : List Value} {rows : List (List Int)} {r : List Int} (ho : wr.ownsRow lo 31 1 v rows.length vs) (hr : RowsAt wr lo vs rows) (hlo : lo ≤ wr.heap.size) (hm : r.length ≤ 1048576)
    (hg : (wr.alloc (.cells (ints r).toArray 3)).grownBy w' v.ownBlock) : RowsAt w' lo (vs ++ [.slice (some ⟨wr.heap.size, 0, none⟩) r.length r.length]) (rows ++ [r]) := by
  have hb : Below wr.heap.size wr (wr.alloc (.cells (ints r).toArray 3)) := (Below.refl _ _).alloc (Nat.le_refl _) _
  have ho1 := ho.alloc (.cells (ints r).toArray 3)
  have hr1 := hr.below hb
  have hl := World.ownsRow_lit (base := lo) (e := 3) (size := 1) wr (ints r).toArray r.length hlo (by unfold maxLen; omega) (by simp [ints])
  have hl2 : (wr.alloc (.cells (ints r).toArray 3)).ownsRow lo 3 1 (.slice (some ⟨wr.heap.size, 0, none⟩) r.length r.length) r.length (ints r) := by simpa using hl
  have hs := hr1.snoc hl2 (fun x hx g hxg h2 => by
    simp only [Value.ownBlock, Option.some.injEq] at h2
    have := (hr.lt x hx g hxg).2
    omega)
  exact hs.kept hg (hs.ne_outer ho1)
end Go.Proofs.YthokekgdiebhjaaDoor
