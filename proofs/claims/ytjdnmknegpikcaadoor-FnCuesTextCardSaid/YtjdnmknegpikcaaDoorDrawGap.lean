/-
  The reference's draws of a track and a gap, of a track and a time.
-/
import Derived.Test.YtjdnmknegpikcaaDoorDrawCues
namespace Go.Proofs.YtjdnmknegpikcaaDoor
open Go.RowKit
set_option linter.unusedVariables false

theorem cur_new {w : World} {A : Option Addr} {n cap : Nat} {zs : List Int} (h : Ints .u8 w A n cap zs) (ty : TypeId) : Cur (w.alloc (.cells #[.slice A n cap, .int .i64 0, .int .u64 0] ty)) w.heap.size 0 := by
  obtain ⟨h1, h2, h3, h4, h5⟩ := h
  refine ⟨by simp, fun j => World.frozen?_alloc_at _ _ _ _ rfl, A, n, cap, zs, 0, 0, by simp [World.cell?_alloc_at], by simp [World.cell?_alloc_at], by simp [World.cell?_alloc_at], Nat.le_refl _, Nat.le_trans h2 h3, h4, h1.alloc (Nat.le_refl _) _, fun z hz => ?_⟩
  have := h5 z hz
  simpa [Lit.wf, IntKind.min, IntKind.max, IntKind.signed, IntKind.bits] using this

/-- What a draw of a track and a number gives. -/
def DrewGap (lo hi : Int) (w : World) (e : Ending) (w' : World) : Prop := ∃ (v : Value) (l : List CueD) (gap : Int), e = .returned (.tuple #[v, .int .i64 gap]) ∧ Own w' w.heap.size w'.heap.size 59 3 v l.length (cuesV l) ∧ l.length ≤ 40 ∧ Tame 1000000000 l ∧ (lo ≤ gap ∧ gap ≤ hi) ∧ Below w.heap.size w w'
def gaps : List Int := [0, 100, 300, 600, 5000, -1]
theorem gaps_in : ∀ t ∈ gaps, -1 ≤ t ∧ t ≤ 5000 := by decide

end Go.Proofs.YtjdnmknegpikcaaDoor
