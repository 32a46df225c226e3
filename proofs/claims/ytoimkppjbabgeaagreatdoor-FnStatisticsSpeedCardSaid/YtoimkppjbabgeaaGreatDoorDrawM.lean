/-
  The reference's draws of a dictionary, strokes and a number.
-/
import Derived.Test.YtoimkppjbabgeaaGreatDoorDrawL
namespace Go.Proofs.YtoimkppjbabgeaaGreatDoor
open Go.RowKit
set_option linter.unusedVariables false
set_option linter.unusedSimpArgs false
set_option maxRecDepth 100000

/-- The drawn strokes, in a block of the draw's own. -/
def RowB (w : World) (lo : Nat) (A : Option Addr) (xs : List Int) : Prop := 0 < xs.length → ∃ b off, A = some ⟨b, off, none⟩ ∧ lo ≤ b ∧ b < w.heap.size ∧ ∀ j u, (ints xs)[j]? = some u → w.cell? ⟨b, off + j, none⟩ = some u
theorem RowB.reads {w : World} {lo : Nat} {A : Option Addr} {xs : List Int} (h : RowB w lo A xs) : Reads w w.heap.size 1 A xs.length (ints xs) := ⟨by simp [ints], fun hn => by
  obtain ⟨b, off, hA, -, hb, hc⟩ := h hn
  exact ⟨b, off, hA, hb, hc⟩⟩
theorem RowB.keep {w w' : World} {lo : Nat} {A : Option Addr} {xs : List Int} (h : RowB w lo A xs) (hs : w.heap.size ≤ w'.heap.size) (hk : ∀ p : Addr, lo ≤ p.block → p.block < w.heap.size → w'.cell? p = w.cell? p) : RowB w' lo A xs := fun hn => by
  obtain ⟨b, off, hA, hl, hb, hc⟩ := h hn
  exact ⟨b, off, hA, hl, by omega, fun j u hj => (hk ⟨b, off + j, none⟩ hl hb).trans (hc j u hj)⟩
structure ArS (w wr : World) (B p : Nat) (v : Value) (l : List EntD) (A : Option Addr) (xs : List Int) : Prop where
  res : Box wr w.heap.size 26 (.slice none 0 0)
  box : Box wr B 26 v
  bw : w.heap.size + 3 ≤ B
  dict : DictT wr (w.heap.size + 3) (w.heap.size + 3) v l
  row : RowB wr (w.heap.size + 3) A xs
  cur : Cur wr (w.heap.size + 2) p
  bel : Below w.heap.size w wr
section
variable {w wr w' : World} {B p q : Nat} {v : Value} {l : List EntD} {A : Option Addr} {xs : List Int}
theorem ArS.far (h : ArS w wr B p v l A xs) (hb : Below wr.heap.size wr w') : ArS w w' B p v l A xs := ⟨h.res.far hb, h.box.far hb, h.bw, h.dict.below hb, h.row.keep hb.size (fun p _ hp => hb.cell hp), h.cur.below (hb.mono (by have := h.cur.1; omega)), h.bel.trans (hb.mono h.bel.size)⟩
theorem ArS.drew (h : ArS w wr B p v l A xs) : ArS w wr.drew B p v l A xs := h.far (Below.refl wr.heap.size wr).drew
theorem ArS.alloc (h : ArS w wr B p v l A xs) (o : Obj) : ArS w (wr.alloc o) B p v l A xs := h.far ((Below.refl _ _).alloc (Nat.le_refl _) o)
theorem ArS.move (h : ArS w wr B p v l A xs) (hc : Cur w' (w.heap.size + 2) q) (ho : Only (w.heap.size + 2) (w.heap.size + 2 + 1) wr w') : ArS w w' B q v l A xs := by
  have hB := h.bw
  have hz := h.cur.1
  exact ⟨h.res.only ho (.inl (by omega)), h.box.only ho (.inr (by omega)), h.bw, h.dict.only ho (by omega) (by omega), h.row.keep ho.size (fun p h1 h2 => ho.cell h2 (.inr (by omega))), hc, h.bel.trans (ho.below (by omega) (by omega))⟩
theorem ArS.ret (h : ArS w wr B p v l A xs) (u : Value) : Box (wr.setCell ⟨w.heap.size, 0, none⟩ u) w.heap.size 26 u ∧ DictT (wr.setCell ⟨w.heap.size, 0, none⟩ u) (w.heap.size + 3) (w.heap.size + 3) v l ∧ RowB (wr.setCell ⟨w.heap.size, 0, none⟩ u) (w.heap.size + 3) A xs ∧ Below w.heap.size w (wr.setCell ⟨w.heap.size, 0, none⟩ u) ∧ (wr.setCell ⟨w.heap.size, 0, none⟩ u).cell? ⟨B, 0, none⟩ = some v :=
  ⟨h.res.set_ u, h.dict.setBox h.res u, h.row.keep (by simp [World.setCell]) (fun p h1 h2 => World.cell?_setCell_other _ _ _ _ (fun e => by have := congrArg Addr.block e; simp at this; omega)), h.bel.setCell (p := ⟨w.heap.size, 0, none⟩) (Nat.le_refl _) u, (h.box.setOther (a := ⟨w.heap.size, 0, none⟩) (show w.heap.size ≠ B by have := h.bw; omega) u).cell⟩
end
def DrewAR (w : World) (e : Ending) (w' : World) : Prop := ∃ (v : Value) (l : List EntD) (A : Option Addr) (c : Nat) (xs : List Int) (mo : Int), e = .returned (.tuple #[.agg #[v], .slice A xs.length c, .int .i64 mo]) ∧
  DictT w' w.heap.size w.heap.size v l ∧ EntsB 41 8 l ∧ Reads w' w'.heap.size 1 A xs.length (ints xs) ∧ xs.length ≤ 61 ∧ xs.length ≤ c ∧ c ≤ maxLen ∧ (-1 ≤ mo ∧ mo ≤ 51) ∧ Below w.heap.size w w'
def mosts : List Int := [1, 2, 5, 50, 0, 51, -1]
theorem mosts_size : ∀ t ∈ mosts, -1 ≤ t ∧ t ≤ 51 := by decide

end Go.Proofs.YtoimkppjbabgeaaGreatDoor
