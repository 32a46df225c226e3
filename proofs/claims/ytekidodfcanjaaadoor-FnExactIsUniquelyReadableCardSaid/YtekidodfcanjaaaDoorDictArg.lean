/-
  An argument of type Dictionary, opened.
-/
import Derived.Test.YtekidodfcanjaaaDoorDictSz
import Derived.Test.YtekidodfcanjaaaDoorBase
namespace Go.Proofs.YtekidodfcanjaaaDoor
open Go.ChangeShapes Go.WideShapes Go.Deep
set_option linter.unusedVariables false

/-- What a law is told of a dictionary that came in. -/
def DictArg (W : World) (v : Value) (l : List EntD) : Prop :=
  ∃ A cap, v = .agg #[.slice A l.length cap] ∧ DictR W W.heap.size A l ∧ l.length ≤ cap ∧ cap ≤ maxLen ∧ LongD l

/-- A row of integers, from the slice's cell. -/
theorem ints_of_cell {H : Type} {enc : TypeId × Value → H} {W : World} {k : Nat} {v : Value} {y : DataW H × List MemPlace} (h : DataW.trod enc Tryd.prog W 0 (fun _ => true) true k 36 [v] = some y) :
    ∃ (a : Option Addr) (cap : Nat) (zs : List Int), v = .slice a zs.length cap ∧ Reads W W.heap.size 1 a zs.length (ints zs) ∧ zs.length ≤ cap ∧ cap ≤ maxLen := by
  obtain ⟨d, ps⟩ := y
  rcases ChangeShapes.open_ints Tryd.underlying36 Tryd.underlying3 (by kernel_rfl) h with ⟨hcs, _⟩ | ⟨x, n, c, zs, hcs, _, hl, hm, hz, _, hcell, hwz⟩
  · simp only [List.cons.injEq, and_true] at hcs
    exact ⟨none, 0, [], hcs, Reads.none_, by simp, by simp⟩
  · simp only [List.cons.injEq, and_true] at hcs
    simp at hz
    have hlen : (zs.take n).length = n := by simp; omega
    refine ⟨some x, c, zs.take n, by rw [hlen]; exact hcs, ?_, by omega, hm⟩
    rw [hlen]
    refine ⟨by simp [ints]; omega, fun hn => ?_⟩
    obtain ⟨b, off, hx, hc⟩ := Go.ints_at hcell (by have := hlen; omega)
    refine ⟨b, off, by rw [hx], World.block_lt_of_cell? W _ (hc 0 (by omega)), fun j u hj => ?_⟩
    simp only [ints, List.getElem?_map, List.getElem?_take, Option.map_eq_some_iff] at hj
    obtain ⟨y, hy, rfl⟩ := hj
    split at hy
    · rw [hc j (by omega)]
      simp [List.getD, hy]
    · cases hy

set_option maxRecDepth 100000 in
theorem open_dictionary {H : Type} {enc : TypeId × Value → H} {W : World} {base : Nat} {v : Value} {d : DataW H} {ps : List MemPlace} (hv : Value.okWide Tryd.prog W .any base 24 v)
    (h : DataW.Trod enc Tryd.prog W 0 (fun _ => true) true 24 v d ps) : ∃ l, DictArg W v l := by
  obtain ⟨v0, n0, y0, rfl, h0⟩ := open_agg1 Tryd.underlying24 (by kernel_rfl) (by kernel_rfl) hv h
  rcases slice_fieldsC Tryd.underlying22 Tryd.underlying44 (by kernel_rfl) (by kernel_rfl) h0 with rfl | ⟨a, n, cap, rfl, hl, hm, hi⟩
  · exact ⟨[], none, 0, rfl, fun h => absurd h (by simp), by simp, by simp, fun c hc => by simp at hc⟩
  · obtain ⟨l, hll, hp⟩ := list_of_fun n (fun i (c : EntD) => (∃ (ao : Option Addr) (co : Nat), W.cell? (a.add (i * 2)) = some (.slice ao c.1.length co) ∧ W.cell? (a.add (i * 2 + 1)) = some (.string c.2) ∧ Reads W W.heap.size 1 ao c.1.length (ints c.1) ∧ c.1.length ≤ co ∧ co ≤ maxLen) ∧ c.2.size ≤ maxLen) (fun i hin => by
      obtain ⟨v0, k0, y0, h0, t0⟩ := hi i hin 0 _ rfl
      obtain ⟨v1, k1, y1, h1, t1⟩ := hi i hin 1 _ rfl
      obtain ⟨ao, co, zs, rfl, hr, hz1, hz2⟩ := ints_of_cell t0
      obtain ⟨t, hst, -, wt⟩ := DataW.trod_string Tryd.underlying9 t1
      simp only [List.cons.injEq, and_true] at hst
      subst hst
      exact ⟨(zs, t), ⟨ao, co, h0, h1, hr, hz1, hz2⟩, wt⟩)
    subst hll
    refine ⟨l, some a, cap, rfl, fun hn => ?_, hl, hm, fun c hc => ?_⟩
    · obtain ⟨c0, hc0⟩ := some_at l hn
      obtain ⟨⟨ao, co, p0, -⟩, -⟩ := hp 0 c0 hc0
      obtain ⟨b, off, _, ha, hb, ho⟩ := plain_at p0
      have ha' := ha rfl
      subst ha'
      refine ⟨b, off, rfl, World.block_lt_of_cell? W _ (by simpa [Addr.add] using p0), fun j c hj => ?_⟩
      obtain ⟨⟨aj, cj, q0, q1, q2, q3, q4⟩, -⟩ := hp j c hj
      refine ⟨aj, cj, ?_, ?_, q2, q3, q4⟩
      · rw [← Go.WideShapes.add_plain]; exact q0
      · rw [Nat.add_assoc, ← Go.WideShapes.add_plain]; exact q1
    · obtain ⟨i, hic⟩ := List.mem_iff_getElem?.1 hc
      obtain ⟨⟨_, _, _, _, _, q3, q4⟩, q5⟩ := hp i c hic
      exact ⟨Nat.le_trans q3 q4, q5⟩
end Go.Proofs.YtekidodfcanjaaaDoor
