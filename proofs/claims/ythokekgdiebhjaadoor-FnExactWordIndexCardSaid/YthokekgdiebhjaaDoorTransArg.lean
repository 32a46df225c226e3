/-
  An argument of type Transcript, opened.
-/
import Derived.Test.YthokekgdiebhjaaDoorTurnText
import Derived.Test.YthokekgdiebhjaaDoorTurns
import Derived.Test.YthokekgdiebhjaaDoorBase
namespace Go.Proofs.YthokekgdiebhjaaDoor
open Go.ChangeShapes Go.WideShapes Go.Deep
set_option linter.unusedVariables false

/-- What a law is told of a transcript that came in. -/
def TransArg (W : World) (v : Value) (l : List TurnD) : Prop :=
  ∃ A cap, v = .agg #[.slice A l.length cap] ∧ Reads W W.heap.size 2 A l.length (turnsV l) ∧ l.length ≤ cap ∧ cap ≤ maxLen ∧ ∀ c ∈ l, c.1.size ≤ maxLen ∧ c.2.size ≤ maxLen

theorem turnsV_get {l : List TurnD} {j : Nat} {u : Value} (h : (turnsV l)[j]? = some u) : ∃ i r c, (r = 0 ∨ r = 1) ∧ j = i * 2 + r ∧ i < l.length ∧ l[i]? = some c ∧ (turnV c)[r]? = some u := by
  have hj : j < l.length * 2 := by rw [← turnsV_length]; exact (List.getElem?_eq_some_iff.1 h).1
  obtain ⟨i, r, hr, rfl⟩ : ∃ i r, (r = 0 ∨ r = 1) ∧ j = i * 2 + r := ⟨j / 2, j % 2, by omega, by omega⟩
  obtain ⟨c, hc⟩ := some_at l (show i < l.length by omega)
  obtain ⟨h1, h2⟩ := turnsV_at hc
  refine ⟨i, r, c, hr, rfl, by omega, hc, ?_⟩
  rcases hr with rfl | rfl
  · rw [Nat.add_zero, h1] at h; rw [← h]; rfl
  · rw [h2] at h; rw [← h]; rfl

set_option maxRecDepth 100000 in
theorem open_transcript {H : Type} {enc : TypeId × Value → H} {W : World} {base : Nat} {v : Value} {d : DataW H} {ps : List MemPlace} (hv : Value.okWide Tryd.prog W .any base 42 v)
    (h : DataW.Trod enc Tryd.prog W 0 (fun _ => true) true 42 v d ps) : ∃ l, TransArg W v l := by
  obtain ⟨v0, n0, y0, rfl, h0⟩ := open_agg1 Tryd.underlying42 (by kernel_rfl) (by kernel_rfl) hv h
  rcases slice_fieldsC Tryd.underlying40 Tryd.underlying89 (by kernel_rfl) (by kernel_rfl) h0 with rfl | ⟨a, n, cap, rfl, hl, hm, hi⟩
  · exact ⟨[], none, 0, rfl, Reads.none_, by simp, by simp, fun c hc => by simp at hc⟩
  · obtain ⟨l, hll, hp⟩ := list_of_fun n (fun i (c : TurnD) => (W.cell? (a.add (i * 2)) = some (.string c.1) ∧ W.cell? (a.add (i * 2 + 1)) = some (.string c.2)) ∧ c.1.size ≤ maxLen ∧ c.2.size ≤ maxLen) (fun i hin => by
      obtain ⟨v0, k0, y0, h0, t0⟩ := hi i hin 0 _ rfl
      obtain ⟨v1, k1, y1, h1, t1⟩ := hi i hin 1 _ rfl
      obtain ⟨s, hs, -, ws⟩ := DataW.trod_string Tryd.underlying9 t0
      obtain ⟨t, hst, -, wt⟩ := DataW.trod_string Tryd.underlying9 t1
      simp only [List.cons.injEq, and_true] at hs hst
      subst hs hst
      exact ⟨(s, t), ⟨h0, h1⟩, ws, wt⟩)
    subst hll
    refine ⟨l, some a, cap, rfl, ⟨turnsV_length l, fun hn => ?_⟩, hl, hm, fun c hc => ?_⟩
    · obtain ⟨c0, hc0⟩ := some_at l hn
      have p0 := (hp 0 c0 hc0).1.1
      obtain ⟨b, off, _, ha, hb, ho⟩ := plain_at p0
      have ha' := ha rfl
      subst ha'
      refine ⟨b, off, rfl, World.block_lt_of_cell? W _ (by simpa [Addr.add] using p0), fun j u hj => ?_⟩
      obtain ⟨i, r, c, hr, rfl, hin, hc, hu⟩ := turnsV_get hj
      obtain ⟨⟨q0, q1⟩, _⟩ := hp i c hc
      rw [← Go.WideShapes.add_plain]
      rcases hr with rfl | rfl
      · simp [turnV] at hu; subst hu; exact q0
      · simp [turnV] at hu; subst hu; exact q1
    · obtain ⟨i, hic⟩ := List.mem_iff_getElem?.1 hc
      exact (hp i c hic).2
end Go.Proofs.YthokekgdiebhjaaDoor
