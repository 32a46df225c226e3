/-
  An argument of type []Cue, opened.
-/
import Derived.Test.YtdogppoflfjigaaDoorValid
import Derived.Test.YtdogppoflfjigaaDoorArg
namespace Go.Proofs.YtdogppoflfjigaaDoor
open Go.ChangeShapes Go.WideShapes Go.Deep
set_option linter.unusedVariables false

/-- What a law is told of a slice of cues that came in. -/
def CuesArg (W : World) (v : Value) (l : List CueD) : Prop :=
  ∃ A cap, v = .slice A l.length cap ∧ Reads W W.heap.size 3 A l.length (cuesV l) ∧ l.length ≤ cap ∧ cap ≤ maxLen ∧ (∀ c ∈ l, c.2.2.size ≤ maxLen) ∧ Fits l

/-- The k-th cue's cells, by index. -/
theorem cuesV_get {l : List CueD} {j : Nat} {u : Value} (h : (cuesV l)[j]? = some u) : ∃ i r c, (r = 0 ∨ r = 1 ∨ r = 2) ∧ j = i * 3 + r ∧ i < l.length ∧ l[i]? = some c ∧ (cueV c)[r]? = some u := by
  have hj : j < l.length * 3 := by rw [← cuesV_length]; exact (List.getElem?_eq_some_iff.1 h).1
  obtain ⟨i, r, hr, rfl⟩ : ∃ i r, (r = 0 ∨ r = 1 ∨ r = 2) ∧ j = i * 3 + r := ⟨j / 3, j % 3, by omega, by omega⟩
  obtain ⟨c, hc⟩ := some_at l (show i < l.length by omega)
  obtain ⟨h1, h2, h3⟩ := cuesV_at hc
  refine ⟨i, r, c, hr, rfl, by omega, hc, ?_⟩
  rcases hr with rfl | rfl | rfl
  · rw [Nat.add_zero, h1] at h; rw [← h]; rfl
  · rw [h2] at h; rw [← h]; rfl
  · rw [h3] at h; rw [← h]; rfl

set_option maxRecDepth 100000 in
theorem open_cues {H : Type} {enc : TypeId × Value → H} {W : World} {base : Nat} {v : Value} {d : DataW H} {ps : List MemPlace} (hv : Value.okWide Tryd.prog W .any base 25 v)
    (h : DataW.Trod enc Tryd.prog W 0 (fun _ => true) true 25 v d ps) : ∃ l, CuesArg W v l := by
  obtain ⟨A, n, cap, rfl⟩ := okWide_slice Tryd.underlying25 hv
  rcases slice_fields Tryd.underlying25 Tryd.underlying50 (by kernel_rfl) (by kernel_rfl) h with ⟨rfl, rfl, rfl⟩ | ⟨a, rfl, hl, hm, hi⟩
  · exact ⟨[], none, 0, rfl, Reads.none_, by simp, by simp, by simp, fun c hc => by simp at hc⟩
  · obtain ⟨l, hll, hp⟩ := list_of_fun n (fun i (c : CueD) => (W.cell? (a.add (i * 3)) = some (.int .i64 c.1) ∧ W.cell? (a.add (i * 3 + 1)) = some (.int .i64 c.2.1) ∧ W.cell? (a.add (i * 3 + 2)) = some (.string c.2.2)) ∧ c.2.2.size ≤ maxLen ∧
        (Lit.int .i64 c.1).wf = true ∧ (Lit.int .i64 c.2.1).wf = true) (fun i hin => by
      obtain ⟨v0, k0, y0, h0, t0⟩ := hi i hin 0 _ rfl
      obtain ⟨v1, k1, y1, h1, t1⟩ := hi i hin 1 _ rfl
      obtain ⟨v2, k2, y2, h2, t2⟩ := hi i hin 2 _ rfl
      obtain ⟨s, hs, -, ws⟩ := DataW.trod_int Tryd.underlying3 t0
      obtain ⟨e, he, -, we⟩ := DataW.trod_int Tryd.underlying3 t1
      obtain ⟨t, hst, -, wt⟩ := DataW.trod_string Tryd.underlying9 t2
      simp only [List.cons.injEq, and_true] at hs he hst
      subst hs he hst
      exact ⟨(s, e, t), ⟨h0, h1, h2⟩, wt, ws, we⟩)
    subst hll
    refine ⟨l, some a, cap, rfl, ⟨cuesV_length l, fun hn => ?_⟩, hl, hm, fun c hc => ?_, fun c hc => ?_⟩
    · obtain ⟨c0, hc0⟩ := some_at l hn
      have p0 := (hp 0 c0 hc0).1.1
      obtain ⟨b, off, _, ha, hb, ho⟩ := plain_at p0
      have ha' := ha rfl
      subst ha'
      refine ⟨b, off, rfl, World.block_lt_of_cell? W _ (by simpa [Addr.add] using p0), fun j u hj => ?_⟩
      obtain ⟨i, r, c, hr, rfl, hin, hc, hu⟩ := cuesV_get hj
      obtain ⟨⟨q0, q1, q2⟩, _⟩ := hp i c hc
      rw [← Go.WideShapes.add_plain]
      rcases hr with rfl | rfl | rfl
      · simp [cueV] at hu; subst hu; exact q0
      · simp [cueV] at hu; subst hu; exact q1
      · simp [cueV] at hu; subst hu; exact q2
    · obtain ⟨i, hic⟩ := List.mem_iff_getElem?.1 hc
      exact (hp i c hic).2.1
    · obtain ⟨i, hic⟩ := List.mem_iff_getElem?.1 hc
      have h1 := (hp i c hic).2.2.1
      have h2 := (hp i c hic).2.2.2
      simp [Lit.wf, IntKind.min, IntKind.max, IntKind.signed, IntKind.bits] at h1 h2
      exact ⟨h1, h2⟩
end Go.Proofs.YtdogppoflfjigaaDoor
