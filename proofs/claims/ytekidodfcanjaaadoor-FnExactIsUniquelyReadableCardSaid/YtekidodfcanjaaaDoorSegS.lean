/-
  The reference's longest match and segmentation.
-/
import Derived.Test.YtekidodfcanjaaaDoorAtS
namespace Go.Proofs.YtekidodfcanjaaaDoor
open Go.RowKit
set_option linter.unusedVariables false
set_option linter.unusedSimpArgs false
set_option maxRecDepth 100000

theorem Reads.part {w : World} {B b off : Nat} {zs : List Int} (h : Reads w B 1 (some ⟨b, off, none⟩) zs.length (ints zs)) {i n : Nat} (hi : i + n ≤ zs.length) : Reads w B 1 (some ⟨b, off + i, none⟩) (part zs i n).length (ints (part zs i n)) := by
  refine ⟨by simp [ints], fun hn => ?_⟩
  rw [part_length hi] at hn
  obtain ⟨b', off', he, hb, hc⟩ := h.2 (by omega)
  simp only [Option.some.injEq, Addr.mk.injEq, and_true] at he
  obtain ⟨rfl, rfl⟩ := he
  refine ⟨_, _, rfl, hb, fun j u hj => ?_⟩
  have hjl : j < n := by have := (List.getElem?_eq_some_iff.1 hj).1; simp only [ints, List.length_map, part_length hi] at this; exact this
  rw [Nat.add_assoc]
  refine hc (i + j) u ?_
  simp only [ints, Go.Proofs.YtekidodfcanjaaaDoor.part, List.map_take, List.map_drop] at hj
  rw [List.getElem?_take_of_lt hjl, List.getElem?_drop] at hj
  simpa [ints] using hj

theorem piecesV_snoc_at (ps : List PieceD) (i m : Nat) (t : ByteArray) : (piecesV ps ++ [Value.int .i64 (i : Int), .int .i64 (m : Int), .string t])[ps.length * 3 + 1]? = some (.int .i64 (m : Int)) := by
  have h := (piecesV_at (ps := ps ++ [(i, m, t)]) (k := ps.length) (p := (i, m, t)) (by simp)).2.1
  rw [piecesV_snoc] at h
  exact h
/-- A block of three cells. -/
theorem tryN_long' {l : List EntD} {zs : List Int} {i n : Nat} (h0 : 0 < n) (h : ¬ i + n ≤ zs.length) : tryN l zs i n = tryN l zs i (n - 1) := by
  obtain ⟨m, rfl⟩ : ∃ m, n = m + 1 := ⟨n - 1, by omega⟩
  exact tryN_long h
theorem tryN_hit' {l : List EntD} {zs : List Int} {i n : Nat} {t : ByteArray} (h0 : 0 < n) (h : i + n ≤ zs.length) (ht : lookD l (part zs i n) = some t) : tryN l zs i n = (n, t) := by
  obtain ⟨m, rfl⟩ : ∃ m, n = m + 1 := ⟨n - 1, by omega⟩
  exact tryN_hit h ht
theorem tryN_miss' {l : List EntD} {zs : List Int} {i n : Nat} (h0 : 0 < n) (h : i + n ≤ zs.length) (ht : lookD l (part zs i n) = none) : tryN l zs i n = tryN l zs i (n - 1) := by
  obtain ⟨m, rfl⟩ : ∃ m, n = m + 1 := ⟨n - 1, by omega⟩
  exact tryN_miss h ht

section
variable {P : Program}
theorem wpList_append_threeG {wr : World} {v : Value} {n : Nat} {xs : List Value} {base : Nat} {e : TypeId} (hown : wr.ownsRow base e 3 v n xs) (hbase : base ≤ wr.heap.size)
    (s x : Operand) (t : TypeId) {z : Value} {bytes : Nat} (ht : P.underlying t = some (.slice e)) (hi : (P.info? e).map (fun i => (i.zero, i.size, i.bytes)) = some (some z, 3, bytes))
    (hbytes : (n + 1) * bytes ≤ 140737488355328) (hb : n + 1 ≤ maxLen)
    {ops : Array Oper} {rest : List Oper} {o : Oper} {a : Act} {Q : Exit → Act → World → Prop} {y0 y1 y2 : Value} {g : Nat}
    (hh : o.guard = none ∧ o.op = .call { callee := .builtin .append, args := #[s, x], argTypes := #[t, t] } ∧ a.eval s = v ∧ a.eval x = .slice (some ⟨g, 0, none⟩) 1 1 ∧ y0.oneCell' = true ∧ y1.oneCell' = true ∧ y2.oneCell' = true ∧ z.cells.size = 3)
    (hg : g = wr.heap.size)
    (h : ∀ v' w', w'.ownsRow base e 3 v' (n + 1) (xs ++ [y0, y1, y2]) → wr.grownBy w' v.ownBlock → wpList P ops Q rest (a.put o.dst v') w') :
    wpList P ops Q (o :: rest) a (wr.alloc (.cells #[y0, y1, y2] e)) :=
  wpList_append_cellsG hown hbase s x t ht hi hbytes hb ⟨hh.1, hh.2.1, hh.2.2.1, hh.2.2.2.1, by simp [hh.2.2.2.2.1, hh.2.2.2.2.2.1, hh.2.2.2.2.2.2.1], hh.2.2.2.2.2.2.2, rfl, by decide⟩ hg h
end

end Go.Proofs.YtekidodfcanjaaaDoor
