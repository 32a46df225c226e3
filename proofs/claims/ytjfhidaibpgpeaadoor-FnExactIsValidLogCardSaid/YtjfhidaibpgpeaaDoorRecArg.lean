/-
  Arguments of type LogRecord and Log, opened; the laws' helpers over them.
-/
import Derived.Test.YtjfhidaibpgpeaaDoorRecPl
import Derived.Test.YtjfhidaibpgpeaaDoorRows
import Derived.Test.YtjfhidaibpgpeaaDoorBase
namespace Go.Proofs.YtjfhidaibpgpeaaDoor
open Go.RowKit Go.ChangeShapes Go.WideShapes Go.Deep
set_option linter.unusedVariables false
set_option maxRecDepth 100000

theorem len_two {α : Type} {l : List α} (h : l.length = 2) : ∃ x y, l = [x, y] := by
  match l, h with
  | [x, y], _ => exact ⟨x, y, rfl⟩
theorem len_three {α : Type} {l : List α} (h : l.length = 3) : ∃ x y z, l = [x, y, z] := by
  match l, h with
  | [x, y, z], _ => exact ⟨x, y, z, rfl⟩
section
variable {H : Type} {enc : TypeId × Value → H} {P : Program} {w : World}
/-- A struct of two fields of one cell each, by value. -/
theorem open_agg2 {b0 : Nat} {r : Reach} {t : TypeId} {f0 f1 : Field} {v : Value} {d : DataW H} {p : List MemPlace} (hs : P.underlying t = some (.struct #[f0, f1])) (hone : oneCellFields P #[f0, f1] = true) (hC : P.cellsOf t = 2)
    (hv : Value.okWide P w r b0 t v) (h : DataW.Trod enc P w 0 (fun _ => true) true t v d p) :
    ∃ v0 v1 n0 n1 y0 y1, v = .agg #[v0, v1] ∧ DataW.trod enc P w 0 (fun _ => true) true n0 f0.type [v0] = some y0 ∧ DataW.trod enc P w 0 (fun _ => true) true n1 f1.type [v1] = some y1 := by
  obtain ⟨cs, rfl, hsz⟩ := okWide_struct hs hv
  obtain ⟨fuel, hf⟩ := h
  obtain ⟨_, hfl⟩ := fields_of hs hone (by simpa using hC) hf
  obtain ⟨v0, k, y, hv0, hy⟩ := hfl 0 f0 rfl
  obtain ⟨v1, k1, y1, hv1, hy1⟩ := hfl 1 f1 rfl
  obtain ⟨l⟩ := cs
  have hl : l.length = 2 := by simpa [hC] using hsz
  obtain ⟨x, z, rfl⟩ := len_two hl
  simp [Value.cells] at hv0 hv1
  subst hv0 hv1
  exact ⟨_, _, k, k1, y, y1, rfl, hy, hy1⟩
theorem open_agg3 {b0 : Nat} {r : Reach} {t : TypeId} {f0 f1 f2 : Field} {v : Value} {d : DataW H} {p : List MemPlace} (hs : P.underlying t = some (.struct #[f0, f1, f2])) (hone : oneCellFields P #[f0, f1, f2] = true) (hC : P.cellsOf t = 3)
    (hv : Value.okWide P w r b0 t v) (h : DataW.Trod enc P w 0 (fun _ => true) true t v d p) :
    ∃ v0 v1 v2 n0 n1 n2 y0 y1 y2, v = .agg #[v0, v1, v2] ∧ DataW.trod enc P w 0 (fun _ => true) true n0 f0.type [v0] = some y0 ∧ DataW.trod enc P w 0 (fun _ => true) true n1 f1.type [v1] = some y1 ∧ DataW.trod enc P w 0 (fun _ => true) true n2 f2.type [v2] = some y2 := by
  obtain ⟨cs, rfl, hsz⟩ := okWide_struct hs hv
  obtain ⟨fuel, hf⟩ := h
  obtain ⟨_, hfl⟩ := fields_of hs hone (by simpa using hC) hf
  obtain ⟨v0, k, y, hv0, hy⟩ := hfl 0 f0 rfl
  obtain ⟨v1, k1, y1, hv1, hy1⟩ := hfl 1 f1 rfl
  obtain ⟨v2, k2, y2, hv2, hy2⟩ := hfl 2 f2 rfl
  obtain ⟨l⟩ := cs
  have hl : l.length = 3 := by simpa [hC] using hsz
  obtain ⟨x, z, u, rfl⟩ := len_three hl
  simp [Value.cells] at hv0 hv1 hv2
  subst hv0 hv1 hv2
  exact ⟨_, _, _, k, k1, k2, y, y1, y2, rfl, hy, hy1, hy2⟩
end

/-! ### Records -/
def RecArg (W : World) (v : Value) (e : RecD) : Prop := v = .agg #[.string e.1, .string e.2] ∧ e.1.size ≤ maxLen ∧ e.2.size ≤ maxLen
theorem open_rec {H : Type} {enc : TypeId × Value → H} {W : World} {base : Nat} {v : Value} {d : DataW H} {ps : List MemPlace} (hv : Value.okWide Tryd.prog W .any base 23 v)
    (h : DataW.Trod enc Tryd.prog W 0 (fun _ => true) true 23 v d ps) : ∃ e, RecArg W v e := by
  obtain ⟨v0, v1, n0, n1, y0, y1, rfl, h0, h1⟩ := open_agg2 Tryd.underlying23 (by kernel_rfl) (by kernel_rfl) hv h
  obtain ⟨s, hs, -, ws⟩ := DataW.trod_string Tryd.underlying9 h0
  obtain ⟨t, hst, -, wt⟩ := DataW.trod_string Tryd.underlying9 h1
  simp only [List.cons.injEq, and_true] at hs hst
  subst hs hst
  exact ⟨(s, t), rfl, ws, wt⟩
theorem toRec_calls (s t : ByteArray) (w : World) :
    Calls Tryd.prog 8 #[.agg #[.string s, .string t]] w fun e' w' => e' = .returned (.agg #[.string s, .string t]) ∧ Below w.heap.size w w' := by
  go_enter Tryd.func8, Tryd.ntmps8
  go_wp2
  exact bodyPost_ret (v := .agg #[.string s, .string t]) (by simp [results, go_sem]) rfl ⟨rfl, (((Below.refl _ _).alloc (Nat.le_refl _) _).alloc (by simp) _).alloc (by simp; omega) _⟩

/-- What is left when two strings are taken off. -/
def szR2 (a b : Nat) (left : Int) : Int := if (a : Int) + (b : Int) ≤ left then left - a - b else -1
theorem szR2_yes {a b : Nat} {left : Int} (h : (a : Int) + (b : Int) ≤ left) : szR2 a b left = left - a - b := if_pos h
theorem szR2_no {a b : Nat} {left : Int} (h : ¬ (a : Int) + (b : Int) ≤ left) : szR2 a b left = -1 := if_neg h
theorem szRec_calls (s t : ByteArray) (left : Int) (w : World) (hs : s.size ≤ maxLen) (ht : t.size ≤ maxLen) (h0 : 0 ≤ left) (h1 : left ≤ 1048576) :
    Calls Tryd.prog 6 #[.agg #[.string s, .string t], .int .i64 left] w fun e' w' => e' = .returned (.int .i64 (szR2 s.size t.size left)) ∧ Below w.heap.size w w' := by
  unfold maxLen at hs ht
  by_cases hl : (s.size : Int) ≤ left
  · by_cases hl2 : (s.size : Int) + (t.size : Int) ≤ left
    · have HL := Lib.hid (szR2_yes hl2)
      have i1 : ¬ left - (s.size : Int) < 0 := by omega
      have i2 : ¬ left - (s.size : Int) - (t.size : Int) < 0 := by omega
      go_enter Tryd.func6, Tryd.ntmps6
      go_wp2
      go_ret
      exact ⟨ret_int HL.out.symm, (Below.refl _ _).alloc (Nat.le_refl _) _⟩
    · have HL := Lib.hid (szR2_no hl2)
      have i1 : ¬ left - (s.size : Int) < 0 := by omega
      have i2 : left - (s.size : Int) - (t.size : Int) < 0 := by omega
      go_enter Tryd.func6, Tryd.ntmps6
      go_wp2
      go_ret
      exact ⟨ret_int HL.out.symm, (Below.refl _ _).alloc (Nat.le_refl _) _⟩
  · have HL := Lib.hid (szR2_no (a := s.size) (b := t.size) (left := left) (by omega))
    have i1 : left - (s.size : Int) < 0 := by omega
    go_enter Tryd.func6, Tryd.ntmps6
    go_wp2
    go_ret
    exact ⟨ret_int HL.out.symm, (Below.refl _ _).alloc (Nat.le_refl _) _⟩
/-! ### Logs -/
def LogArg (W : World) (v : Value) (x : ByteArray × ByteArray × Int) : Prop := v = .agg #[.string x.1, .string x.2.1, .int .i64 x.2.2] ∧ x.1.size ≤ maxLen ∧ x.2.1.size ≤ maxLen ∧ (Lit.int .i64 x.2.2).wf = true
theorem open_log {H : Type} {enc : TypeId × Value → H} {W : World} {base : Nat} {v : Value} {d : DataW H} {ps : List MemPlace} (hv : Value.okWide Tryd.prog W .any base 36 v)
    (h : DataW.Trod enc Tryd.prog W 0 (fun _ => true) true 36 v d ps) : ∃ x, LogArg W v x := by
  obtain ⟨v0, v1, v2, n0, n1, n2, y0, y1, y2, rfl, h0, h1, h2⟩ := open_agg3 Tryd.underlying36 (by kernel_rfl) (by kernel_rfl) hv h
  obtain ⟨s, hs, -, ws⟩ := DataW.trod_string Tryd.underlying9 h0
  obtain ⟨t, hst, -, wt⟩ := DataW.trod_string Tryd.underlying9 h1
  obtain ⟨n, hn, -, wn⟩ := DataW.trod_int Tryd.underlying3 h2
  simp only [List.cons.injEq, and_true] at hs hst hn
  subst hs hst hn
  exact ⟨(s, t, n), rfl, ws, wt, wn⟩
theorem toLog_calls (s t : ByteArray) (n : Int) (w : World) :
    Calls Tryd.prog 15 #[.agg #[.string s, .string t, .int .i64 n]] w fun e' w' => e' = .returned (.agg #[.string s, .string t, .int .i64 n]) ∧ Below w.heap.size w w' := by
  go_enter Tryd.func15, Tryd.ntmps15
  go_wp2
  exact bodyPost_ret (v := .agg #[.string s, .string t, .int .i64 n]) (by simp [results, go_sem]) rfl ⟨rfl, (((Below.refl _ _).alloc (Nat.le_refl _) _).alloc (by simp) _).alloc (by simp; omega) _⟩
theorem szLog_calls (s t : ByteArray) (n : Int) (left : Int) (w : World) (hs : s.size ≤ maxLen) (ht : t.size ≤ maxLen) (h0 : 0 ≤ left) (h1 : left ≤ 1048576) :
    Calls Tryd.prog 13 #[.agg #[.string s, .string t, .int .i64 n], .int .i64 left] w fun e' w' => e' = .returned (.int .i64 (szR2 s.size t.size left)) ∧ Below w.heap.size w w' := by
  unfold maxLen at hs ht
  by_cases hl : (s.size : Int) ≤ left
  · by_cases hl2 : (s.size : Int) + (t.size : Int) ≤ left
    · have HL := Lib.hid (szR2_yes hl2)
      have i1 : ¬ left - (s.size : Int) < 0 := by omega
      have i2 : ¬ left - (s.size : Int) - (t.size : Int) < 0 := by omega
      go_enter Tryd.func13, Tryd.ntmps13
      go_wp2
      go_ret
      exact ⟨ret_int HL.out.symm, (Below.refl _ _).alloc (Nat.le_refl _) _⟩
    · have HL := Lib.hid (szR2_no hl2)
      have i1 : ¬ left - (s.size : Int) < 0 := by omega
      have i2 : left - (s.size : Int) - (t.size : Int) < 0 := by omega
      go_enter Tryd.func13, Tryd.ntmps13
      go_wp2
      go_ret
      exact ⟨ret_int HL.out.symm, (Below.refl _ _).alloc (Nat.le_refl _) _⟩
  · have HL := Lib.hid (szR2_no (a := s.size) (b := t.size) (left := left) (by omega))
    have i1 : left - (s.size : Int) < 0 := by omega
    go_enter Tryd.func13, Tryd.ntmps13
    go_wp2
    go_ret
    exact ⟨ret_int HL.out.symm, (Below.refl _ _).alloc (Nat.le_refl _) _⟩
end Go.Proofs.YtjfhidaibpgpeaaDoor
