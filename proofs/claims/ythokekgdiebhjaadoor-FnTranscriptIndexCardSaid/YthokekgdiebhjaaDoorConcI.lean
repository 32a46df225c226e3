/-
  The program's Concordance.
-/
import Derived.Test.YthokekgdiebhjaaDoorConcS
import Derived.Test.YthokekgdiebhjaaDoorTurnText
namespace Go.Proofs.YthokekgdiebhjaaDoor
open Go.RowKit
set_option linter.unusedVariables false
set_option maxRecDepth 100000

theorem impl_words (s t : ByteArray) (w : World) (ht : t.size ≤ 4194304) (hx : textB t = true) (hm : MaxOk w) :
    Calls Tryd.prog 22 #[.agg #[.string s, .string t]] w (NewStrs (wordsV t) w) := by
  have hb0 : Below w.heap.size w (w.alloc (.cells #[.string s, .string t] 52)) := (Below.refl _ _).alloc (Nat.le_refl _) _
  have HW := Lib.hid (text_words hx)
  have HS := Lib.hid (impl_Split t 32 _ ht (hm.below hb0))
  clear hx hm
  go_enter Tryd.func22, Tryd.ntmps22
  go_wp2_with fail
  refine HS.out.mono ?_
  rintro e w1 ⟨v, rfl, o1, b1⟩
  go_wp2
  go_ret
  exact ⟨v, rfl, by rw [HW.out]; exact ⟨o1.1.base (by simp), o1.2⟩, hb0.trans (b1.mono hb0.size)⟩

theorem strsV_one (l : List ByteArray) : ∀ u ∈ strsV l, u.oneCell' = true := by
  intro u hu
  simp only [strsV, List.mem_map] at hu
  obtain ⟨c, -, rfl⟩ := hu
  rfl
/-- A part of a row, read. -/
theorem reads_part {w : World} {base g n cap : Nat} {e : TypeId} {l : List ByteArray} (h : w.ownsRow base e 1 (.slice (some ⟨g, 0, none⟩) n cap) n (strsV l)) (a k : Nat) (hk : a + k ≤ l.length) :
    Reads w w.heap.size 1 (some ⟨g, a, none⟩) k (strsV ((l.drop a).take k)) := by
  have hn : n = l.length := by have := h.1; rw [strsV_length] at this; omega
  refine ⟨by simp [strsV]; omega, fun _ => ⟨g, a, rfl, (h.lt g rfl).2, fun j u hj => ?_⟩⟩
  have h1 := h.cellAt (a + j) (by
    have := (List.getElem?_eq_some_iff.1 hj).1
    simp [strsV] at this
    omega)
  rw [h1]
  simp only [strsV, List.getElem?_map] at hj ⊢
  rw [List.getElem?_take, List.getElem?_drop] at hj
  split at hj
  · exact hj
  · simp at hj

theorem nearL_V (l : List ByteArray) (n W : Nat) (x : ByteArray) : strsV (nearL l n W x) = strsV (leftL l n W) ++ [.string (brk x)] ++ strsV (rightL l n W) := by simp [nearL, strsV]
theorem nearL_len {l : List ByteArray} {n W : Nat} (x : ByteArray) (h : n < l.length) : (nearL l n W x).length = n - (n - W) + 1 + (min l.length (n + 1 + W) - (n + 1)) := by
  simp only [nearL, List.length_append, List.length_cons, leftL_len h, rightL_len h]
  omega
theorem nearL_size {l : List ByteArray} {n W : Nat} {x : ByteArray} (hx : x.size ≤ 80) (h : ∀ y ∈ l, y.size ≤ 80) : ∀ y ∈ nearL l n W x, y.size ≤ 82 := by
  intro y hy
  simp only [nearL, List.mem_append, List.mem_cons] at hy
  rcases hy with hy | rfl | hy
  · have := h y (leftL_mem hy); omega
  · rw [brk_size]; omega
  · have := h y (rightL_mem hy); omega

end Go.Proofs.YthokekgdiebhjaaDoor
