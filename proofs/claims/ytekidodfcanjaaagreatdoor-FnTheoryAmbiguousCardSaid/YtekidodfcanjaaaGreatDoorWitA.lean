/-
  The order of the search's states: the reference's l22Before and the program's less.
-/
import Derived.Test.YtekidodfcanjaaaGreatDoorDictS
import Derived.Test.YtekidodfcanjaaaGreatDoorTranI
import Derived.Test.YtekidodfcanjaaaGreatDoorDictPl
import Derived.Test.YtekidodfcanjaaaGreatDoorBase
namespace Go.Proofs.YtekidodfcanjaaaGreatDoor
open Go.RowKit
set_option linter.unusedVariables false
set_option linter.unusedSimpArgs false
set_option maxRecDepth 100000

theorem ltA_ne {xs ys : List Int} (h : xs.length ≠ ys.length) : ltA xs ys = decide (xs.length < ys.length) := by
  unfold ltA
  rw [if_neg h]
theorem ltA_eq {xs ys : List Int} (h : xs.length = ys.length) : ltA xs ys = decide (cmpL xs ys < 0) := by
  unfold ltA
  rw [if_pos h]
set_option maxHeartbeats 1000000 in
theorem spec_l22Before (A B : Option Addr) (ca cb : Nat) (xs ys : List Int) (w : World) (hx : Reads w w.heap.size 1 A xs.length (ints xs)) (hy : Reads w w.heap.size 1 B ys.length (ints ys)) (hn : xs.length ≤ 1048576) (hm : ys.length ≤ 1048576) :
    Calls Tryz.prog 75 #[.slice A xs.length ca, .slice B ys.length cb] w fun e w' => e = .returned (.bool (ltA xs ys)) ∧ Below w.heap.size w w' := by
  have HX := Lib.hid hx
  have HY := Lib.hid hy
  clear hx hy
  by_cases hl : xs.length = ys.length
  · have h2 : ((xs.length : Int) != (ys.length : Int)) = false := by rw [hl]; simp
    rw [ltA_eq hl]
    have HL := Lib.hid hl
    clear hl
    go_enter Tryz.func75, Tryz.ntmps75
    go_wp2_with fail
    refine (spec_l4Compare A B ca cb xs ys _ HX.out HY.out hn hm).mono ?_
    rintro e w1 ⟨rfl, b1⟩
    go_wp2
    go_ret
    exact ⟨rfl, b1⟩
  · have h2 : ((xs.length : Int) != (ys.length : Int)) = true := by simp; omega
    rw [ltA_ne hl]
    clear hl
    go_enter Tryz.func75, Tryz.ntmps75
    go_wp2
    go_ret
    exact ⟨rfl, Below.refl _ _⟩
set_option maxHeartbeats 1000000 in
theorem impl_less (A B : Option Addr) (ca cb : Nat) (u v : Value) (xs ys : List Int) (w : World) (hx : Reads w w.heap.size 1 A xs.length (ints xs)) (hy : Reads w w.heap.size 1 B ys.length (ints ys)) (hn : xs.length ≤ 1048576) (hm : ys.length ≤ 1048576) (hu : u.cells = #[u]) (hv : v.cells = #[v]) :
    Calls Tryz.prog 77 #[.agg #[.slice A xs.length ca, u], .agg #[.slice B ys.length cb, v]] w fun e w' => e = .returned (.bool (ltA xs ys)) ∧ Below w.heap.size w w' := by
  obtain ⟨W1, hW1⟩ : ∃ W1, W1 = (w.alloc (.cells #[.slice A xs.length ca, u] 96)).alloc (.cells #[.slice B ys.length cb, v] 96) := ⟨_, rfl⟩
  have t0 : Two W1 w.heap.size 96 (.slice A xs.length ca) u := by rw [hW1]; exact (Two.new w _ _ _).far ((Below.refl _ _).alloc (Nat.le_refl _) _)
  have t1 : Two W1 (w.heap.size + 1) 96 (.slice B ys.length cb) v := by
    rw [hW1]
    have := Two.new (w.alloc (.cells #[.slice A xs.length ca, u] 96)) 96 (.slice B ys.length cb) v
    simpa using this
  have b1 : Below w.heap.size w W1 := by rw [hW1]; exact ((Below.refl _ _).alloc (Nat.le_refl _) _).alloc (by simp) _
  have HX := Lib.hid ((hx.below b1).more b1.size)
  have HY := Lib.hid ((hy.below b1).more b1.size)
  have c0 := t0.cell0
  have c1 := t1.cell0
  clear hx hy
  by_cases hl : xs.length = ys.length
  · have h2 : ((xs.length : Int) != (ys.length : Int)) = false := by rw [hl]; simp
    rw [ltA_eq hl]
    have HL := Lib.hid hl
    clear hl
    go_enter Tryz.func77, Tryz.ntmps77
    go_upto_region 1 with fail
    try rw [← hW1]
    clear hW1
    go_wp2_with fail
    refine (slices_Compare_int A B ca cb xs ys _ HX.out HY.out hn hm).mono ?_
    rintro e w1 ⟨rfl, rfl⟩
    go_wp2
    go_ret
    exact ⟨rfl, b1⟩
  · have h2 : ((xs.length : Int) != (ys.length : Int)) = true := by simp; omega
    rw [ltA_ne hl]
    clear hl
    go_enter Tryz.func77, Tryz.ntmps77
    go_upto_region 1 with fail
    try rw [← hW1]
    clear hW1
    go_wp2
    go_ret
    exact ⟨rfl, b1⟩
end Go.Proofs.YtekidodfcanjaaaGreatDoor
