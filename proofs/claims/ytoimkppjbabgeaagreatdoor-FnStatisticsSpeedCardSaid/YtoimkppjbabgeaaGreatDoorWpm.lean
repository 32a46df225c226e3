/-
  Words per minute, the reference's and the program's; the reference's draw of words and milliseconds.
-/
import Derived.Test.YtoimkppjbabgeaaGreatDoorIn
import Derived.Test.YtoimkppjbabgeaaGreatDoorPutS
namespace Go.Proofs.YtoimkppjbabgeaaGreatDoor
open Go.RowKit
set_option linter.unusedVariables false
set_option linter.unusedSimpArgs false
set_option maxRecDepth 100000

def wpmB (a b : Int) : Bool := inB a 0 1000000 && inB b 1 99999999
def wpmV (a b : Int) : Int := if wpmB a b then a * 60000 / b else 0
theorem wpm_yes {a b : Int} (h1 : 0 ≤ a) (h2 : a ≤ 1000000) (h3 : 1 ≤ b) (h4 : b ≤ 99999999) : wpmB a b = true ∧ wpmV a b = a * 60000 / b := by
  have h : wpmB a b = true := by simp [wpmB, inB]; omega
  exact ⟨h, by rw [wpmV, if_pos h]⟩
theorem wpm_no {a b : Int} (h : ¬ (0 ≤ a ∧ a ≤ 1000000 ∧ 1 ≤ b ∧ b ≤ 99999999)) : wpmB a b = false ∧ wpmV a b = 0 := by
  have h1 : wpmB a b = false := by
    cases hb : wpmB a b with
    | false => rfl
    | true => exact absurd (by simp [wpmB, inB] at hb; omega) h
  exact ⟨h1, by rw [wpmV, h1]; rfl⟩
/-- Speed is rounded down. -/
theorem wpm_down {a b : Int} (h : wpmB a b = true) : 0 ≤ wpmV a b ∧ wpmV a b ≤ 60000000000 ∧ 0 ≤ wpmV a b * b ∧ wpmV a b * b ≤ a * 60000 ∧ a * 60000 < (wpmV a b + 1) * b ∧ (wpmV a b + 1) * b ≤ 60100000000 ∧ 0 ≤ a ∧ a ≤ 1000000 ∧ 1 ≤ b ∧ b ≤ 99999999 := by
  have hb : 0 ≤ a ∧ a ≤ 1000000 ∧ 1 ≤ b ∧ b ≤ 99999999 := by simp [wpmB, inB] at h; omega
  rw [(wpm_yes hb.1 hb.2.1 hb.2.2.1 hb.2.2.2).2]
  have e := Int.emod_def (a * 60000) b
  have m0 := Int.emod_nonneg (a * 60000) (show b ≠ 0 by omega)
  have m1 := Int.emod_lt_of_pos (a * 60000) (show 0 < b by omega)
  have d0 : 0 ≤ a * 60000 / b := Int.ediv_nonneg (by omega) (by omega)
  have d1 : a * 60000 / b ≤ a * 60000 := Int.ediv_le_self _ (by omega)
  have n0 := Int.mul_nonneg d0 (show 0 ≤ b by omega)
  obtain ⟨q, hq⟩ : ∃ q, q = a * 60000 / b := ⟨_, rfl⟩
  rw [← hq] at e d0 d1 n0 ⊢
  obtain ⟨p, hp⟩ : ∃ p, p = q * b := ⟨_, rfl⟩
  have s : (q + 1) * b = p + b := by rw [Int.add_mul, Int.one_mul, ← hp]
  rw [s, ← hp]
  rw [← hp] at n0
  rw [Int.mul_comm b q, ← hp] at e
  clear hp s hq
  refine ⟨d0, by omega, n0, by omega, by omega, by omega, hb⟩

set_option maxHeartbeats 1000000 in
theorem spec_WPM (a b : Int) (w : World) : Calls Tryz.prog 21 #[.int .i64 a, .int .i64 b] w fun e w' => e = .returned (.tuple #[.int .i64 (wpmV a b), .bool (wpmB a b)]) ∧ w = w' := by
  by_cases h1 : 0 ≤ a
  · by_cases h2 : a ≤ 1000000
    · by_cases h3 : 1 ≤ b
      · by_cases h4 : b ≤ 99999999
        · rw [(wpm_yes h1 h2 h3 h4).1, (wpm_yes h1 h2 h3 h4).2]
          have hd : 0 ≤ a * 60000 / b := Int.ediv_nonneg (by omega) (by omega)
          have hd2 : a * 60000 / b ≤ a * 60000 := Int.ediv_le_self _ (by omega)
          go_enter Tryz.func21, Tryz.ntmps21
          go_wp2
          go_ret2
          exact ⟨rfl, rfl⟩
        · rw [(wpm_no (by omega : ¬ (0 ≤ a ∧ a ≤ 1000000 ∧ 1 ≤ b ∧ b ≤ 99999999))).1, (wpm_no (by omega : ¬ (0 ≤ a ∧ a ≤ 1000000 ∧ 1 ≤ b ∧ b ≤ 99999999))).2]
          go_enter Tryz.func21, Tryz.ntmps21
          go_wp2
          go_ret2
          exact ⟨rfl, rfl⟩
      · rw [(wpm_no (by omega : ¬ (0 ≤ a ∧ a ≤ 1000000 ∧ 1 ≤ b ∧ b ≤ 99999999))).1, (wpm_no (by omega : ¬ (0 ≤ a ∧ a ≤ 1000000 ∧ 1 ≤ b ∧ b ≤ 99999999))).2]
        go_enter Tryz.func21, Tryz.ntmps21
        go_wp2
        go_ret2
        exact ⟨rfl, rfl⟩
    · rw [(wpm_no (by omega : ¬ (0 ≤ a ∧ a ≤ 1000000 ∧ 1 ≤ b ∧ b ≤ 99999999))).1, (wpm_no (by omega : ¬ (0 ≤ a ∧ a ≤ 1000000 ∧ 1 ≤ b ∧ b ≤ 99999999))).2]
      go_enter Tryz.func21, Tryz.ntmps21
      go_wp2
      go_ret2
      exact ⟨rfl, rfl⟩
  · rw [(wpm_no (by omega : ¬ (0 ≤ a ∧ a ≤ 1000000 ∧ 1 ≤ b ∧ b ≤ 99999999))).1, (wpm_no (by omega : ¬ (0 ≤ a ∧ a ≤ 1000000 ∧ 1 ≤ b ∧ b ≤ 99999999))).2]
    go_enter Tryz.func21, Tryz.ntmps21
    go_wp2
    go_ret2
    exact ⟨rfl, rfl⟩

set_option maxHeartbeats 1000000 in
theorem impl_WPM (a b : Int) (w : World) : Calls Tryz.prog 20 #[.int .i64 a, .int .i64 b] w fun e w' => e = .returned (.tuple #[.int .i64 (wpmV a b), .bool (wpmB a b)]) ∧ w = w' := by
  by_cases h1 : 0 ≤ a
  · by_cases h2 : a ≤ 1000000
    · by_cases h3 : 1 ≤ b
      · by_cases h4 : b ≤ 99999999
        · rw [(wpm_yes h1 h2 h3 h4).1, (wpm_yes h1 h2 h3 h4).2]
          have hm : 60000 * a = a * 60000 := Int.mul_comm _ _
          have hd : 0 ≤ a * 60000 / b := Int.ediv_nonneg (by omega) (by omega)
          have hd2 : a * 60000 / b ≤ a * 60000 := Int.ediv_le_self _ (by omega)
          go_enter Tryz.func20, Tryz.ntmps20
          go_wp2
          go_ret2
          exact ⟨rfl, rfl⟩
        · rw [(wpm_no (by omega : ¬ (0 ≤ a ∧ a ≤ 1000000 ∧ 1 ≤ b ∧ b ≤ 99999999))).1, (wpm_no (by omega : ¬ (0 ≤ a ∧ a ≤ 1000000 ∧ 1 ≤ b ∧ b ≤ 99999999))).2]
          go_enter Tryz.func20, Tryz.ntmps20
          go_wp2
          go_ret2
          exact ⟨rfl, rfl⟩
      · rw [(wpm_no (by omega : ¬ (0 ≤ a ∧ a ≤ 1000000 ∧ 1 ≤ b ∧ b ≤ 99999999))).1, (wpm_no (by omega : ¬ (0 ≤ a ∧ a ≤ 1000000 ∧ 1 ≤ b ∧ b ≤ 99999999))).2]
        go_enter Tryz.func20, Tryz.ntmps20
        go_wp2
        go_ret2
        exact ⟨rfl, rfl⟩
    · rw [(wpm_no (by omega : ¬ (0 ≤ a ∧ a ≤ 1000000 ∧ 1 ≤ b ∧ b ≤ 99999999))).1, (wpm_no (by omega : ¬ (0 ≤ a ∧ a ≤ 1000000 ∧ 1 ≤ b ∧ b ≤ 99999999))).2]
      go_enter Tryz.func20, Tryz.ntmps20
      go_wp2
      go_ret2
      exact ⟨rfl, rfl⟩
  · rw [(wpm_no (by omega : ¬ (0 ≤ a ∧ a ≤ 1000000 ∧ 1 ≤ b ∧ b ≤ 99999999))).1, (wpm_no (by omega : ¬ (0 ≤ a ∧ a ≤ 1000000 ∧ 1 ≤ b ∧ b ≤ 99999999))).2]
    go_enter Tryz.func20, Tryz.ntmps20
    go_wp2
    go_ret2
    exact ⟨rfl, rfl⟩

/-! ### The draw -/
def wpm1 (x y : Nat) : List Int := [(x : Int), (y : Int), 0, 1000000, 1000001, -1]
def wpm2 (x : Nat) : List Int := [1 + (x : Int) * 97, 60000, 1, 99999999, 100000000, 0]
set_option maxHeartbeats 4000000 in
theorem drawWPM_calls (A : Option Addr) (n cap : Nat) (zs : List Int) (w : World) (h : Ints .u8 w A n cap zs) : Calls Tryz.prog 18 #[.slice A n cap] w fun e w' => ∃ a b : Int, e = .returned (.tuple #[.int .i64 a, .int .i64 b]) ∧ Below w.heap.size w w' := by
  have hc0 := cur_newD h 46
  have hb0 : Below w.heap.size w (w.alloc (.cells #[.slice A n cap, .int .i64 0, .int .u64 0] 46)) := (Below.refl _ _).alloc (Nat.le_refl _) _
  have hsz0 : (w.alloc (.cells #[.slice A n cap, .int .i64 0, .int .u64 0] 46)).heap.size = w.heap.size + 1 := by simp
  clear h
  go_enter Tryz.func18, Tryz.ntmps18
  go_wp2_with fail
  refine (pick_calls w.heap.size 0 300 _ hc0 (by omega) (by omega) (by omega)).mono ?_
  rintro e w1 ⟨x0, rfl, hx0, hc1, ho1⟩
  have HB1 := Lib.hid (hb0.trans (ho1.below (B := w.heap.size) (Nat.le_refl _) (by omega)))
  have HC1 := Lib.hid hc1
  have hg1 := hc1.1
  clear hc1 ho1 hb0 hc0 hsz0
  go_wp2_with fail
  refine (pick_calls w.heap.size 2 300 _ HC1.out (by omega) (by omega) (by omega)).mono ?_
  rintro e w2 ⟨x, rfl, hx, hc2, ho2⟩
  have HB2 := Lib.hid (HB1.out.trans (ho2.below (B := w.heap.size) (Nat.le_refl _) (by omega)))
  have HC2 := Lib.hid hc2
  have hg2 := hc2.1
  clear hc2 ho2
  go_wp2_with fail
  refine (pick_calls w.heap.size 4 4 _ (HC2.out.alloc (.cells ((wpm1 x0 x).map (Value.int .i64)).toArray 3)) (by omega) (by omega) (by omega)).mono ?_
  rintro e w3 ⟨y, rfl, hy, hc3, ho3⟩
  have hy3 : y < 4 := by omega
  have hcl : ∀ j t, (wpm1 x0 x)[j]? = some t → w3.cell? ⟨w2.heap.size, j, none⟩ = some (.int .i64 t) := fun j t ht => (ho3.cell (p := ⟨w2.heap.size, j, none⟩) (by simp) (.inr (by simp only; omega))).trans (new_at (w := w2) (xs := (wpm1 x0 x).map (Value.int .i64)) (by simp [ht]))
  have hw3 := ho3.size
  have HB3 := Lib.hid ((HB2.out.alloc HB2.out.size _).trans (ho3.below (B := w.heap.size) (Nat.le_refl _) (by simp; omega)))
  have HC3 := Lib.hid hc3
  have HCL := Lib.hid hcl
  have HW3 := Lib.hid (show w2.heap.size < w3.heap.size by simp at hw3; omega)
  have hg3 := hc3.1
  have i0 : (0 : Int) ≤ 3 + (y : Int) := by omega
  have i1 : 3 + (y : Int) ≤ 6 := by omega
  have i2 : (3 + (y : Int)).toNat = 3 + y := by omega
  have i3 : 3 + y ≤ 6 := by omega
  clear hc3 ho3 hcl hw3
  go_wp2_with fail
  refine (among_calls w.heap.size 6 w2.heap.size _ 6 (wpm1 x0 x) _ HC3.out (by omega) (by omega) (by show 3 + y ≤ 6; omega) (by show 6 ≤ 65535; decide) (by omega) HW3.out HCL.out).mono ?_
  rintro e w4 ⟨num, rfl, hnum, hc4, ho4⟩
  have HB4 := Lib.hid (HB3.out.trans (ho4.below (B := w.heap.size) (Nat.le_refl _) HB3.out.size))
  have HC4 := Lib.hid hc4
  have hg4 := hc4.1
  clear hc4 ho4 hnum i0 i1 i2 i3
  go_wp2_with fail
  refine (pick_calls w.heap.size 8 2000 _ HC4.out (by omega) (by omega) (by omega)).mono ?_
  rintro e w5 ⟨x2, rfl, hx2, hc5, ho5⟩
  have HB5 := Lib.hid (HB4.out.trans (ho5.below (B := w.heap.size) (Nat.le_refl _) HB4.out.size))
  have HC5 := Lib.hid hc5
  have hg5 := hc5.1
  clear hc5 ho5
  go_wp2_with fail
  refine (pick_calls w.heap.size 10 4 _ (HC5.out.alloc (.cells ((wpm2 x2).map (Value.int .i64)).toArray 3)) (by omega) (by omega) (by omega)).mono ?_
  rintro e w6 ⟨z, rfl, hz, hc6, ho6⟩
  have hcl6 : ∀ j t, (wpm2 x2)[j]? = some t → w6.cell? ⟨w5.heap.size, j, none⟩ = some (.int .i64 t) := fun j t ht => (ho6.cell (p := ⟨w5.heap.size, j, none⟩) (by simp) (.inr (by simp only; omega))).trans (new_at (w := w5) (xs := (wpm2 x2).map (Value.int .i64)) (by simp [ht]))
  have hw6 := ho6.size
  have HB6 := Lib.hid ((HB5.out.alloc HB5.out.size _).trans (ho6.below (B := w.heap.size) (Nat.le_refl _) (by simp; omega)))
  have HC6 := Lib.hid hc6
  have HCL6 := Lib.hid hcl6
  have HW6 := Lib.hid (show w5.heap.size < w6.heap.size by simp at hw6; omega)
  clear hc6 ho6 hcl6 hw6
  have hz9 : z < 4 := by omega
  have i0 : (0 : Int) ≤ 3 + (z : Int) := by omega
  have i1 : 3 + (z : Int) ≤ 6 := by omega
  have i2 : (3 + (z : Int)).toNat = 3 + z := by omega
  have i3 : 3 + z ≤ 6 := by omega
  go_wp2_with fail
  refine (among_calls w.heap.size 12 w5.heap.size _ 6 (wpm2 x2) _ HC6.out (by omega) (by omega) (by show 3 + z ≤ 6; omega) (by show 6 ≤ 65535; decide) (by omega) HW6.out HCL6.out).mono ?_
  rintro e w7 ⟨den, rfl, hden, hc7, ho7⟩
  have HB7 := Lib.hid (HB6.out.trans (ho7.below (B := w.heap.size) (Nat.le_refl _) HB6.out.size))
  clear hc7 ho7 hden
  go_wp2
  go_ret2
  exact ⟨_, _, rfl, HB7.out⟩
end Go.Proofs.YtoimkppjbabgeaaGreatDoor
