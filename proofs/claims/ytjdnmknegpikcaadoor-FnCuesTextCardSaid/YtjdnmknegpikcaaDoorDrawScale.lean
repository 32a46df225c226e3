/-
  The reference's draws of a track with two numbers, and of a time.
-/
import Derived.Test.YtjdnmknegpikcaaDoorDrawGap
namespace Go.Proofs.YtjdnmknegpikcaaDoor
open Go.RowKit
set_option linter.unusedVariables false

/-- What a draw of a track and two numbers gives. -/
def DrewScale (w : World) (e : Ending) (w' : World) : Prop := ∃ (v : Value) (l : List CueD) (num den : Int), e = .returned (.tuple #[v, .int .i64 num, .int .i64 den]) ∧ Own w' w.heap.size w'.heap.size 59 3 v l.length (cuesV l) ∧ l.length ≤ 40 ∧ Tame 1000000000 l ∧ (0 ≤ num ∧ num ≤ 2000) ∧ (0 ≤ den ∧ den ≤ 2000) ∧ Below w.heap.size w w'
def nums1 (x : Nat) : List Int := [1 + (x : Int), 24, 25, 1000, 1001, 0]
def nums2 (x : Nat) : List Int := [1 + (x : Int), 25, 24, 1000, 0]
theorem nums1_in {x : Nat} (h : x < 5) : ∀ t ∈ nums1 x, 0 ≤ t ∧ t ≤ 2000 := by
  intro t ht
  simp only [nums1, List.mem_cons, List.not_mem_nil, or_false] at ht
  omega
theorem nums2_in {x : Nat} (h : x < 5) : ∀ t ∈ nums2 x, 0 ≤ t ∧ t ≤ 2000 := by
  intro t ht
  simp only [nums2, List.mem_cons, List.not_mem_nil, or_false] at ht
  omega

set_option maxHeartbeats 4000000 in
theorem drawScale_calls (A : Option Addr) (n cap : Nat) (zs : List Int) (w : World) (h : Ints .u8 w A n cap zs) : Calls Tryd.prog 9 #[.slice A n cap] w (DrewScale w) := by
  have hc0 := cur_new h 51
  have hb0 : Below w.heap.size w (w.alloc (.cells #[.slice A n cap, .int .i64 0, .int .u64 0] 51)) := (Below.refl _ _).alloc (Nat.le_refl _) _
  clear h
  go_enter Tryd.func9, Tryd.ntmps9
  go_wp2_with fail
  refine (drawCues_calls w.heap.size 0 _ hc0 (by omega)).mono ?_
  rintro e w1 ⟨v, l, rfl, own1, hl, ht, hc1, ho1⟩
  obtain ⟨Al, cl, rfl, -, -, -⟩ := own1.slice
  have hsz0 : (w.alloc (.cells #[.slice A n cap, .int .i64 0, .int .u64 0] 51)).heap.size = w.heap.size + 1 := by simp
  have HB1 := Lib.hid (hb0.trans (ho1.below (B := w.heap.size) (Nat.le_refl _) (by omega)))
  have HT := Lib.hid ht
  have HC1 := Lib.hid hc1
  have own1' : w1.ownsRow (w.heap.size + 1) 59 3 (.slice Al l.length cl) l.length (cuesV l) := hsz0 ▸ own1.1
  clear ht hc1 ho1 own1 hc0 hb0 hsz0
  have hs1 := HB1.out.size
  have hg1 := HC1.out.1
  -- 1 + c.pick(5)
  go_wp2_with fail
  refine (pick_calls w.heap.size 200 5 _ (HC1.out.more (by omega)) (by omega) (by omega) (by omega)).mono ?_
  rintro e w2 ⟨x, rfl, hx, hc2, ho2⟩
  have hx5 : x < 5 := by omega
  have own2 := ownsRow_only own1' ho2 (fun g' hg' => by have := (own1'.lt g' hg').1; omega)
  have HB2 := Lib.hid (HB1.out.trans (ho2.below (B := w.heap.size) (Nat.le_refl _) hs1))
  have HC2 := Lib.hid hc2
  have hg2 := hc2.1
  have own2a := own2.alloc (.cells ((nums1 x).map (Value.int .i64)).toArray 3)
  clear hc2 ho2 own1'
  -- the literal, and 4 + c.pick(3)
  go_wp2_with fail
  refine (pick_calls w.heap.size 202 3 _ ((HC2.out.more (by omega)).alloc _) (by omega) (by omega) (by omega)).mono ?_
  rintro e w3 ⟨y, rfl, hy, hc3, ho3⟩
  have hy3 : y < 3 := by omega
  have own3 := ownsRow_only own2a ho3 (fun g' hg' => by have := (own2a.lt g' hg').1; omega)
  have hcl : ∀ j t, (nums1 x)[j]? = some t → w3.cell? ⟨w2.heap.size, j, none⟩ = some (.int .i64 t) := fun j t ht => (ho3.cell (p := ⟨w2.heap.size, j, none⟩) (by simp) (.inr (by simp only; omega))).trans (new_at (w := w2) (xs := (nums1 x).map (Value.int .i64)) (by simp [ht]))
  have hw3 := ho3.size
  have HB3 := Lib.hid ((HB2.out.alloc HB2.out.size _).trans (ho3.below (B := w.heap.size) (Nat.le_refl _) (by simp; omega)))
  have HC3 := Lib.hid hc3
  have HCL := Lib.hid hcl
  have HW3 := Lib.hid (show w2.heap.size < w3.heap.size by simp at hw3; omega)
  have hg3 := hc3.1
  have i0 : (0 : Int) ≤ 4 + (y : Int) := by omega
  have i1 : 4 + (y : Int) ≤ 6 := by omega
  have i2 : (4 + (y : Int)).toNat = 4 + y := by omega
  have i3 : 4 + y ≤ 6 := by omega
  clear hc3 ho3 hcl own2 own2a hw3
  go_wp2_with fail
  refine (among_calls w.heap.size 204 w2.heap.size _ 6 (nums1 x) _ (HC3.out.more (by omega)) (by omega) (by omega) (by show 4 + y ≤ 6; omega) (by show 6 ≤ 65535; decide) (by omega) HW3.out HCL.out).mono ?_
  rintro e w4 ⟨num, rfl, hnum, hc4, ho4⟩
  have own4 := ownsRow_only own3 ho4 (fun g' hg' => by have := (own3.lt g' hg').1; omega)
  have HB4 := Lib.hid (HB3.out.trans (ho4.below (B := w.heap.size) (Nat.le_refl _) HB3.out.size))
  have HC4 := Lib.hid hc4
  have HNUM := Lib.hid (nums1_in hx5 num hnum)
  have hg4 := hc4.1
  clear hc4 ho4 own3 hnum i0 i1 i2 i3
  -- the second number
  go_wp2_with fail
  refine (pick_calls w.heap.size 206 5 _ (HC4.out.more (by omega)) (by omega) (by omega) (by omega)).mono ?_
  rintro e w5 ⟨x2, rfl, hx2, hc5, ho5⟩
  have hx25 : x2 < 5 := by omega
  have own5 := ownsRow_only own4 ho5 (fun g' hg' => by have := (own4.lt g' hg').1; omega)
  have HB5 := Lib.hid (HB4.out.trans (ho5.below (B := w.heap.size) (Nat.le_refl _) HB4.out.size))
  have HC5 := Lib.hid hc5
  have hg5 := hc5.1
  have own5a := own5.alloc (.cells ((nums2 x2).map (Value.int .i64)).toArray 3)
  clear hc5 ho5 own4
  go_wp2_with fail
  refine (pick_calls w.heap.size 208 9 _ ((HC5.out.more (by omega)).alloc _) (by omega) (by omega) (by omega)).mono ?_
  rintro e w6 ⟨z, rfl, hz, hc6, ho6⟩
  have own6 := ownsRow_only own5a ho6 (fun g' hg' => by have := (own5a.lt g' hg').1; omega)
  have hcl6 : ∀ j t, (nums2 x2)[j]? = some t → w6.cell? ⟨w5.heap.size, j, none⟩ = some (.int .i64 t) := fun j t ht => (ho6.cell (p := ⟨w5.heap.size, j, none⟩) (by simp) (.inr (by simp only; omega))).trans (new_at (w := w5) (xs := (nums2 x2).map (Value.int .i64)) (by simp [ht]))
  have hw6 := ho6.size
  have HB6 := Lib.hid ((HB5.out.alloc HB5.out.size _).trans (ho6.below (B := w.heap.size) (Nat.le_refl _) (by simp; omega)))
  have HC6 := Lib.hid hc6
  have HCL6 := Lib.hid hcl6
  have HW6 := Lib.hid (show w5.heap.size < w6.heap.size by simp at hw6; omega)
  clear hc6 ho6 hcl6 own5 own5a hw6
  have hz9 : z < 9 := by omega
  rcases (show z / 8 = 0 ∨ z / 8 = 1 by omega) with hq | hq
  all_goals
    have q1 : (z : Int) / 8 = ((z / 8 : Nat) : Int) := by omega
    have q2 : Int.tdiv (z : Int) 8 = ((z / 8 : Nat) : Int) := by rw [Int.tdiv_eq_ediv_of_nonneg (by omega), q1]
    rw [hq] at q1 q2
    go_wp2_with fail
    refine (among_calls w.heap.size 210 w5.heap.size _ 5 (nums2 x2) _ (HC6.out.more (by omega)) (by omega) (by decide) (by show _ ≤ 5; decide) (by show 5 ≤ 65535; decide) (by omega) HW6.out HCL6.out).mono ?_
    rintro e w7 ⟨den, rfl, hden, hc7, ho7⟩
    have own7 := ownsRow_only own6 ho7 (fun g' hg' => by have := (own6.lt g' hg').1; omega)
    have HB7 := Lib.hid (HB6.out.trans (ho7.below (B := w.heap.size) (Nat.le_refl _) HB6.out.size))
    have HDEN := Lib.hid (nums2_in hx25 den hden)
    clear hc7 ho7 hden own6
    go_wp2
    refine bodyPost_ret (v := .tuple #[.slice Al l.length cl, .int .i64 num, .int .i64 den]) (by simp [results, go_sem]) rfl ?_
    exact ⟨_, l, num, den, rfl, (Own.of_row (own7.base (by omega))), hl, HT.out, HNUM.out, HDEN.out, HB7.out⟩

/-- A time is drawn. -/
def timesT (x : Nat) : List Int := [(x : Int) * 3701, 0, 99999999, 100000000, -1, 3599999]
theorem timesT_in {x : Nat} (h : x < 1000) : ∀ t ∈ timesT x, -1 ≤ t ∧ t ≤ 100000000 := by
  intro t ht
  simp only [timesT, List.mem_cons, List.not_mem_nil, or_false] at ht
  omega
set_option maxHeartbeats 2000000 in
theorem drawFormatTime_calls (A : Option Addr) (n cap : Nat) (zs : List Int) (w : World) (h : Ints .u8 w A n cap zs) : Calls Tryd.prog 16 #[.slice A n cap] w fun e w' => ∃ t : Int, e = .returned (.int .i64 t) ∧ (-1 ≤ t ∧ t ≤ 100000000) ∧ Below w.heap.size w w' := by
  have hc0 := cur_new h 51
  have hb0 : Below w.heap.size w (w.alloc (.cells #[.slice A n cap, .int .i64 0, .int .u64 0] 51)) := (Below.refl _ _).alloc (Nat.le_refl _) _
  have hsz0 : (w.alloc (.cells #[.slice A n cap, .int .i64 0, .int .u64 0] 51)).heap.size = w.heap.size + 1 := by simp
  clear h
  go_enter Tryd.func16, Tryd.ntmps16
  go_wp2_with fail
  refine (pick_calls w.heap.size 0 1000 _ hc0 (by omega) (by omega) (by omega)).mono ?_
  rintro e w2 ⟨x, rfl, hx, hc2, ho2⟩
  have hx9 : x < 1000 := by omega
  have HB2 := Lib.hid (hb0.trans (ho2.below (B := w.heap.size) (Nat.le_refl _) (by omega)))
  have HC2 := Lib.hid (hc2.alloc (.cells ((timesT x).map (Value.int .i64)).toArray 3))
  have hg2 := hc2.1
  have hcl : ∀ j t, (timesT x)[j]? = some t → (w2.alloc (.cells ((timesT x).map (Value.int .i64)).toArray 3)).cell? ⟨w2.heap.size, j, none⟩ = some (.int .i64 t) := fun j t ht => new_at (w := w2) (xs := (timesT x).map (Value.int .i64)) (by simp [ht])
  have HCL := Lib.hid hcl
  have HB3 := Lib.hid (HB2.out.alloc HB2.out.size (.cells ((timesT x).map (Value.int .i64)).toArray 3))
  clear hc2 ho2 hcl hb0 hc0 hsz0
  go_wp2_with fail
  refine (among_calls w.heap.size 2 w2.heap.size 6 6 (timesT x) _ HC2.out (by omega) (by decide) (by show 6 ≤ 6; decide) (by show 6 ≤ 65535; decide) (by omega) (by simp) HCL.out).mono ?_
  rintro e w4 ⟨t, rfl, ht, hc4, ho4⟩
  have HTB := Lib.hid (timesT_in hx9 t ht)
  have HB4 := Lib.hid (HB3.out.trans (ho4.below (B := w.heap.size) (Nat.le_refl _) HB3.out.size))
  clear hc4 ho4 ht
  go_wp2
  go_ret
  exact ⟨t, rfl, HTB.out, HB4.out⟩
end Go.Proofs.YtjdnmknegpikcaaDoor
