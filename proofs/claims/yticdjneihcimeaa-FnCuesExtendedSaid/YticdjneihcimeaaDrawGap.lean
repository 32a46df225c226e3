/-
  The reference's draws of a track and a gap, of a track and a time.
-/
import Derived.Test.YticdjneihcimeaaDrawCues
namespace Go.Proofs.Yticdjneihcimeaa
open Go.RowKit
set_option linter.unusedVariables false

theorem cur_new {w : World} {A : Option Addr} {n cap : Nat} {zs : List Int} (h : Ints .u8 w A n cap zs) (ty : TypeId) : Cur (w.alloc (.cells #[.slice A n cap, .int .i64 0, .int .u64 0] ty)) w.heap.size 0 := by
  obtain ⟨h1, h2, h3, h4, h5⟩ := h
  refine ⟨by simp, fun j => World.frozen?_alloc_at _ _ _ _ rfl, A, n, cap, zs, 0, 0, by simp [World.cell?_alloc_at], by simp [World.cell?_alloc_at], by simp [World.cell?_alloc_at], Nat.le_refl _, Nat.le_trans h2 h3, h4, h1.alloc (Nat.le_refl _) _, fun z hz => ?_⟩
  have := h5 z hz
  simpa [Lit.wf, IntKind.min, IntKind.max, IntKind.signed, IntKind.bits] using this

/-- What a draw of a track and a number gives. -/
def DrewGap (lo hi : Int) (w : World) (e : Ending) (w' : World) : Prop := ∃ (v : Value) (l : List CueD) (gap : Int), e = .returned (.tuple #[v, .int .i64 gap]) ∧ Own w' w.heap.size w'.heap.size 39 3 v l.length (cuesV l) ∧ l.length ≤ 40 ∧ Tame 1000000000 l ∧ (lo ≤ gap ∧ gap ≤ hi) ∧ Below w.heap.size w w'
def gaps : List Int := [0, 100, 300, 600, 5000, -1]
theorem gaps_in : ∀ t ∈ gaps, -1 ≤ t ∧ t ≤ 5000 := by decide

set_option maxHeartbeats 2000000 in
theorem drawGap_calls (A : Option Addr) (n cap : Nat) (zs : List Int) (w : World) (h : Ints .u8 w A n cap zs) : Calls Try.prog 50 #[.slice A n cap] w (DrewGap (-1) 5000 w) := by
  have hc0 := cur_new h 61
  have hb0 : Below w.heap.size w (w.alloc (.cells #[.slice A n cap, .int .i64 0, .int .u64 0] 61)) := (Below.refl _ _).alloc (Nat.le_refl _) _
  clear h
  go_enter Try.func50, Try.ntmps50
  go_wp2_with fail
  refine (drawCues_calls w.heap.size 0 _ hc0 (by omega)).mono ?_
  rintro e w1 ⟨v, l, rfl, own1, hl, ht, hc1, ho1⟩
  obtain ⟨Al, cl, rfl, -, -, -⟩ := own1.slice
  have hsz0 : (w.alloc (.cells #[.slice A n cap, .int .i64 0, .int .u64 0] 61)).heap.size = w.heap.size + 1 := by simp
  have HB1 := Lib.hid (hb0.trans (ho1.below (B := w.heap.size) (Nat.le_refl _) (by omega)))
  have HT := Lib.hid ht
  have HC1 := Lib.hid hc1
  have own1' : w1.ownsRow (w.heap.size + 1) 39 3 (.slice Al l.length cl) l.length (cuesV l) := hsz0 ▸ own1.1
  clear ht hc1 ho1 own1 hc0 hb0 hsz0
  have hs1 := HB1.out.size
  go_wp2_with fail
  refine (pick_calls w.heap.size 200 9 _ ((HC1.out.more (by omega)).alloc _) (by omega) (by omega) (by omega)).mono ?_
  rintro e w2 ⟨x, rfl, hx, hc2, ho2⟩
  have own2 := ownsRow_only (own1'.alloc _) ho2 (fun g' hg' => by have := (own1'.lt g' hg').1; omega)
  have hc : ∀ j t, gaps[j]? = some t → w2.cell? ⟨w1.heap.size, j, none⟩ = some (.int .i64 t) := fun j t ht => (ho2.cell (p := ⟨w1.heap.size, j, none⟩) (by simp) (.inr (by have := HC1.out.1; simp only; omega))).trans (new_at (w := w1) (xs := gaps.map (Value.int .i64)) (by simp [ht]))
  have hw2 := ho2.size
  have HB2 := Lib.hid ((HB1.out.alloc hs1 _).trans (ho2.below (B := w.heap.size) (Nat.le_refl _) (by simp; omega)))
  have HC2 := Lib.hid hc2
  have HCL := Lib.hid hc
  have HW2 := Lib.hid (show w1.heap.size < w2.heap.size by simp at hw2; omega)
  clear hc2 ho2 hc own1' hw2
  have hx9 : x < 9 := by omega
  rcases (show x / 8 = 0 ∨ x / 8 = 1 by omega) with hq | hq
  all_goals
    have q1 : (x : Int) / 8 = ((x / 8 : Nat) : Int) := by omega
    have q2 : Int.tdiv (x : Int) 8 = ((x / 8 : Nat) : Int) := by rw [Int.tdiv_eq_ediv_of_nonneg (by omega), q1]
    rw [hq] at q1 q2
    go_wp2_with fail
    refine (among_calls w.heap.size 202 w1.heap.size _ 6 gaps _ (HC2.out.more (by omega)) (by omega) (by decide) (by decide) (by decide) (by have := HC1.out.1; omega) HW2.out HCL.out).mono ?_
    rintro e w3 ⟨gp, rfl, hgp, hc3, ho3⟩
    have own3 := ownsRow_only own2 ho3 (fun g' hg' => by have := (own2.lt g' hg').1; omega)
    have HB3 := Lib.hid (HB2.out.trans (ho3.below (B := w.heap.size) (Nat.le_refl _) (by have := HW2.out; omega)))
    have HG := Lib.hid (gaps_in gp hgp)
    clear hc3 ho3 hgp own2
    go_wp2
    go_ret2
    exact ⟨_, l, gp, rfl, (Own.of_row (own3.base (by omega))), hl, HT.out, HG.out, HB3.out⟩

theorem spec_DrawMergeCues (A : Option Addr) (n cap : Nat) (zs : List Int) (w : World) (h : Ints .u8 w A n cap zs) : Calls Try.prog 21 #[.slice A n cap] w (DrewGap (-1) 5000 w) := by
  go_enter Try.func21, Try.ntmps21
  go_wp2_with fail
  refine (drawGap_calls A n cap zs _ h).mono ?_
  rintro e w1 ⟨v, l, gap, rfl, h1⟩
  have H := Lib.hid h1
  clear h1
  go_wp2
  go_ret2
  exact ⟨v, l, gap, rfl, H.out⟩
theorem spec_DrawExtendCues (A : Option Addr) (n cap : Nat) (zs : List Int) (w : World) (h : Ints .u8 w A n cap zs) : Calls Try.prog 33 #[.slice A n cap] w (DrewGap (-1) 5000 w) := by
  go_enter Try.func33, Try.ntmps33
  go_wp2_with fail
  refine (drawGap_calls A n cap zs _ h).mono ?_
  rintro e w1 ⟨v, l, gap, rfl, h1⟩
  have H := Lib.hid h1
  clear h1
  go_wp2
  go_ret2
  exact ⟨v, l, gap, rfl, H.out⟩

set_option maxHeartbeats 2000000 in
theorem spec_DrawActiveCue (A : Option Addr) (n cap : Nat) (zs : List Int) (w : World) (h : Ints .u8 w A n cap zs) : Calls Try.prog 27 #[.slice A n cap] w (DrewGap (-100) 6000 w) := by
  have hc0 := cur_new h 61
  have hb0 : Below w.heap.size w (w.alloc (.cells #[.slice A n cap, .int .i64 0, .int .u64 0] 61)) := (Below.refl _ _).alloc (Nat.le_refl _) _
  clear h
  go_enter Try.func27, Try.ntmps27
  go_wp2_with fail
  refine (drawCues_calls w.heap.size 0 _ hc0 (by omega)).mono ?_
  rintro e w1 ⟨v, l, rfl, own1, hl, ht, hc1, ho1⟩
  obtain ⟨Al, cl, rfl, -, -, -⟩ := own1.slice
  have hsz0 : (w.alloc (.cells #[.slice A n cap, .int .i64 0, .int .u64 0] 61)).heap.size = w.heap.size + 1 := by simp
  have HB1 := Lib.hid (hb0.trans (ho1.below (B := w.heap.size) (Nat.le_refl _) (by omega)))
  have HT := Lib.hid ht
  have HC1 := Lib.hid hc1
  have own1' : w1.ownsRow (w.heap.size + 1) 39 3 (.slice Al l.length cl) l.length (cuesV l) := hsz0 ▸ own1.1
  clear ht hc1 ho1 own1 hc0 hb0 hsz0
  have hs1 := HB1.out.size
  go_wp2_with fail
  refine (pick_calls w.heap.size 200 60 _ (HC1.out.more (by omega)) (by omega) (by omega) (by omega)).mono ?_
  rintro e w2 ⟨x, rfl, hx, hc2, ho2⟩
  have own2 := ownsRow_only own1' ho2 (fun g' hg' => by have := (own1'.lt g' hg').1; omega)
  have HB2 := Lib.hid (HB1.out.trans (ho2.below (B := w.heap.size) (Nat.le_refl _) hs1))
  clear hc2 ho2 own1'
  have hx9 : x < 60 := by omega
  go_wp2
  go_ret2
  exact ⟨_, l, (x : Int) * 100 - 100, rfl, (Own.of_row (own2.base (by omega))), hl, HT.out, by omega, HB2.out⟩
end Go.Proofs.Yticdjneihcimeaa
