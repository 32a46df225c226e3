/-
  The reference's draw of a transcript for the word index.
-/
import Derived.Test.YthokekgdiebhjaaDoorDrawTurn
import Derived.Test.YthokekgdiebhjaaDoorBase
namespace Go.Proofs.YthokekgdiebhjaaDoor
open Go.RowKit
set_option linter.unusedVariables false
set_option linter.unusedSimpArgs false
set_option maxRecDepth 100000

theorem cur_newI {w : World} {A : Option Addr} {n cap : Nat} {zs : List Int} (h : Ints .u8 w A n cap zs) (ty : TypeId) : Cur (w.alloc (.cells #[.slice A n cap, .int .i64 0, .int .u64 0] ty)) w.heap.size 0 := by
  obtain ⟨h1, h2, h3, h4, h5⟩ := h
  refine ⟨by simp, fun j => World.frozen?_alloc_at _ _ _ _ rfl, A, n, cap, zs, 0, 0, by simp [World.cell?_alloc_at], by simp [World.cell?_alloc_at], by simp [World.cell?_alloc_at], Nat.le_refl _, Nat.le_trans h2 h3, h4, h1.alloc (Nat.le_refl _) _, fun z hz => ?_⟩
  have := h5 z hz
  simpa [Lit.wf, IntKind.min, IntKind.max, IntKind.signed, IntKind.bits] using this
def DrewTrack (w : World) (e : Ending) (w' : World) : Prop := ∃ (v : Value) (l : List TurnD), e = .returned (.agg #[v]) ∧ Own w' w.heap.size w'.heap.size 52 2 v l.length (turnsV l) ∧ l.length ≤ 40 ∧ TameT l ∧ Below w.heap.size w w'

theorem own_retI {w w1 : World} {lo : Nat} {v x : Value} {l : List TurnD} (own : Own w1 lo w1.heap.size 52 2 v l.length (turnsV l)) (hr : Box w1 w.heap.size 26 x) (hlo : w.heap.size + 1 ≤ lo) (hb : Below w.heap.size w w1) :
    Own (w1.setCell ⟨w.heap.size, 0, none⟩ v) w.heap.size (w1.setCell ⟨w.heap.size, 0, none⟩ v).heap.size 52 2 v l.length (turnsV l) ∧ Below w.heap.size w (w1.setCell ⟨w.heap.size, 0, none⟩ v) := by
  have hz : w.heap.size < w1.heap.size := hr.lt
  have hb2 : Below w.heap.size w1 (w1.setCell ⟨w.heap.size, 0, none⟩ v) := (Below.refl _ _).setCell (p := ⟨w.heap.size, 0, none⟩) (Nat.le_refl _) v
  exact ⟨Own.of_row ((ownsRow_only (lo' := w.heap.size) (hi' := w.heap.size + 1) own.1 ((Only.refl w1).setCell (p := ⟨w.heap.size, 0, none⟩) (Nat.le_refl _) (by show w.heap.size < _; omega) v) (fun b hb' => .inr (by have := (own.1.lt b hb').1; omega))).base (by omega)), hb.trans hb2⟩

set_option maxHeartbeats 2000000 in
theorem drawIsValidTranscript_calls (A : Option Addr) (n cap : Nat) (zs : List Int) (w : World) (h : Ints .u8 w A n cap zs) : Calls Tryd.prog 20 #[.slice A n cap] w (DrewTrack w) := by
  obtain ⟨W1, hW1⟩ : ∃ W1, W1 = w.alloc (.cells #[.slice none 0 0] 26) := ⟨_, rfl⟩
  have hs1 : W1.heap.size = w.heap.size + 1 := by rw [hW1]; simp
  have hb1 : Below w.heap.size w W1 := by rw [hW1]; exact (Below.refl _ _).alloc (Nat.le_refl _) _
  have hr1 : Box W1 w.heap.size 26 (.slice none 0 0) := by rw [hW1]; exact Box.new w _ _
  have hi1 : Ints .u8 W1 A n cap zs := ⟨(h.1.below hb1).more hb1.size, h.2⟩
  obtain ⟨W2, hW2⟩ : ∃ W2, W2 = W1.alloc (.cells #[.slice A n cap, .int .i64 0, .int .u64 0] 77) := ⟨_, rfl⟩
  have hs2 : W2.heap.size = w.heap.size + 2 := by rw [hW2]; simp [hs1]
  have hc2 : Cur W2 (w.heap.size + 1) 0 := by rw [hW2, ← hs1]; exact cur_newI hi1 _
  have hb2 : Below w.heap.size w W2 := by rw [hW2]; exact hb1.alloc hb1.size _
  have hr2 : Box W2 w.heap.size 26 (.slice none 0 0) := by rw [hW2]; exact hr1.alloc _
  have HC := Lib.hid hc2
  have HB := Lib.hid hb2
  have HR := Lib.hid hr2
  have HZ := Lib.hid hs2
  have HW : W2 = (w.alloc (.cells #[.slice none 0 0] 26)).alloc (.cells #[.slice A n cap, .int .i64 0, .int .u64 0] 77) := by rw [hW2, hW1]
  clear h hs1 hb1 hr1 hi1 hW2 hs2 hc2 hb2 hr2 hW1 W1
  go_enter Tryd.func20, Tryd.ntmps20
  go_wp2_with fail
  rw [← HW]
  clear HW
  refine (drawTurns_calls (w.heap.size + 1) 0 _ HC.out (by omega)).mono ?_
  rintro e w1 ⟨v, l, rfl, own1, hl, ht, hc1, ho1⟩
  obtain ⟨Al, cl, rfl, -, -, -⟩ := own1.slice
  have hrs : Box w1 w.heap.size 26 (.slice none 0 0) := HR.out.only ho1 (.inl (by omega))
  have hbl : Below w.heap.size w w1 := HB.out.trans (ho1.below (by omega) (by have := HZ.out; omega))
  have HO := Lib.hid (own_retI own1 hrs (by have := HZ.out; omega) hbl)
  have HT := Lib.hid ht
  have HRS := Lib.hid hrs
  have cR := hrs.cell
  have fR := hrs.free
  clear own1 ht hc1 ho1 hrs hbl
  go_wp2
  refine bodyPost_ret (v := .agg #[.slice Al l.length cl]) (by simp [results, go_sem, (HRS.out.set_ (.slice Al l.length cl)).cell]) rfl ?_
  exact ⟨_, l, rfl, HO.out.1, hl, HT.out, HO.out.2⟩
set_option maxHeartbeats 2000000 in
theorem drawWordIndex_calls (A : Option Addr) (n cap : Nat) (zs : List Int) (w : World) (h : Ints .u8 w A n cap zs) : Calls Tryd.prog 6 #[.slice A n cap] w (DrewTrack w) := by
  obtain ⟨W1, hW1⟩ : ∃ W1, W1 = w.alloc (.cells #[.slice none 0 0] 26) := ⟨_, rfl⟩
  have hs1 : W1.heap.size = w.heap.size + 1 := by rw [hW1]; simp
  have hb1 : Below w.heap.size w W1 := by rw [hW1]; exact (Below.refl _ _).alloc (Nat.le_refl _) _
  have hr1 : Box W1 w.heap.size 26 (.slice none 0 0) := by rw [hW1]; exact Box.new w _ _
  have hi1 : Ints .u8 W1 A n cap zs := ⟨(h.1.below hb1).more hb1.size, h.2⟩
  have HB := Lib.hid hb1
  have HR := Lib.hid hr1
  have HZ := Lib.hid hs1
  have HI := Lib.hid hi1
  clear h hs1 hb1 hr1 hi1
  go_enter Tryd.func6, Tryd.ntmps6
  go_wp2_with fail
  rw [← hW1]
  clear hW1
  refine (drawIsValidTranscript_calls A n cap zs _ HI.out).mono ?_
  rintro e w1 ⟨v, l, rfl, own1, hl, ht, hb⟩
  obtain ⟨Al, cl, rfl, -, -, -⟩ := own1.slice
  have hrs : Box w1 w.heap.size 26 (.slice none 0 0) := HR.out.far hb
  have hbl : Below w.heap.size w w1 := HB.out.trans (hb.mono HB.out.size)
  have HO := Lib.hid (own_retI own1 hrs (by have := HZ.out; omega) hbl)
  have HT := Lib.hid ht
  have HRS := Lib.hid hrs
  have cR := hrs.cell
  have fR := hrs.free
  clear own1 ht hrs hbl hb
  go_wp2
  refine bodyPost_ret (v := .agg #[.slice Al l.length cl]) (by simp [results, go_sem, (HRS.out.set_ (.slice Al l.length cl)).cell]) rfl ?_
  exact ⟨_, l, rfl, HO.out.1, hl, HT.out, HO.out.2⟩
end Go.Proofs.YthokekgdiebhjaaDoor
