/-
  The reference's draw of a dictionary and strokes.
-/
import Derived.Test.YtoimkppjbabgeaaGreatDoorDrawN
namespace Go.Proofs.YtoimkppjbabgeaaGreatDoor
open Go.RowKit
set_option linter.unusedVariables false
set_option linter.unusedSimpArgs false
set_option maxRecDepth 100000


set_option maxHeartbeats 4000000 in
theorem drawPieceExcess_calls (A : Option Addr) (n cap : Nat) (zs : List Int) (w : World) (h : Ints .u8 w A n cap zs) : Calls Tryz.prog 15 #[.slice A n cap] w (DrewDS w) := by
  obtain ⟨W1, hW1⟩ : ∃ W1, W1 = w.alloc (.cells #[.slice none 0 0] 26) := ⟨_, rfl⟩
  have hs1 : W1.heap.size = w.heap.size + 1 := by rw [hW1]; simp
  have hb1 : Below w.heap.size w W1 := by rw [hW1]; exact (Below.refl _ _).alloc (Nat.le_refl _) _
  have HR := Lib.hid (show Box W1 w.heap.size 26 (.slice none 0 0) by rw [hW1]; exact Box.new w _ _)
  have HI := Lib.hid (show Ints .u8 W1 A n cap zs from ⟨(h.1.below hb1).more hb1.size, h.2⟩)
  have HB := Lib.hid hb1
  have HZ := Lib.hid hs1
  clear h hs1 hb1
  go_enter Tryz.func15, Tryz.ntmps15
  go_wp2_with fail
  rw [← hW1]
  clear hW1
  refine (l22DrawStrokes_calls A n cap zs _ HI.out).mono ?_
  rintro e w2 ⟨v, l, As, cs, xs, rfl, hd, he, hrs, hxl, hxc, hcm, hcu, hA, b2⟩
  obtain ⟨Al, cl, rfl, -, -, -⟩ := hd.slice
  have hz := HZ.out
  have HS := Lib.hid (show ArS w (w2.alloc (.cells #[.slice Al l.length cl] 26)) w2.heap.size 3000 (.slice Al l.length cl) l As xs from by
    have hz2 := b2.size
    have hg := hcu.1
    refine ⟨(HR.out.far b2).alloc _, Box.new w2 _ _, by omega, (hd.low (by omega) (by omega)).below ((Below.refl _ _).alloc (Nat.le_refl _) _), fun hn => ?_, by rw [show w.heap.size + 2 = W1.heap.size + 1 by omega]; exact hcu.alloc _, (HB.out.trans (b2.mono HB.out.size)).alloc (by omega) _⟩
    obtain ⟨b, off, hAb, hbl, hc⟩ := hrs.2 hn
    exact ⟨b, off, hAb, by have := hA b off hAb; omega, by simp; omega, fun j u hj => (World.cell?_alloc_lt _ _ _ (by show b < _; omega)).trans (hc j u hj)⟩)
  have HE := Lib.hid he
  rw [show W1.heap.size + 1 = w.heap.size + 2 by omega]
  clear hd he hrs hcu hA b2 hz HR HI HB HZ
  obtain ⟨W3, hW3⟩ : ∃ W3, W3 = w2.alloc (.cells #[.slice Al l.length cl] 26) := ⟨_, rfl⟩
  obtain ⟨B, hB⟩ : ∃ B, B = w2.heap.size := ⟨_, rfl⟩
  rw [← hW3, ← hB] at HS
  have cB := HS.out.box.cell
  have hBw := HS.out.bw
  go_upto_region 2 with fail
  rw [← hW3, ← hB]
  have HW3 := Lib.hid hW3
  have HBB := Lib.hid hB
  clear hW3 hB
  have HSD := HS
  have cR9 := HSD.out.res.cell
  have fR9 := HSD.out.res.free
  go_wp2
  refine bodyPost_ret (v := .tuple #[.agg #[.slice Al l.length cl], .slice As xs.length cs]) (by simp [results, go_sem, (HSD.out.ret (.slice Al l.length cl)).1.cell]) rfl ?_
  have HF := HSD.out.ret (.slice Al l.length cl)
  exact ⟨_, l, As, cs, xs, rfl, HF.2.1.low (by omega) (by omega), HE.out, HF.2.2.1.reads, hxl, hxc, hcm, HF.2.2.2.1⟩
end Go.Proofs.YtoimkppjbabgeaaGreatDoor
