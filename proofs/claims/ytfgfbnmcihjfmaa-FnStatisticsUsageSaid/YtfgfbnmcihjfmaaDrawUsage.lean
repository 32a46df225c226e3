/-
  The reference's draw of a list of strokes.
-/
import Derived.Test.YtfgfbnmcihjfmaaDrawD
import Derived.Test.YtfgfbnmcihjfmaaInts
import Derived.Deep.CutRange
import Derived.Deep.LoopGhost
namespace Go.Proofs.Ytfgfbnmcihjfmaa
open Go.RowKit
set_option linter.unusedVariables false
set_option linter.unusedSimpArgs false
set_option maxRecDepth 100000

theorem cur_newU {w : World} {A : Option Addr} {n cap : Nat} {zs : List Int} (h : Ints .u8 w A n cap zs) (ty : TypeId) : Cur (w.alloc (.cells #[.slice A n cap, .int .i64 0, .int .u64 0] ty)) w.heap.size 0 := by
  obtain ⟨h1, h2, h3, h4, h5⟩ := h
  refine ⟨by simp, fun j => World.frozen?_alloc_at _ _ _ _ rfl, A, n, cap, zs, 0, 0, by simp [World.cell?_alloc_at], by simp [World.cell?_alloc_at], by simp [World.cell?_alloc_at], Nat.le_refl _, Nat.le_trans h2 h3, h4, h1.alloc (Nat.le_refl _) _, fun z hz => ?_⟩
  have := h5 z hz
  simpa [Lit.wf, IntKind.min, IntKind.max, IntKind.signed, IntKind.bits] using this
theorem ints_snocU (xs : List Int) (x : Int) : ints (xs ++ [x]) = ints xs ++ [.int .i64 x] := by simp [ints]
def DrewStrokes (w : World) (e : Ending) (w' : World) : Prop := ∃ (v : Value) (zs : List Int), e = .returned v ∧ Own w' w.heap.size w'.heap.size 3 1 v zs.length (ints zs) ∧ zs.length ≤ 100 ∧ Below w.heap.size w w'
/-- The state while strokes are drawn. -/
structure DrawnU (w wr : World) (p : Nat) (v : Value) (zs : List Int) : Prop where
  own : wr.ownsRow (w.heap.size + 1) 3 1 v zs.length (ints zs)
  cur : Cur wr w.heap.size p
  bel : Below w.heap.size w wr
theorem DrawnU.move {w wr w' : World} {p q : Nat} {v : Value} {zs : List Int} (h : DrawnU w wr p v zs) (hc : Cur w' w.heap.size q) (ho : Only w.heap.size (w.heap.size + 1) wr w') : DrawnU w w' q v zs :=
  ⟨ownsRow_only h.own ho (fun g' hg' => by have := (h.own.lt g' hg').1; omega), hc, h.bel.trans (ho.below (Nat.le_refl _) h.bel.size)⟩
theorem DrawnU.alloc {w wr : World} {p : Nat} {v : Value} {zs : List Int} (h : DrawnU w wr p v zs) (o : Obj) : DrawnU w (wr.alloc o) p v zs := ⟨h.own.alloc o, h.cur.alloc o, h.bel.alloc h.bel.size o⟩
theorem DrawnU.put {w wr w' : World} {p : Nat} {v v' : Value} {zs : List Int} {t : Int} (h : DrawnU w wr p v zs) (ho : w'.ownsRow (w.heap.size + 1) 3 1 v' (zs.length + 1) (ints zs ++ [.int .i64 t])) (hg : wr.grownBy w' v.ownBlock) : DrawnU w w' p v' (zs ++ [t]) :=
  ⟨by rw [ints_snocU, List.length_append, List.length_singleton]; exact ho, cur_row h.cur hg (fun b hb => (h.own.lt b hb).1), h.bel.grown hg h.bel.size (fun b hb => by have := (h.own.lt b hb).1; omega)⟩

set_option maxHeartbeats 8000000 in
theorem drawKeyUsage_calls (A : Option Addr) (n cap : Nat) (zs : List Int) (w : World) (h : Ints .u8 w A n cap zs) : Calls Try.prog 12 #[.slice A n cap] w (DrewStrokes w) := by
  obtain ⟨W1, hW1⟩ : ∃ W1, W1 = w.alloc (.cells #[.slice A n cap, .int .i64 0, .int .u64 0] 44) := ⟨_, rfl⟩
  have hs1 : W1.heap.size = w.heap.size + 1 := by rw [hW1]; simp
  have hc1 : Cur W1 w.heap.size 0 := by rw [hW1]; exact cur_newU h _
  have hb1 : Below w.heap.size w W1 := by rw [hW1]; exact (Below.refl _ _).alloc (Nat.le_refl _) _
  have own0 : (W1.alloc (.cells #[] 3)).ownsRow (w.heap.size + 1) 3 1 (.slice (some ⟨w.heap.size + 1, 0, none⟩) 0 0) 0 [] := by
    have := World.ownsRow_made (base := w.heap.size + 1) (e := 3) (size := 1) W1 #[] 0 (by omega) (by simp) rfl
    rw [hs1] at this
    exact this
  have HD0 := Lib.hid (show DrawnU w (W1.alloc (.cells #[] 3)) 0 (.slice (some ⟨w.heap.size + 1, 0, none⟩) 0 0) [] from ⟨own0, hc1.alloc _, hb1.alloc hb1.size _⟩)
  clear h hs1 hc1 hb1 own0
  go_enter Try.func12, Try.ntmps12
  go_wp2_with fail
  rw [← hW1]
  generalize W1.alloc (.cells #[] 3) = w2 at *
  clear hW1
  refine (pick_calls w.heap.size 0 8 _ HD0.out.cur (by omega) (by omega) (by omega)).mono ?_
  rintro e w3 ⟨x, rfl, hx, hc3, ho3⟩
  have HD3 := Lib.hid (HD0.out.move hc3 ho3)
  clear hc3 ho3
  go_wp2_with fail
  refine (one_calls w.heap.size 2 30 _ HD3.out.cur (by omega) (by omega) (by omega)).mono ?_
  rintro e w4 ⟨b, rfl, hc4, ho4⟩
  have HD4 := Lib.hid (HD3.out.move hc4 ho4)
  clear hc4 ho4
  go_upto_if 14 with fail
  go_cut [5] from 15 to 42 (fun vn wx => ∃ nn : Nat, vn = .int .i64 nn ∧ nn ≤ 61 ∧ DrawnU w wx 6 (.slice (some ⟨w.heap.size + 1, 0, none⟩) 0 0) [])
  case first =>
    cases b with
    | false =>
      go_wp2
      go_meet
      exact ⟨x, rfl, by omega, HD4.out.own, HD4.out.cur.more (by omega), HD4.out.bel⟩
    | true =>
      go_wp2_with fail
      refine (pick_calls w.heap.size 4 2 _ HD4.out.cur (by omega) (by omega) (by omega)).mono ?_
      rintro e w5 ⟨y, rfl, hy, hc5, ho5⟩
      have HD5 := Lib.hid (HD4.out.move hc5 ho5)
      clear hc5 ho5
      go_wp2
      go_meet
      exact ⟨60 + y, by go_num, by omega, HD5.out⟩
  case rest =>
  obtain ⟨nn, rfl, hnn, hd6⟩ := hcut
  have HD6 := Lib.hid hd6
  clear hd6 HD0 HD3 HD4
  go_wp2
  go_loopg [4, 6] nn (fun gh v i wr => ∃ (k : Nat) (zs : List Int) (g c : Nat), gh = nn - k ∧ k ≤ nn ∧ i = .int .i64 k ∧ zs.length = k ∧ v = .slice (some ⟨g, 0, none⟩) zs.length c ∧ DrawnU w wr (6 + 20 * k) v zs)
  case atStart => exact ⟨0, [], _, _, rfl, Nat.zero_le _, rfl, rfl, rfl, HD6.out⟩
  case round =>
    obtain ⟨k, zs, g, c, hgh, hk, rfl, hzl, rfl, hd⟩ := hrel
    have HD := Lib.hid hd
    have HZL := Lib.hid hzl
    clear hd hzl
    by_cases hlt : k < nn
    · have i1 : (k : Int) < (nn : Int) := by omega
      go_wp2_with fail
      refine (stroke_calls w.heap.size _ _ HD.out.cur (by omega)).mono ?_
      rintro e w5 ⟨t1, rfl, hc5, ho5⟩
      have HD5 := Lib.hid (HD.out.move hc5 ho5)
      clear hc5 ho5
      go_wp2_with fail
      refine (few_calls w.heap.size _ _ HD5.out.cur (by omega)).mono ?_
      rintro e w6 ⟨t2, rfl, hc6, ho6⟩
      have HD6 := Lib.hid (HD5.out.move hc6 ho6)
      clear hc6 ho6
      go_wp2_with fail
      refine (few_calls w.heap.size _ _ HD6.out.cur (by omega)).mono ?_
      rintro e w7 ⟨t3, rfl, hc7, ho7⟩
      have HD7 := Lib.hid (HD6.out.move hc7 ho7)
      have HD8 := Lib.hid (HD7.out.alloc (.cells #[.int .i64 t1, .int .i64 t2, .int .i64 t3] 3))
      have HAM := Lib.hid (among_calls w.heap.size _ w7.heap.size 3 3 [t1, t2, t3] _ HD8.out.cur (by omega) (by decide) (by simp) (by simp) (by have := HD7.out.cur.1; omega) (by simp) (fun j t ht => by
        match j, ht with
        | 0, ht => simp at ht; subst ht; simp [World.cell?_alloc_at]
        | 1, ht => simp at ht; subst ht; simp [World.cell?_alloc_at]
        | 2, ht => simp at ht; subst ht; simp [World.cell?_alloc_at]))
      clear hc7 ho7
      go_wp2_with fail
      refine HAM.out.mono ?_
      rintro e w9 ⟨t, rfl, -, hc9, ho9⟩
      have HD9 := Lib.hid (HD8.out.move hc9 ho9)
      have hbw : w.heap.size + 1 ≤ w9.heap.size := by have := HD9.out.cur.1; omega
      have hz60 : zs.length ≤ 61 := by have := HZL.out; omega
      clear hc9 ho9 HAM
      go_wp2_with (at_builtin; refine wpList_append_oneA HD9.out.own hbw (.tmp 23) (.tmp 33) 22 Try.underlying22 info_int (by omega) (by unfold maxLen; omega) ⟨rfl, rfl, rfl, rfl, rfl, rfl⟩ rfl ?_; intro v10 w10 own10 gr10 at10)
      have hfin := HD9.out.put own10 gr10
      obtain ⟨g2, c2, hv2⟩ : ∃ g2 c2, v10 = .slice (some ⟨g2, 0, none⟩) (zs.length + 1) c2 := by
        obtain ⟨g2, cap2, hv, -⟩ := (Own.of_row own10).open_ (by omega)
        exact ⟨g2, cap2, hv⟩
      subst hv2
      have HFN := Lib.hid hfin
      clear own10 gr10 at10 hfin
      go_wp2
      go_roundg (nn - (k + 1))
      case measure => omega
      case rel => exact ⟨k + 1, zs ++ [t], g2, c2, rfl, hlt, by go_num, by rw [List.length_append, HZL.out]; rfl, by rw [List.length_append]; rfl, HFN.out.own, HFN.out.cur.more (by omega), HFN.out.bel⟩
    · obtain rfl : k = nn := by omega
      go_wp2_with fail
      refine (one_calls w.heap.size _ 25 _ HD.out.cur (by omega) (by omega) (by omega)).mono ?_
      rintro e w5 ⟨b, rfl, hc5, ho5⟩
      have HD5 := Lib.hid (HD.out.move hc5 ho5)
      have hz60 : zs.length ≤ 61 := by have := HZL.out; omega
      clear hc5 ho5
      cases b with
      | false =>
        go_wp2
        go_ret
        exact ⟨_, zs, rfl, Own.of_row (HD5.out.own.base (lo' := w.heap.size) (by omega)), by omega, HD5.out.bel⟩
      | true =>
        go_wp2_with fail
        refine (anyStroke_calls w.heap.size _ _ HD5.out.cur (by omega)).mono ?_
        rintro e w6 ⟨t, rfl, hc6, ho6⟩
        have HD6 := Lib.hid (HD5.out.move hc6 ho6)
        have hbw : w.heap.size + 1 ≤ w6.heap.size := by have := HD6.out.cur.1; omega
        clear hc6 ho6
        go_wp2_with (at_builtin; refine wpList_append_oneA HD6.out.own hbw (.tmp 37) (.tmp 40) 22 Try.underlying22 info_int (by omega) (by unfold maxLen; omega) ⟨rfl, rfl, rfl, rfl, rfl, rfl⟩ rfl ?_; intro v10 w10 own10 gr10 at10)
        have hfin := HD6.out.put own10 gr10
        go_ret
        exact ⟨_, zs ++ [t], rfl, Own.of_row (hfin.own.base (lo' := w.heap.size) (by omega)), by simp; omega, hfin.bel⟩
end Go.Proofs.Ytfgfbnmcihjfmaa
