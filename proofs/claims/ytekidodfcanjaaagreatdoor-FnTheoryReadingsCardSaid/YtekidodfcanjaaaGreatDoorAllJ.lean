/-
  The program's AllReadings.
-/
import Derived.Test.YtekidodfcanjaaaGreatDoorAllI
import Derived.Laws.EntriesVeiled
namespace Go.Proofs.YtekidodfcanjaaaGreatDoor
open Go.RowKit
set_option linter.unusedVariables false
set_option linter.unusedSimpArgs false
set_option maxRecDepth 100000

theorem impl_ext (lo bo bm bc bs bd be most : Nat) (C : Option Addr) (cc : Nat) (B : Option Addr) (cb : Nat) (zs : List Int) (A : Option Addr) (cap : Nat) (l : List EntD) (hv : dictB l = true) (h60 : zs.length ≤ 60) (hcb : zs.length ≤ cb) (hcm : cb ≤ maxLen) (hm50 : most ≤ 50) :
    ∀ (n at_ : Nat), zs.length - at_ ≤ n → at_ ≤ zs.length → ExtSpec lo bo bm bc bs bd be most C cc B cb zs A cap l at_
  | 0, at_, hn, hat => impl_ext_step lo bo bm bc bs bd be most C cc B cb zs A cap l hv h60 hcb hcm hm50 at_ hat (fun a' h1 h2 => by omega)
  | n + 1, at_, hn, hat => impl_ext_step lo bo bm bc bs bd be most C cc B cb zs A cap l hv h60 hcb hcm hm50 at_ hat (fun a' h1 h2 => impl_ext lo bo bm bc bs bd be most C cc B cb zs A cap l hv h60 hcb hcm hm50 n a' (by omega) h2)

theorem impl_isFew (n : Int) (w : World) : Calls Tryz.prog 62 #[.int .i64 n] w fun e w' => e = .returned (.bool (inB n 0 50)) ∧ w = w' := by
  go_enter Tryz.func62, Tryz.ntmps62
  go_wp2_with (go_at_call 96; refine (impl_in _ _ _ _).mono ?_; rintro e w' ⟨rfl, rfl⟩)
  go_ret
  exact ⟨rfl, rfl⟩

theorem made_all (w5 : World) (V0 C F : Value) : ∃ W9, W9 = (((w5.alloc (.cells #[V0] 41)).alloc (.cells #[C] 26)).alloc (.cells #[F] 81)).alloc (.cells #[] 3) ∧ Below w5.heap.size w5 W9 ∧ Box W9 w5.heap.size 41 V0 ∧ Box W9 (w5.heap.size + 1) 26 C ∧ Box W9 (w5.heap.size + 1 + 1) 81 F ∧ W9.ownsRow 0 3 1 (.slice (some ⟨w5.heap.size + 1 + 1 + 1, 0, none⟩) 0 0) 0 [] := by
  obtain ⟨wa, ha⟩ : ∃ wa, wa = w5.alloc (.cells #[V0] 41) := ⟨_, rfl⟩
  obtain ⟨wb, hb⟩ : ∃ wb, wb = wa.alloc (.cells #[C] 26) := ⟨_, rfl⟩
  obtain ⟨wc, hc⟩ : ∃ wc, wc = wb.alloc (.cells #[F] 81) := ⟨_, rfl⟩
  have sa : wa.heap.size = w5.heap.size + 1 := by rw [ha]; simp
  have sb : wb.heap.size = w5.heap.size + 1 + 1 := by rw [hb, ← sa]; simp
  have sc : wc.heap.size = w5.heap.size + 1 + 1 + 1 := by rw [hc, ← sb]; simp
  have ba : Box wa w5.heap.size 41 V0 := by rw [ha]; exact Box.new _ _ _
  have bb : Box wb (w5.heap.size + 1) 26 C := by rw [hb, ← sa]; exact Box.new _ _ _
  have bc : Box wc (w5.heap.size + 1 + 1) 81 F := by rw [hc, ← sb]; exact Box.new _ _ _
  have ba2 : Box wc w5.heap.size 41 V0 := by rw [hc, hb]; exact (ba.alloc _).alloc _
  have bb2 : Box wc (w5.heap.size + 1) 26 C := by rw [hc]; exact bb.alloc _
  have e1 : Below w5.heap.size w5 wa := by rw [ha]; exact (Below.refl _ _).alloc (Nat.le_refl _) _
  have e2 : Below w5.heap.size w5 wb := by rw [hb]; exact e1.alloc e1.size _
  have e3 : Below w5.heap.size w5 wc := by rw [hc]; exact e2.alloc e2.size _
  refine ⟨wc.alloc (.cells #[] 3), by rw [hc, hb, ha], e3.alloc e3.size _, ba2.alloc _, bb2.alloc _, bc.alloc _, ?_⟩
  rw [← sc]
  exact World.ownsRow_made _ _ _ (Nat.zero_le _) (by simp) rfl

set_option maxHeartbeats 8000000 in
theorem impl_AllReadings (A B : Option Addr) (cap cb : Nat) (l : List EntD) (zs : List Int) (most : Int) (w : World) (hr : DictR w w.heap.size A l) (hn : l.length ≤ 1048576) (hs : ShortD l) (hmx : MaxOk w) (hz : Reads w w.heap.size 1 B zs.length (ints zs)) (hzn : zs.length ≤ 1048576) (hcb : zs.length ≤ cb) (hcm : cb ≤ maxLen) :
    Calls Tryz.prog 32 #[.agg #[.slice A l.length cap], .slice B zs.length cb, .int .i64 most] w (RowsRes (allB l zs most) (allD l zs most) w) := by
  obtain ⟨Wd, hWd⟩ : ∃ Wd, Wd = w.alloc (.cells #[.slice A l.length cap] 31) := ⟨_, rfl⟩
  obtain ⟨Ws, hWs⟩ : ∃ Ws, Ws = Wd.alloc (.cells #[.slice B zs.length cb] 26) := ⟨_, rfl⟩
  obtain ⟨W1, hW1⟩ : ∃ W1, W1 = Ws.alloc (.cells #[.int .i64 most] 3) := ⟨_, rfl⟩
  have bd0 : Box Wd w.heap.size 31 (.slice A l.length cap) := by rw [hWd]; exact Box.new w _ _
  have hsd : Wd.heap.size = w.heap.size + 1 := by rw [hWd]; simp
  have bs0 : Box Ws (w.heap.size + 1) 26 (.slice B zs.length cb) := by rw [hWs, ← hsd]; exact Box.new Wd _ _
  have hss : Ws.heap.size = w.heap.size + 2 := by rw [hWs]; simp; omega
  have bm1 : Box W1 (w.heap.size + 2) 3 (.int .i64 most) := by rw [hW1, ← hss]; exact Box.new Ws _ _
  have bs1 : Box W1 (w.heap.size + 1) 26 (.slice B zs.length cb) := by rw [hW1]; exact bs0.alloc _
  have bd1 : Box W1 w.heap.size 31 (.slice A l.length cap) := by rw [hW1, hWs]; exact (bd0.alloc _).alloc _
  have hb1 : Below w.heap.size w W1 := by rw [hW1, hWs, hWd]; exact (((Below.refl _ _).alloc (Nat.le_refl _) _).alloc (by simp) _).alloc (by simp; omega) _
  have HM := Lib.hid (impl_isMatched A B cap cb l zs W1 ((hr.below hb1).more hb1.size) hn hs (hmx.below hb1) ((hz.below hb1).more hb1.size) hzn)
  have cd := bd1.cell
  have cs := bs1.cell
  have cm := bm1.cell
  clear hs hmx bd0 bs0 hsd hss
  cases hm : (dictB l && strokesB zs)
  · have HR := Lib.hid hm
    have HRO := Lib.hid (show allB l zs most = false by rw [allB, hm]; rfl)
    rw [allD_no HRO.out]
    clear hm
    go_enter Tryz.func32, Tryz.ntmps32
    go_wp2_with fail
    rw [← hWd, ← hWs, ← hW1]
    clear hWd hWs hW1
    refine HM.out.mono ?_
    rw [HR.out]
    rintro e w3 ⟨rfl, b3⟩
    go_wp2
    go_ret2
    exact rows_no HRO.out (hb1.trans (b3.mono hb1.size))
  have HR := Lib.hid hm
  rw [Bool.and_eq_true] at hm
  have HV := Lib.hid hm.1
  have h60 := strokes_len hm.2
  clear hm
  cases hin : inB most 0 50
  · have HN := Lib.hid hin
    have HRO := Lib.hid (show allB l zs most = false by rw [allB, hin, Bool.and_false])
    rw [allD_no HRO.out]
    clear hin
    go_enter Tryz.func32, Tryz.ntmps32
    go_wp2_with fail
    rw [← hWd, ← hWs, ← hW1]
    clear hWd hWs hW1
    refine HM.out.mono ?_
    rw [HR.out]
    rintro e w3 ⟨rfl, b3⟩
    have cm3 := (bm1.far b3).cell
    clear cd cs cm
    go_wp2_with fail
    refine (impl_isFew _ _).mono ?_
    rw [HN.out]
    rintro e w4 ⟨rfl, rfl⟩
    go_wp2
    go_ret2
    exact rows_no HRO.out (hb1.trans (b3.mono hb1.size))
  have HN := Lib.hid hin
  have HRO := Lib.hid (show allB l zs most = true by rw [allB, HR.out, hin]; rfl)
  obtain ⟨hm0, hm50⟩ := inB_iff.1 hin
  obtain ⟨mo, rfl⟩ := Int.eq_ofNat_of_zero_le hm0
  have hf : ∀ (fn : Fn) (first cap : Array Value) (w : World), (Instr.makeFunc fn first cap).run Tryz.prog w = .ok (.func fn first cap) w := fun _ _ _ _ => rfl
  have hin' : ∀ args W, (callFunc 63 args).run Tryz.prog W = .ok (.enter 63 args) W := fun args W => run_enter Tryz.func63 (by kernel_rfl) rfl args W
  have HCM := Lib.hid hcm
  clear hin hcm
  go_enter Tryz.func32, Tryz.ntmps32
  go_wp2_with fail
  rw [← hWd, ← hWs, ← hW1]
  clear hWd hWs hW1
  refine HM.out.mono ?_
  rw [HR.out]
  rintro e w3 ⟨rfl, b3⟩
  have B3 := hb1.trans (b3.mono hb1.size)
  have bm3 := bm1.far b3
  have bs3 := bs1.far b3
  have bd3 := bd1.far b3
  have cm3 := bm3.cell
  have cs3 := bs3.cell
  have cd3 := bd3.cell
  clear cd cs cm HM
  go_wp2_with fail
  refine (impl_isFew _ _).mono ?_
  rw [HN.out]
  rintro e w4 ⟨rfl, rfl⟩
  have ba := (Below.refl w3.heap.size w3).alloc (Nat.le_refl _) (.cells #[] 26)
  have BA := B3.trans (ba.mono B3.size)
  have cs4 := (bs3.far ba).cell
  have cd4 := (bd3.far ba).cell
  have own0 : (w3.alloc (.cells #[] 26)).ownsRow w.heap.size 26 1 (.slice (some ⟨w3.heap.size, 0, none⟩) 0 0) 0 [] := World.ownsRow_made _ _ _ B3.size (by simp) rfl
  have HC := Lib.hid (impl_readings A B cap cb l zs (w3.alloc (.cells #[] 26)) ((hr.below BA).more BA.size) HV.out ((hz.below BA).more BA.size) h60 hcb HCM.out)
  go_wp2_with fail
  refine HC.out.mono ?_
  rintro e w5 ⟨gc, rfl, oc, b5⟩
  go_wp2_with fail
  trace_state
  obtain ⟨W9, hW9, b9, bo9, bc9, be9, ol9⟩ := made_all w5 (.slice (some ⟨w3.heap.size, 0, none⟩) 0 0) (.slice (some ⟨gc, 0, none⟩) (zs.length + 1) (zs.length + 1)) (.func (.func 63) #[] #[.pointer (some ⟨w5.heap.size, 0, none⟩), .pointer (some ⟨w.heap.size + 1 + 1, 0, none⟩), .pointer (some ⟨w5.heap.size + 1, 0, none⟩), .pointer (some ⟨w.heap.size + 1, 0, none⟩), .pointer (some ⟨w.heap.size, 0, none⟩), .pointer (some ⟨w5.heap.size + 1 + 1, 0, none⟩)])
  rw [← hW9]
  clear hW9
  have B5 := BA.trans (b5.mono BA.size)
  have B9 := B5.trans (b9.mono B5.size)
  have s35 : w3.heap.size ≤ w5.heap.size := by have := ba.size; have := b5.size; omega
  have hc9 : CapW W9 (w.heap.size + 1 + 1) (w5.heap.size + 1) (w.heap.size + 1) w.heap.size (w5.heap.size + 1 + 1) mo (some ⟨gc, 0, none⟩) (zs.length + 1) B cb zs A cap l (.func (.func 63) #[] #[.pointer (some ⟨w5.heap.size, 0, none⟩), .pointer (some ⟨w.heap.size + 1 + 1, 0, none⟩), .pointer (some ⟨w5.heap.size + 1, 0, none⟩), .pointer (some ⟨w.heap.size + 1, 0, none⟩), .pointer (some ⟨w.heap.size, 0, none⟩), .pointer (some ⟨w5.heap.size + 1 + 1, 0, none⟩)]) :=
    ⟨((bm3.far ba).far b5).far b9, bc9, ((bs3.far ba).far b5).far b9, ((bd3.far ba).far b5).far b9, be9⟩
  have hlt1 : w.heap.size + 1 < w3.heap.size := bs3.lt
  have HEX : Calls Tryz.prog 63 #[.slice (some ⟨w5.heap.size + 1 + 1 + 1, 0, none⟩) 0 0, .int .i64 0, .pointer (some ⟨w5.heap.size, 0, none⟩), .pointer (some ⟨w.heap.size + 1 + 1, 0, none⟩), .pointer (some ⟨w5.heap.size + 1, 0, none⟩), .pointer (some ⟨w.heap.size + 1, 0, none⟩), .pointer (some ⟨w.heap.size, 0, none⟩), .pointer (some ⟨w5.heap.size + 1 + 1, 0, none⟩)] W9 (ExtRes w.heap.size w5.heap.size (.slice (some ⟨w3.heap.size, 0, none⟩) 0 0) (allR l zs mo) W9) :=
    impl_ext w.heap.size w5.heap.size (w.heap.size + 1 + 1) (w5.heap.size + 1) (w.heap.size + 1) w.heap.size (w5.heap.size + 1 + 1) mo (some ⟨gc, 0, none⟩) (zs.length + 1) B cb zs A cap l HV.out h60 hcb HCM.out (by omega) zs.length 0 (by omega) (by omega) [] (w5.heap.size + 1 + 1 + 1) 0 (.slice (some ⟨w3.heap.size, 0, none⟩) 0 0) [] [] W9 B9.size B5.size hc9 bo9 (by show some w3.heap.size ≠ some _; intro e; injection e; omega) (by show some w3.heap.size ≠ some _; intro e; injection e; omega) (hr.below B9) (hz.below B9) (row_below (oc.1.base (Nat.zero_le _)) b9) ol9 (row_below (row_below own0 b5) b9) (RowsAt.nil _ _) (Nat.zero_le _) (Nat.zero_le _)
  refine HEX.mono ?_
  rintro e w6 ⟨v6, vs6, rfl, bo6, o6, rows6, f6, at6⟩
  have hDR : allD l zs (mo : Int) = allR l zs mo := by rw [allD_yes HRO.out, Int.toNat_natCast]
  rw [← hDR] at o6 rows6
  clear hDR
  obtain ⟨A6, k6, rfl, -, -, -⟩ := (Own.of_row o6).slice
  have c6 := bo6.cell
  have B6 := B9.trans (f6.below B9.size B5.size (fun g hg => by
    have : some w3.heap.size = some g := hg
    injection this
    have := B3.size
    omega))
  clear HEX
  go_wp2
  go_ret2
  exact rows_yes HRO.out o6 rows6 (Nat.le_refl _) B6
end Go.Proofs.YtekidodfcanjaaaGreatDoor
