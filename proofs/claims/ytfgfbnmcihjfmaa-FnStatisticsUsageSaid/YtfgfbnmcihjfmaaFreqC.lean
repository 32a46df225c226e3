/-
  The map of counts, and the program's comparison of two strokes by how often they occur, walked.
-/
import Derived.Test.YtfgfbnmcihjfmaaStabI
import Derived.Maps.OwnOps
import Derived.Maps.OwnSet
namespace Go.Proofs.Ytfgfbnmcihjfmaa
open Go.RowKit Go.Maps
set_option linter.unusedVariables false
set_option linter.unusedSimpArgs false
set_option maxRecDepth 100000

theorem lawInt : Keyed Try.prog 3 := int_keyed Try.underlying3
theorem zeroInt (w : World) : (zeroValue 3).run Try.prog w = .ok (.int .i64 0) w := by kernel_rfl
/-- Block b is a map that counts m. -/
def CntMap (w : World) (b : Nat) (m : List Int) : Prop := ∃ (n : Nat) (D : DataW Unit), n ≤ m.length ∧ w.ownsMap Try.prog 3 (plainElem Try.prog 3) b n D ∧
  ∀ x : Int, D.atKey (.int .i64 x) (.lit (.int .i64 0)) = .lit (.int .i64 (cntS m x))
theorem wf_of {x : Int} (h : I64 x) : (Lit.int .i64 x).wf = true := by
  unfold I64 at h
  simp [Lit.wf, IntKind.min, IntKind.max, IntKind.signed, IntKind.bits]
  omega
theorem CntMap.made (w : World) : CntMap (w.alloc (.map #[] 0)) w.heap.size [] :=
  ⟨0, .map [], Nat.le_refl _, World.ownsMap_made _ _ _ _, fun x => rfl⟩
theorem CntMap.kept {w w' : World} {b : Nat} {m : List Int} (h : CntMap w b m) {row : Option Nat} (hg : w.grownBy w' row) (hne : some b ≠ row) : CntMap w' b m := by
  obtain ⟨n, D, h1, h2, h3⟩ := h
  exact ⟨n, D, h1, h2.kept hg hne, h3⟩
theorem CntMap.only {w w' : World} {b lo hi : Nat} {m : List Int} (h : CntMap w b m) (ho : Only lo hi w w') (hd : b < lo ∨ hi ≤ b) : CntMap w' b m := by
  obtain ⟨n, D, h1, ⟨es, clock, hb, F, hs, hD⟩, h3⟩ := h
  have hlt := (Array.getElem?_eq_some_iff.1 hb).1
  exact ⟨n, D, h1, ⟨es, clock, (ho.block b hlt hd).trans hb, F, hs, hD⟩, h3⟩
theorem CntMap.below {w w' : World} {b : Nat} {m : List Int} (h : CntMap w b m) (hb : Below w.heap.size w w') : CntMap w' b m := by
  obtain ⟨n, D, h1, ⟨es, clock, hb0, F, hs, hD⟩, h3⟩ := h
  have hlt := (Array.getElem?_eq_some_iff.1 hb0).1
  exact ⟨n, D, h1, ⟨es, clock, (hb.block b hlt).trans hb0, F, hs, hD⟩, h3⟩
theorem CntMap.lt {w : World} {b : Nat} {m : List Int} (h : CntMap w b m) : b < w.heap.size := by
  obtain ⟨n, D, h1, ⟨es, clock, hb0, F, hs, hD⟩, h3⟩ := h
  exact (Array.getElem?_eq_some_iff.1 hb0).1
theorem cntS_snoc (m : List Int) (x y : Int) : cntS (m ++ [x]) y = cntS m y + (if x = y then 1 else 0) := by
  unfold cntS
  rw [List.count_append]
  by_cases h : x = y
  · subst h; simp
  · simp [h]
theorem cnt_put {D : DataW Unit} {m : List Int} {x : Int} (hD : IsMap D) (h : ∀ y : Int, D.atKey (.int .i64 y) (.lit (.int .i64 0)) = .lit (.int .i64 (cntS m y))) {c : Int} (hc : c = cntS m x + 1) :
    ∀ y : Int, (D.put (.int .i64 x) (.lit (.int .i64 c))).atKey (.int .i64 y) (.lit (.int .i64 0)) = .lit (.int .i64 (cntS (m ++ [x]) y)) := by
  intro y
  rw [cntS_snoc]
  by_cases e : x = y
  · subst e
    rw [atKey_put_same hD (by first | exact ⟨_, _, rfl⟩ | trivial | simp [WideAt.IsKeyLit]), hc, if_pos rfl]
  · rw [atKey_put_other (fun h => e (by injection h with _ h; exact h.symm)), h y, if_neg e, Int.add_zero]

theorem cmp_isNaN_int (x : Int) (w : World) : Calls Try.prog 41 #[.int .i64 x] w fun e w' => e = .returned (.bool false) ∧ w = w' := by
  go_enter Try.func41, Try.ntmps41
  go_wp2
  go_ret
  exact ⟨by simp, rfl⟩
def cmpI (x y : Int) : Int := if x < y then -1 else if y < x then 1 else 0
set_option maxHeartbeats 1000000 in
theorem cmp_Compare_int (x y : Int) (w : World) : Calls Try.prog 25 #[.int .i64 x, .int .i64 y] w fun e w' => e = .returned (.int .i64 (cmpI x y)) ∧ w = w' := by
  rcases Int.lt_trichotomy x y with h | h | h
  · have HE := Lib.hid (show cmpI x y = -1 by unfold cmpI; rw [if_pos h])
    go_enter Try.func25, Try.ntmps25
    go_wp2_with (go_at_call 41; refine (cmp_isNaN_int _ _).mono ?_; rintro e w' ⟨rfl, rfl⟩)
    go_ret
    exact ⟨by rw [HE.out]; rfl, rfl⟩
  · have HE := Lib.hid (show cmpI x y = 0 by unfold cmpI; rw [if_neg (by omega), if_neg (by omega)])
    have h1 : ¬ x < y := by omega
    have h2 : ¬ y < x := by omega
    clear h
    go_enter Try.func25, Try.ntmps25
    go_wp2_with (go_at_call 41; refine (cmp_isNaN_int _ _).mono ?_; rintro e w' ⟨rfl, rfl⟩)
    go_ret
    exact ⟨by rw [HE.out]; rfl, rfl⟩
  · have HE := Lib.hid (show cmpI x y = 1 by unfold cmpI; rw [if_neg (by omega), if_pos h])
    have h1 : ¬ x < y := by omega
    go_enter Try.func25, Try.ntmps25
    go_wp2_with (go_at_call 41; refine (cmp_isNaN_int _ _).mono ?_; rintro e w' ⟨rfl, rfl⟩)
    go_ret
    exact ⟨by rw [HE.out]; rfl, rfl⟩
set_option maxHeartbeats 2000000 in
theorem freqCmp_calls (gb b : Nat) (l : List Int) (w : World) (hbox : w.cell? ⟨gb, 0, none⟩ = some (.map (some b))) (hm : CntMap w b l) (x y : Int) (hx : I64 x) (hy : I64 y) :
    Calls Try.prog 24 #[.int .i64 x, .int .i64 y, .pointer (some ⟨gb, 0, none⟩)] w fun e w' => e = .returned (.int .i64 (cmpZ (cntS l) x y)) ∧ ∃ q, w' = w.drewN q := by
  obtain ⟨n, D, h1, h2, h3⟩ := hm
  have H3 := Lib.hid h3
  have kx : keyOf Try.prog 3 (.int .i64 x) = some (.int .i64 x) := keyOf_int_mk Try.underlying3 (wf_of hx)
  have ky : keyOf Try.prog 3 (.int .i64 y) = some (.int .i64 y) := keyOf_int_mk Try.underlying3 (wf_of hy)
  obtain ⟨cy, ry, ay, -⟩ := h2.lookup_int lawInt Try.underlying37 Try.underlying3 (zeroInt _) ky
  obtain ⟨cx, rx, ax, -⟩ := h2.lookup_int lawInt Try.underlying37 Try.underlying3 (zeroInt _) kx
  have hcy : cy = cntS l y := by rw [H3.out y] at ay; injection ay with ay; injection ay with _ ay; exact ay.symm
  have hcx : cx = cntS l x := by rw [H3.out x] at ax; injection ax with ax; injection ax with _ ax; exact ax.symm
  have HCY := Lib.hid hcy
  have HCX := Lib.hid hcx
  clear h3 h2 kx ky ay ax hcy hcx h1
  go_enter Try.func24, Try.ntmps24
  go_wp2_with fail
  refine (cmp_Compare_int cy cx _).mono ?_
  rintro e w1 ⟨rfl, rfl⟩
  go_wp2
  go_ret
  exact ⟨by rw [show cmpZ (cntS l) x y = cmpI (cntS l y) (cntS l x) from rfl, ← HCY.out, ← HCX.out]; rfl, 0, rfl⟩
end Go.Proofs.Ytfgfbnmcihjfmaa
