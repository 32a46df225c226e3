/-
  The insertion sort of a part of a row, as the library's stable sort does it with the program's comparison, walked.
-/
import Derived.Test.YtfgfbnmcihjfmaaStabW
namespace Go.Proofs.Ytfgfbnmcihjfmaa
open Go.RowKit
set_option linter.unusedVariables false
set_option linter.unusedSimpArgs false
set_option maxRecDepth 100000

/-- What the comparison answers. -/
def cmpZ (c : Int → Int) (x y : Int) : Int := if c y < c x then -1 else if c x < c y then 1 else 0
theorem cmpZ_yes {c : Int → Int} {x y : Int} (h : c y < c x) : cmpZ c x y < 0 := by unfold cmpZ; rw [if_pos h]; decide
theorem cmpZ_no {c : Int → Int} {x y : Int} (h : ¬ c y < c x) : ¬ cmpZ c x y < 0 := by unfold cmpZ; rw [if_neg h]; split <;> decide
/-- The program's comparison, in every world in which only block g has turned since W. -/
def CmpOk (W : World) (g gb : Nat) (c : Int → Int) : Prop := ∀ w, Only g (g + 1) W w → ∀ x y : Int, I64 x → I64 y →
  Calls Try.prog 24 #[.int .i64 x, .int .i64 y, .pointer (some ⟨gb, 0, none⟩)] w fun e w' => e = .returned (.int .i64 (cmpZ c x y)) ∧ ∃ q, w' = w.drewN q
theorem CmpOk.at_ {W wr : World} {g gb : Nat} {c : Int → Int} (h : CmpOk W g gb c) (ho : Only g (g + 1) W wr) {x y : Int} (hx : I64 x) (hy : I64 y) (q : Nat) :
    Calls Try.prog 24 #[.int .i64 x, .int .i64 y, .pointer (some ⟨gb, 0, none⟩)] (wr.drewN q) fun e w'' => e = .returned (.int .i64 (cmpZ c x y)) ∧ ∃ m, w'' = wr.drewN m :=
  (h _ (ho.drewN q) x y hx hy).mono fun _ _ ⟨he, m, hm⟩ => ⟨he, q + m, by rw [hm, World.drewN_drewN]⟩
abbrev cmpV (gb : Nat) : Value := .func (.func 24) #[] #[.pointer (some ⟨gb, 0, none⟩)]

set_option maxHeartbeats 8000000 in
theorem insertion_calls (lo g cap n a b gb : Nat) (c : Int → Int) (P M S : List Int) (W w : World) (h : RowZ W w lo g cap n (P ++ (M ++ S))) (hP : P.length = a) (hM : a + M.length = b) (hasc : M.Pairwise (· < ·)) (hc : CmpOk W g gb c) (hn : n ≤ 1000000) :
    Calls Try.prog 59 #[.slice (some ⟨g, 0, none⟩) n cap, .int .i64 a, .int .i64 b, .func (.func 24) #[] #[.pointer (some ⟨gb, 0, none⟩)]] w fun e w' => e = .returned (.tuple #[]) ∧ ∃ C, C.Perm M ∧ C.Pairwise (Bef c) ∧ RowZ W w' lo g cap n (P ++ (C ++ S)) := by
  have hin : ∀ args W, (callFunc 24 args).run Try.prog W = .ok (.enter 24 args) W := fun args W => run_enter Try.func24 (by kernel_rfl) rfl args W
  have hnl : a + M.length + S.length = n := by have := h.len; simp at this; omega
  have H0 := Lib.hid h
  have HC := Lib.hid hc
  have HA := Lib.hid hasc
  have HPL := Lib.hid hP
  have HML := Lib.hid hM
  have hbn : b ≤ n := by omega
  have hab : a ≤ b := by omega
  clear h hc hasc hP hM hnl
  have ea : IntKind.i64.wrap ((a : Int) + 1) = ((a + 1 : Nat) : Int) := by rw [IntKind.wrap_i64]; omega
  obtain ⟨a1, ha1⟩ : ∃ a1, a1 = a + 1 := ⟨_, rfl⟩
  rw [← ha1] at ea
  have HA1 := Lib.hid ha1
  clear ha1
  go_enter Try.func59, Try.ntmps59
  go_wp2
  clear ea
  go_loopw [8] (fun i wr => ∃ (k : Nat) (C : List Int), 1 ≤ k ∧ i = .int .i64 ((a + k : Nat) : Int) ∧ a + k ≤ b + 1 ∧ C.Perm (M.take k) ∧ C.Pairwise (Bef c) ∧ RowZ W wr lo g cap n (insRow P C M S k)) (fun i _ => b + 1 - (intOf i).toNat)
  case atStart => exact ⟨1, M.take 1, Nat.le_refl _, by rw [HA1.out], by omega, List.Perm.refl _, one_pw (by rw [List.length_take]; omega), by have := H0.out; unfold insRow; rw [← List.append_assoc (M.take 1), List.take_append_drop]; exact this⟩
  case round =>
    obtain ⟨k, C, hk1, rfl, hkb, hpm, hpw, hro⟩ := hrel
    have HPM := Lib.hid hpm
    have HPW := Lib.hid hpw
    have HRO := Lib.hid hro
    obtain ⟨i, hi⟩ : ∃ i, i = a + k := ⟨_, rfl⟩
    rw [← hi] at hkb ⊢
    have HI := Lib.hid hi
    clear hpm hpw hro hi
    by_cases hlt : i < b
    · have hkM : k < M.length := by have := HML.out; have := HI.out; omega
      obtain ⟨x, hx⟩ := some_at M hkM
      have hcl : C.length = k := by rw [HPM.out.length_eq, List.length_take]; omega
      have HX := Lib.hid hx
      have HCL := Lib.hid hcl
      have HR2 := Lib.hid (show RowZ W wr lo g cap n (wand1 P C (M.drop (k + 1) ++ S) x k) by rw [← ins_wand hcl hx]; exact HRO.out)
      have i1 : (i : Int) < (b : Int) := by omega
      clear hx hcl
      go_wp2
      go_loopw [9] (fun j w2 => ∃ t : Nat, t ≤ k ∧ j = .int .i64 ((a + t : Nat) : Int) ∧ (∀ y ∈ C.drop t, Bef c x y) ∧ RowZ W w2 lo g cap n (wand1 P C (M.drop (k + 1) ++ S) x t)) (fun j _ => (intOf j).toNat)
      case atStart => exact ⟨k, Nat.le_refl _, by rw [HI.out], (fun y hy => by rw [List.drop_of_length_le (by have := HCL.out; omega)] at hy; cases hy), HR2.out⟩
      case round =>
        obtain ⟨t, htk, rfl, hbe, hr3⟩ := hrel
        have HBE := Lib.hid hbe
        have HR3 := Lib.hid hr3
        clear hbe hr3
        rcases t with _ | t
        · have HST := Lib.hid (ins_step (t := 0) HPM.out HPW.out HX.out HA.out (Nat.zero_le _) HBE.out (fun j y hj => by omega))
          have HR4 := Lib.hid (show RowZ W wr lo g cap n (insRow P (C.take 0 ++ (x :: C.drop 0)) M S (k + 1)) by rw [← wand_ins]; exact HR3.out)
          rw [Nat.add_zero]
          have hj1 : ¬ (a : Int) < (a : Int) := by omega
          clear hin
          go_wp2_with fail
          go_big_quiet (fail)
          go_wp2
          go_roundw
          case rel => exact ⟨k + 1, _, by omega, by have := HI.out; go_num, by have := HI.out; omega, HST.out.1, HST.out.2, HR4.out.drewN _⟩
          case measure => simp [intOf]; omega
        · have htc : t < C.length := by have := HCL.out; omega
          have hio := HI.out
          obtain ⟨y, hy⟩ := some_at C htc
          have hw := wand2_at (P := P) (S := M.drop (k + 1) ++ S) (e := x) htc
          rw [hy, HPL.out] at hw
          obtain ⟨j, hj⟩ : ∃ j, j = a + t + 1 := ⟨_, rfl⟩
          obtain ⟨p, hp⟩ : ∃ p, p = a + t := ⟨_, rfl⟩
          rw [← hj, ← hp] at hw
          have hcq := HC.out.at_ HR3.out.only (HR3.out.wf hw.1) (HR3.out.wf hw.2)
          have cj := HR3.out.cell hw.1
          have cp := HR3.out.cell hw.2
          have fj := HR3.out.free j
          have fp := HR3.out.free p
          have hex := fun q => ((HR3.out.drewN q).exch hw.1 hw.2).drew
          have hwn := wand2_next (P := P) (S := M.drop (k + 1) ++ S) (e := x) htc
          rw [HPL.out, ← hj, ← hp] at hwn
          simp only [hwn] at hex
          have HEX := Lib.hid hex
          have ej : ((a + (t + 1) : Nat) : Int) = (j : Int) := by omega
          rw [ej]
          have ep : IntKind.i64.wrap ((j : Int) - 1) = (p : Int) := by rw [IntKind.wrap_i64]; omega
          have i2 : (a : Int) < (j : Int) := by omega
          have i3 : (j : Int) < (n : Int) := by omega
          have i4 : (p : Int) < (n : Int) := by omega
          have i5 : p ≠ j := by omega
          have i6 : (1 : Int) ≤ (j : Int) := by omega
          have HY := Lib.hid hy
          have HJ := Lib.hid hj
          have HP := Lib.hid hp
          clear hw hwn hy hj hp ej hio hex
          by_cases hxy : c y < c x
          · have hz := cmpZ_yes hxy
            have HXY := Lib.hid hxy
            have HPS := Lib.hid (ins_pass HPM.out HX.out HA.out HY.out hxy HBE.out)
            clear hxy
            go_wp2_with fail
            go_big_quiet (first | (go_at_call 24; exact hcq _))
            go_wp2_with fail
            have cj2 : (wr.drewN nq).cell? ⟨g, j, none⟩ = some (.int .i64 x) := cj
            have cp2 : (wr.drewN nq).cell? ⟨g, p, none⟩ = some (.int .i64 y) := cp
            have fj2 : (wr.drewN nq).frozen? ⟨g, j, none⟩ = false := fj
            have fp2 : (wr.drewN nq).frozen? ⟨g, p, none⟩ = false := fp
            have HEX2 := Lib.hid (HEX.out nq)
            clear cj cp fj fp hcq hz HEX
            generalize wr.drewN nq = wq at *
            go_region
            all_goals go_wp2
            go_roundw
            case rel => exact ⟨t, by omega, by have := HP.out; go_num, HPS.out, HEX2.out⟩
            case measure => have := HJ.out; have := HP.out; simp [intOf]; omega
          · have hz := cmpZ_no hxy
            have hst := ins_step (t := t + 1) HPM.out HPW.out HX.out HA.out (by omega) HBE.out (fun j' y' hj' hy' => by
              obtain rfl : j' = t := by omega
              rw [HY.out] at hy'
              obtain rfl := Option.some.inj hy'
              exact hxy)
            have HST := Lib.hid hst
            have HR4 := Lib.hid (show RowZ W wr lo g cap n (insRow P (C.take (t + 1) ++ (x :: C.drop (t + 1))) M S (k + 1)) by rw [← wand_ins]; exact HR3.out)
            clear hxy hst
            go_wp2_with fail
            go_big_quiet (first | (go_at_call 24; exact hcq _))
            go_wp2
            go_roundw
            case rel => exact ⟨k + 1, _, by omega, by have := HI.out; go_num, by have := HI.out; omega, HST.out.1, HST.out.2, HR4.out.drewN _⟩
            case measure => simp [intOf]; omega
    · have hkM : M.length ≤ k := by have := HML.out; have := HI.out; omega
      have e1 : M.take k = M := List.take_of_length_le hkM
      have e2 : M.drop k = [] := List.drop_of_length_le hkM
      have HF := Lib.hid (show C.Perm M ∧ C.Pairwise (Bef c) ∧ RowZ W wr lo g cap n (P ++ (C ++ S)) by
        have h1 := HPM.out
        have h2 := HRO.out
        unfold insRow at h2
        rw [e1] at h1
        rw [e2, List.nil_append] at h2
        exact ⟨h1, HPW.out, h2⟩)
      clear e1 e2
      have i1 : ¬ (i : Int) < (b : Int) := by omega
      go_wp2
      go_end0
      exact ⟨rfl, C, HF.out⟩
end Go.Proofs.Ytfgfbnmcihjfmaa
