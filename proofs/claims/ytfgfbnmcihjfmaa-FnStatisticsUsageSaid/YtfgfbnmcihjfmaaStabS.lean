/-
  The library's stable sort of an ascending row of numbers by the program's comparison: what stands behind it is sorted by how often each occurs.
-/
import Derived.Test.YtfgfbnmcihjfmaaStabP
namespace Go.Proofs.Ytfgfbnmcihjfmaa
open Go.RowKit
set_option linter.unusedVariables false
set_option linter.unusedSimpArgs false
set_option maxRecDepth 100000

set_option maxHeartbeats 16000000 in
theorem stable_calls (lo g cap n gb : Nat) (c : Int → Int) (O : List Int) (W w : World) (h : RowZ W w lo g cap n O) (hasc : O.Pairwise (· < ·)) (hc : CmpOk W g gb c) (hn : n ≤ 1000000) :
    Calls Try.prog 40 #[.slice (some ⟨g, 0, none⟩) n cap, .int .i64 n, .func (.func 24) #[] #[.pointer (some ⟨gb, 0, none⟩)]] w fun e w' => e = .returned (.tuple #[]) ∧ ∃ ys, ys.Perm O ∧ ys.Pairwise (Bef c) ∧ RowZ W w' lo g cap n ys := by
  have hol := h.len
  have H0 := Lib.hid h
  have HC := Lib.hid hc
  have HA := Lib.hid hasc
  have HOL := Lib.hid hol
  clear h hc hasc hol
  go_enter Try.func40, Try.ntmps40
  go_wp2
  go_loopw [7, 8] (fun va vb wr => ∃ (t a : Nat) (xs D : List Int), va = .int .i64 a ∧ vb = .int .i64 ((a + 20 : Nat) : Int) ∧ a = t * 20 ∧ a ≤ n ∧ InsSt c O xs D t ∧ RowZ W wr lo g cap n xs) (fun va vb _ => n + 20 - (intOf va).toNat)
  case atStart => exact ⟨0, 0, O, [], rfl, rfl, rfl, Nat.zero_le _, insSt_start, H0.out⟩
  case round =>
    obtain ⟨t, a, xs, D, rfl, rfl, hat, han, hst, hro⟩ := hrel
    have HAT := Lib.hid hat
    have HST := Lib.hid hst
    have HRO := Lib.hid hro
    obtain ⟨b, hb⟩ : ∃ b, b = a + 20 := ⟨_, rfl⟩
    rw [← hb]
    by_cases hbn : b ≤ n
    · have hO : t * 20 + 20 ≤ O.length := by have := HOL.out; omega
      have hcut := hst.cut
      have HI := Lib.hid (insertion_calls lo g cap n a b gb c D (blk O 20 t) (O.drop (t * 20 + 20)) W wr (by rw [← hcut]; exact hro) (by rw [hst.len]; exact hat.symm) (by rw [blk_len]; omega) (blk_asc HA.out 20 t) HC.out hn)
      have i1 : (b : Int) ≤ (n : Int) := by omega
      have HB := Lib.hid hb
      have HOO := Lib.hid hO
      clear hat hst hro hcut hb hO
      go_wp2_with fail
      refine HI.out.mono ?_
      rintro e w1 ⟨rfl, C, hC1, hC2, hr1⟩
      have HN := Lib.hid (HST.out.next HOO.out hC1 hC2)
      have HR1 := Lib.hid hr1
      clear hC1 hC2 hr1
      go_wp2
      go_roundw
      case rel => exact ⟨t + 1, b, _, _, rfl, by have := HB.out; go_num, by have := HAT.out; have := HB.out; omega, hbn, HN.out, HR1.out⟩
      case measure => have := HB.out; simp [intOf]; omega
    · have hO : O.length < t * 20 + 20 := by have := HOL.out; omega
      have HI := Lib.hid (insertion_calls lo g cap n a n gb c D (O.drop (t * 20)) [] W wr (by rw [List.append_nil, ← hst.eq]; exact hro) (by rw [hst.len]; exact hat.symm) (by have := HOL.out; rw [List.length_drop]; omega) (HA.out.sublist (List.drop_sublist _ _)) HC.out hn)
      have i1 : ¬ (b : Int) ≤ (n : Int) := by omega
      have HOO := Lib.hid hO
      clear hat hst hro hb hO
      go_wp2_with fail
      refine HI.out.mono ?_
      rintro e w1 ⟨rfl, C, hC1, hC2, hr1⟩
      have HN := Lib.hid (HST.out.last HOO.out hC1 hC2)
      have HR1 := Lib.hid hr1
      clear hC1 hC2 hr1 i1
      go_wp2
      go_loopw [6] (fun vs wr => ∃ (bs : Nat) (xs : List Int), vs = .int .i64 bs ∧ 0 < bs ∧ bs ≤ 2000020 ∧ (∀ k, Blks c bs xs O 0 k) ∧ RowZ W wr lo g cap n xs) (fun vs _ => 2000020 - (intOf vs).toNat)
      case atStart => exact ⟨20, _, rfl, by omega, by omega, HN.out, HR1.out⟩
      case round =>
        obtain ⟨bs, ys, rfl, hb0, hb1, hbl, hr2⟩ := hrel
        have HBL := Lib.hid hbl
        have HR2 := Lib.hid hr2
        clear hbl hr2
        by_cases hbn2 : bs < n
        · have i1 : (bs : Int) < (n : Int) := by omega
          obtain ⟨bb, hbb⟩ : ∃ bb, bb = 2 * bs := ⟨_, rfl⟩
          have e1 : IntKind.i64.wrap (2 * (bs : Int)) = (bb : Int) := by rw [IntKind.wrap_i64]; omega
          have e2 : IntKind.i64.wrap ((bs : Int) * 2) = (bb : Int) := by rw [IntKind.wrap_i64]; omega
          have HBB := Lib.hid hbb
          have hb2 : bb ≤ 2000000 := by omega
          have hb3 : bs < bb := by omega
          have HH0 := Lib.hid (half_start (by rw [HR2.out.len, HOL.out]) HBL.out)
          clear hbb
          go_wp2
          go_loopw [7, 8] (fun va vb wr => ∃ (t a : Nat) (xs : List Int), va = .int .i64 a ∧ vb = .int .i64 ((a + bb : Nat) : Int) ∧ a = 2 * t * bs ∧ a ≤ n ∧ Half c bs xs O t ∧ RowZ W wr lo g cap n xs) (fun va vb _ => n + 1 - (intOf va).toNat)
          case atStart => exact ⟨0, 0, ys, rfl, by simp, by simp, Nat.zero_le _, HH0.out, HR2.out⟩
          case round =>
            obtain ⟨t, a, zs, rfl, rfl, hat, han, hhf, hr3⟩ := hrel
            have HAT := Lib.hid hat
            have HHF := Lib.hid hhf
            have HR3 := Lib.hid hr3
            clear hat hhf hr3
            obtain ⟨b, hb⟩ : ∃ b, b = a + bb := ⟨_, rfl⟩
            rw [← hb]
            obtain ⟨m, hm⟩ : ∃ m, m = a + bs := ⟨_, rfl⟩
            have em : IntKind.i64.wrap ((a : Int) + (bs : Int)) = (m : Int) := by rw [IntKind.wrap_i64]; omega
            have hbb := HBB.out
            have hzl := HR3.out.len
            by_cases hbn3 : b ≤ n
            · have i2 : (b : Int) ≤ (n : Int) := by omega
              have HI := Lib.hid (symMerge_calls lo g cap n gb c W HC.out hn (b - a) a m b zs _ _ _ _ wr (Nat.le_refl _) (by omega) (by omega) HR3.out (HHF.out.runs HA.out hb0 HAT.out hm (by omega) (by omega)))
              have e3 : IntKind.i64.wrap ((b : Int) + (bb : Int)) = ((b + bb : Nat) : Int) := by rw [IntKind.wrap_i64]; omega
              have HB := Lib.hid (show b = 2 * (t + 1) * bs by rw [two_next, hb, HAT.out, hbb])
              have HMX := Lib.hid (show 2 * t * bs + bs ≤ zs.length by have := HAT.out; omega)
              have hab : a < b := by omega
              clear hb hm hbb hzl
              go_wp2_with fail
              refine HI.out.mono ?_
              rintro e w1 ⟨rfl, us, hmg, hr1⟩
              have HN := Lib.hid (HHF.out.next HMX.out hb0 hmg)
              have HR1 := Lib.hid hr1
              clear hmg hr1
              go_wp2
              go_roundw
              case rel => exact ⟨t + 1, b, us, rfl, by go_num, HB.out, hbn3, HN.out, HR1.out⟩
              case measure => simp [intOf]; omega
            · have i2 : ¬ (b : Int) ≤ (n : Int) := by omega
              by_cases hmn : m < n
              · have i3 : (m : Int) < (n : Int) := by omega
                have HI := Lib.hid (symMerge_calls lo g cap n gb c W HC.out hn (n - a) a m n zs _ _ _ _ wr (Nat.le_refl _) (by omega) (by omega) HR3.out (HHF.out.runs HA.out hb0 HAT.out hm (by omega) (by omega)))
                have HMX := Lib.hid (show 2 * t * bs + bs ≤ zs.length by have := HAT.out; omega)
                have HEND := Lib.hid (show n ≤ 2 * (t + 1) * bs + bs by rw [two_next]; have := HAT.out; omega)
                clear hb hm hbb hzl
                go_wp2_with fail
                refine HI.out.mono ?_
                rintro e w1 ⟨rfl, us, hmg, hr1⟩
                have hnx := HHF.out.next HMX.out hb0 hmg
                have HN := Lib.hid (hnx.end_ (by rw [hr1.len]; exact HEND.out))
                have HR1 := Lib.hid hr1
                rw [← HBB.out] at HN
                clear hmg hr1 hnx
                go_wp2
                go_roundw
                case rel => exact ⟨bb, us, by go_num, by omega, by omega, HN.out, HR1.out⟩
                case measure => simp [intOf]; omega
              · have i3 : ¬ (m : Int) < (n : Int) := by omega
                have HN := Lib.hid (HHF.out.end_ (by have := HAT.out; omega))
                rw [← HBB.out] at HN
                clear hb hm hbb hzl
                go_wp2
                go_roundw
                case rel => exact ⟨bb, zs, by go_num, by omega, by omega, HN.out, HR3.out⟩
                case measure => simp [intOf]; omega
        · have hf := blks_done HBL.out (by rw [HR2.out.len]; omega) (by rw [HOL.out]; omega)
          have HF := Lib.hid hf
          have i1 : ¬ (bs : Int) < (n : Int) := by omega
          clear hf
          go_wp2
          go_end0
          exact ⟨rfl, ys, HF.out.1, HF.out.2, HR2.out⟩
end Go.Proofs.Ytfgfbnmcihjfmaa
