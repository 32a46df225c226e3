/-
  The reference's l20Format and FormatCues.
-/
import Derived.Test.YtjdnmknegpikcaaDoorCueTextPl
import Derived.Test.YtjdnmknegpikcaaDoorValid
namespace Go.Proofs.YtjdnmknegpikcaaDoor
open Go.RowKit
set_option linter.unusedVariables false

theorem time_quiet {f : FuncId} {args : Array Value} {w : World} {k : Nat} {x : List UInt8} (h : Calls Tryd.prog f args (w.drewN k) fun e w' => e = .returned (.string ⟨x.toArray⟩) ∧ ∃ m, w' = (w.drewN k).drewN m) :
    Calls Tryd.prog f args (w.drewN k) fun e w'' => e = .returned (.string ⟨x.toArray⟩) ∧ ∃ m, w'' = w.drewN m :=
  h.mono fun e w' ⟨he, m, hm⟩ => ⟨he, k + m, by rw [hm]; simp [World.drewN, Nat.add_assoc]⟩
theorem spec_l1Num_int (z : Int) (n : Nat) (hz : z = n) (w : World) (hn : n ≤ 999999999) : Calls Tryd.prog 58 #[.int .i64 z] w (NumT n w) := by
  subst hz
  exact spec_l1Num n w hn

set_option maxHeartbeats 4000000 in
theorem spec_l20Format (A : Option Addr) (cap : Nat) (l : List CueD) (w : World) (hr : Reads w w.heap.size 3 A l.length (cuesV l)) (hv : validB l = true) :
    Calls Tryd.prog 43 #[.slice A l.length cap] w fun e w' => e = .returned (.string (textB l)) ∧ Below w.heap.size w w' := by
  have h30 : l.length ≤ 30 := by simp only [validB, Bool.and_eq_true, decide_eq_true_eq] at hv; exact hv.1
  have HV := Lib.hid hv
  clear hv
  go_enter Tryd.func43, Tryd.ntmps43
  go_wp2
  go_loopw [3, 4] (fun o i wr => ∃ k : Nat, k ≤ l.length ∧ i = .int .i64 k ∧ o = .string (textB (l.take k)) ∧ Below w.heap.size w wr) (fun _ i _ => l.length - (intOf i).toNat)
  case atStart => exact ⟨0, Nat.zero_le _, rfl, rfl, Below.refl _ _⟩
  case round =>
    obtain ⟨k, hk, rfl, rfl, hb⟩ := hrel
    by_cases hlt : k < l.length
    · obtain ⟨b, off, rfl, hb0, hc⟩ := (hr.below hb).2 (by omega)
      obtain ⟨⟨s, e, t⟩, hx⟩ := some_at l hlt
      obtain ⟨c1, c2, c3⟩ := Reads.cue (B := 0) (n := 0) hc hx
      obtain ⟨v1, v2, v3, v4, -, v6⟩ := valid_at HV.out hx
      simp only at v1 v2 v3 v4
      obtain ⟨s, rfl⟩ : ∃ n : Nat, s = n := ⟨s.toNat, by omega⟩
      obtain ⟨e, rfl⟩ : ∃ n : Nat, e = n := ⟨e.toNat, by omega⟩
      have hs9 : s ≤ 99999999 := by omega
      have he9 : e ≤ 99999999 := by omega
      have hT := Lib.hid (text_take_succ hx)
      obtain ⟨T, hTT⟩ : ∃ T, T = textL (l.take k) := ⟨_, rfl⟩
      have hl0 := text_len HV.out k hk
      have t1 := time_len hs9
      have t2 := time_len he9
      have t3 := dec_len (k + 1)
      rw [← hTT] at hl0
      have q3 : ∀ kk : Nat, Calls Tryd.prog 58 #[.int .i64 ((k : Int) + 1)] ((wr).drewN kk) fun e' w' => e' = .returned (.string ⟨(Lib.decDigits (k + 1)).toArray⟩) ∧ ∃ m, w' = (wr.drewN kk).drewN m := fun kk => spec_l1Num_int _ (k + 1) (by omega) _ (by omega)
      have Q3 := Lib.hid q3
      have E : textB (l.take (k + 1)) = ⟨(T ++ Lib.decDigits (k + 1) ++ [10] ++ timeOf s ++ [32, 45, 45, 62, 32] ++ timeOf e ++ [10] ++ t.data.toList ++ [10, 10]).toArray⟩ := by
        unfold textB
        rw [hT.out, cueText, ← hTT]
        simp only [List.append_assoc, Int.toNat_natCast]
      have HE := Lib.hid E
      have HTB := Lib.hid (show textB (l.take k) = ⟨T.toArray⟩ by rw [hTT]; rfl)
      rw [HTB.out]
      have i0 : (0 : Int) ≤ (k : Int) := by omega
      have i1 : (k : Int) < (l.length : Int) := by omega
      have w1 : IntKind.i64.wrap ((k : Int) + 1) = (k : Int) + 1 := IntWalk.i64_in _ (by omega)
      have y1 : ¬ (9223372036854775807 < T.length + (Lib.decDigits (k + 1)).length) := by omega
      have y2 : ¬ (9223372036854775807 < T.length + (Lib.decDigits (k + 1)).length + 1) := by omega
      have y2' : ¬ (9223372036854775806 < T.length + (Lib.decDigits (k + 1)).length) := by omega
      have y3 : ¬ (9223372036854775807 < T.length + (Lib.decDigits (k + 1)).length + 1 + (timeOf s).length) := by omega
      have y4 : ¬ (9223372036854775807 < T.length + (Lib.decDigits (k + 1)).length + 1 + (timeOf s).length + 5) := by omega
      have y4' : ¬ (9223372036854775802 < T.length + (Lib.decDigits (k + 1)).length + 1 + (timeOf s).length) := by omega
      have y5 : ¬ (9223372036854775807 < T.length + (Lib.decDigits (k + 1)).length + 1 + (timeOf s).length + 5 + (timeOf e).length) := by omega
      have y6 : ¬ (9223372036854775807 < T.length + (Lib.decDigits (k + 1)).length + 1 + (timeOf s).length + 5 + (timeOf e).length + 1) := by omega
      have y6' : ¬ (9223372036854775806 < T.length + (Lib.decDigits (k + 1)).length + 1 + (timeOf s).length + 5 + (timeOf e).length) := by omega
      have y7 : ¬ (9223372036854775807 < T.length + (Lib.decDigits (k + 1)).length + 1 + (timeOf s).length + 5 + (timeOf e).length + 1 + t.size) := by omega
      have y8 : ¬ (9223372036854775807 < T.length + (Lib.decDigits (k + 1)).length + 1 + (timeOf s).length + 5 + (timeOf e).length + 1 + t.size + 2) := by omega
      have y8' : ¬ (9223372036854775805 < T.length + (Lib.decDigits (k + 1)).length + 1 + (timeOf s).length + 5 + (timeOf e).length + 1 + t.size) := by omega
      have i2 : (k : Int) + 1 ≤ 30 := by omega
      clear q3 E hx hc hTT t1 t2 t3 hl0 v1 v2 v3
      go_wp2
      go_quiet ((first | (go_at_call 58; exact time_quiet (Q3.out _)) | (go_at_call 25; exact time_quiet (spec_l20Time _ _ (by assumption)))))
      clear w1 y1 y2 y2' y3 y4 y4' y5 y6 y6' y7 y8 y8'
      go_wp2
      go_roundw
      case rel => exact ⟨k + 1, by omega, by go_num, by
        rw [HE.out]
        refine congrArg Value.string ?_
        conv => lhs; rw [← mk_data t]
        simp only [bytes_add], below_drewN hb _⟩
      case measure => simp [intOf]; omega
    · obtain rfl : k = l.length := by omega
      go_wp2
      refine bodyPost_ret (v := .string (textB (l.take l.length))) (by simp [results, go_sem]) rfl ?_
      exact ⟨by rw [take_all], hb⟩

end Go.Proofs.YtjdnmknegpikcaaDoor
