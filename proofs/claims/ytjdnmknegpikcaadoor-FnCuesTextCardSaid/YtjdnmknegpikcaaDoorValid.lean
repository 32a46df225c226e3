/-
  Contracts of both IsValidCues, and of eqCueS.
-/
import Derived.Test.YtjdnmknegpikcaaDoorCap
import Derived.IntWalk
import Derived.StillTailTactics
namespace Go.Proofs.YtjdnmknegpikcaaDoor
open Go.RowKit
set_option linter.unusedVariables false

set_option maxHeartbeats 2000000 in
theorem spec_IsValidCues (A : Option Addr) (cap : Nat) (l : List CueD) (w : World) (hr : Reads w w.heap.size 3 A l.length (cuesV l)) (hn : l.length ≤ 1048576) (ht : ∀ c ∈ l, c.2.2.size ≤ maxLen) :
    Calls Tryd.prog 33 #[.slice A l.length cap] w fun e w' => e = .returned (.bool (validB l)) ∧ Below w.heap.size w w' := by
  by_cases h30 : l.length ≤ 30
  · go_enter Tryd.func33, Tryd.ntmps33
    go_wp2
    go_loopw [3] (fun i wr => ∃ k : Nat, k ≤ l.length ∧ i = .int .i64 k ∧ chainB 0 (l.take k) = true ∧ Below w.heap.size w wr) (fun i _ => l.length - (intOf i).toNat)
    case atStart => exact ⟨0, Nat.zero_le _, rfl, rfl, Below.refl _ _⟩
    case round =>
      obtain ⟨k, hk, rfl, hch, hb⟩ := hrel
      have HC := Lib.hid hch
      clear hch
      by_cases hlt : k < l.length
      · obtain ⟨b, off, rfl, hb0, hc⟩ := (hr.below hb).2 (by omega)
        obtain ⟨⟨s, e, t⟩, hx⟩ := some_at l hlt
        obtain ⟨c1, c2, c3⟩ := Reads.cue (B := 0) (n := 0) hc hx
        have htt : t.size ≤ maxLen := ht _ (List.mem_of_getElem? hx)
        have hb2 : Below w.heap.size w (wr.alloc (.cells #[.int .i64 s, .int .i64 e, .string t] 59)) := hb.alloc hb.size _
        have HX := Lib.hid hx
        have HCELL := Lib.hid hc
        clear hx hc
        have hsz := hb.size
        cases hcap : captionB t
        · have hno := chain_no HX.out (okAt_no (.inl hcap))
          have HN := Lib.hid hno
          clear hno
          go_wp2
          go_quiet ((first | (go_at_call 52; exact quiet_left (spec_l20Caption t _ htt)) | (go_at_call 34; exact quiet_left (spec_l1In _ _ _ _))))
          go_wp2
          go_ret
          exact ⟨ret_bool HN.out.symm, below_drewN hb2 _⟩
        cases hs : inB s 0 99999999
        · have h0 := lastOf_nonneg HC.out
          have hs' : ¬ (0 ≤ s ∧ s ≤ 99999999) := fun h => by rw [inB_iff.2 h] at hs; cases hs
          have HN := Lib.hid (chain_no HX.out (okAt_no (.inr (by simp only; omega))))
          clear hs' h0
          go_wp2
          go_quiet ((first | (go_at_call 52; exact quiet_left (spec_l20Caption t _ htt)) | (go_at_call 34; exact quiet_left (spec_l1In _ _ _ _))))
          go_wp2
          go_ret
          exact ⟨ret_bool HN.out.symm, below_drewN hb2 _⟩
        obtain ⟨hs1, hs2⟩ := inB_iff.1 hs
        have w1 : IntKind.i64.wrap (s + 1) = s + 1 := IntWalk.i64_in _ (by omega)
        cases he : inB e (s + 1) 99999999
        · have he' : ¬ (s + 1 ≤ e ∧ e ≤ 99999999) := fun h => by rw [inB_iff.2 h] at he; cases he
          have HN := Lib.hid (chain_no HX.out (okAt_no (.inr (by simp only; omega))))
          clear he'
          go_wp2
          go_quiet ((first | (go_at_call 52; exact quiet_left (spec_l20Caption t _ htt)) | (go_at_call 34; exact quiet_left (spec_l1In _ _ _ _))))
          go_wp2
          go_ret
          exact ⟨ret_bool HN.out.symm, below_drewN hb2 _⟩
        obtain ⟨he1, he2⟩ := inB_iff.1 he
        by_cases hk0 : k = 0
        · subst hk0
          simp only [Nat.zero_mul, Nat.add_zero] at c1 c2 c3
          have HN := Lib.hid (chain_take_yes HX.out HC.out (okAt_of (by simpa [lastOf] using hs1) (by simp only; omega) (by simp only; omega) he2 hcap)).1
          go_wp2
          go_quiet ((first | (go_at_call 52; exact quiet_left (spec_l20Caption t _ htt)) | (go_at_call 34; exact quiet_left (spec_l1In _ _ _ _))))
          go_wp2
          go_roundw
          case rel => exact ⟨1, by omega, by go_num, HN.out, below_drewN hb2 _⟩
          case measure => simp [intOf]; omega
        have k1 : (0 : Int) < (k : Int) := by omega
        obtain ⟨⟨s', e', t'⟩, hp⟩ := some_at l (show k - 1 < l.length by omega)
        obtain ⟨-, d2, -⟩ := Reads.cue (B := 0) (n := 0) HCELL.out hp
        have d3 : (wr.alloc (.cells #[.int .i64 s, .int .i64 e, .string t] 59)).cell? ⟨b, off + (k - 1) * 3 + 1, none⟩ = some (.int .i64 e') := (World.cell?_alloc_past _ _ _ (by omega)).trans d2
        have hlast : lastOf 0 (l.take k) = e' := by have := lastOf_take hp; rwa [show k - 1 + 1 = k by omega] at this
        have HL := Lib.hid hlast
        have HP := Lib.hid hp
        clear hlast hp
        have w2 : IntKind.i64.wrap ((k : Int) - 1) = (k : Int) - 1 := IntWalk.i64_in _ (by omega)
        have w3 : ((k : Int) - 1).toNat = k - 1 := by omega
        have k2 : (0 : Int) ≤ (k : Int) - 1 := by omega
        have k5 : (1 : Int) ≤ (k : Int) := by omega
        have k6 : 1 ≤ k := by omega
        have k7 : (k : Int) < (l.length : Int) + 1 := by omega
        have k8 : k - 1 < l.length := by omega
        have k3 : (k : Int) - 1 < (l.length : Int) := by omega
        have k4 : 0 < k := by omega
        clear hk0
        by_cases hle : e' ≤ s
        · have HN := Lib.hid (chain_take_yes HX.out HC.out (okAt_of (by rw [HL.out]; exact hle) (by simp only; omega) (by simp only; omega) he2 hcap)).1
          go_wp2
          go_quiet ((first | (go_at_call 52; exact quiet_left (spec_l20Caption t _ htt)) | (go_at_call 34; exact quiet_left (spec_l1In _ _ _ _))))
          clear w1 w2 w3
          go_wp2
          go_roundw
          case rel => exact ⟨k + 1, by omega, by go_num, HN.out, below_drewN hb2 _⟩
          case measure => simp [intOf]; omega
        · have HN := Lib.hid (chain_no HX.out (okAt_no (.inr (by rw [HL.out]; simp only; omega))))
          go_wp2
          go_quiet ((first | (go_at_call 52; exact quiet_left (spec_l20Caption t _ htt)) | (go_at_call 34; exact quiet_left (spec_l1In _ _ _ _))))
          clear w1 w2 w3
          go_wp2
          go_ret
          exact ⟨ret_bool HN.out.symm, below_drewN hb2 _⟩
      · obtain rfl : k = l.length := by omega
        go_wp2
        go_ret
        exact ⟨ret_bool (by have := HC.out; simp only [List.take_length] at this; simp [validB, this, h30]), hb⟩
  · go_enter Tryd.func33, Tryd.ntmps33
    go_wp2
    go_ret
    exact ⟨ret_bool (by simp [validB]; intro h; omega), Below.refl _ _⟩

/-- The ints of a cue fit their kind. -/
def Fits (l : List CueD) : Prop := ∀ c ∈ l, (-9223372036854775808 ≤ c.1 ∧ c.1 ≤ 9223372036854775807) ∧ (-9223372036854775808 ≤ c.2.1 ∧ c.2.1 ≤ 9223372036854775807)

set_option maxHeartbeats 2000000 in
theorem impl_IsValidCues (A : Option Addr) (cap : Nat) (l : List CueD) (w : World) (hr : Reads w w.heap.size 3 A l.length (cuesV l)) (hn : l.length ≤ 1048576) (ht : ∀ c ∈ l, c.2.2.size ≤ maxLen) (hf : Fits l) :
    Calls Tryd.prog 15 #[.slice A l.length cap] w fun e w' => e = .returned (.bool (validB l)) ∧ Below w.heap.size w w' := by
  go_enter Tryd.func15, Tryd.ntmps15
  go_wp2
  go_loopw [3, 8] (fun a i wr => ∃ k : Nat, k ≤ l.length ∧ i = .int .i64 k ∧ (∃ last : Int, a = .int .i64 last ∧ 0 ≤ last ∧ last ≤ 99999999 ∧ last = lastOf 0 (l.take k)) ∧ chainB 0 (l.take k) = true ∧ Below w.heap.size w wr) (fun _ i _ => l.length - (intOf i).toNat)
  case atStart => exact ⟨0, Nat.zero_le _, rfl, ⟨0, rfl, by omega, by omega, rfl⟩, rfl, Below.refl _ _⟩
  case round =>
    obtain ⟨k, hk, rfl, ⟨last, rfl, hl1, hl2, hl3⟩, hch, hb⟩ := hrel
    have HC := Lib.hid hch
    have HL := Lib.hid hl3
    clear hch hl3
    by_cases hlt : k < l.length
    · obtain ⟨b, off, rfl, hb0, hc⟩ := (hr.below hb).2 (by omega)
      obtain ⟨⟨s, e, t⟩, hx⟩ := some_at l hlt
      obtain ⟨c1, c2, c3⟩ := Reads.cue (B := 0) (n := 0) hc hx
      have htt : t.size ≤ maxLen := ht _ (List.mem_of_getElem? hx)
      have hft := hf _ (List.mem_of_getElem? hx)
      simp only at hft
      obtain ⟨⟨f1, f2⟩, ⟨f3, f4⟩⟩ := hft
      have hb2 : Below w.heap.size w (wr.alloc (.cells #[.int .i64 s, .int .i64 e, .string t] 59)) := hb.alloc hb.size _
      have HX := Lib.hid hx
      clear hx hc
      by_cases hmin : -9223372036854775807 ≤ e
      · cases hi : inB s last (e - 1)
        · have hi' : ¬ (last ≤ s ∧ s ≤ e - 1) := fun h => by rw [inB_iff.2 h] at hi; cases hi
          have HN := Lib.hid (chain_no HX.out (okAt_no (.inr (by rw [← HL.out]; simp only; omega))))
          clear hi'
          go_wp2_with (go_at_call 31; refine (impl_in _ _ _ _).mono ?_; rintro e w' ⟨rfl, rfl⟩)
          go_ret
          exact ⟨ret_bool HN.out.symm, hb2⟩
        obtain ⟨hi1, hi2⟩ := inB_iff.1 hi
        cases hm : inB e 0 99999999
        · have hm' : ¬ (0 ≤ e ∧ e ≤ 99999999) := fun h => by rw [inB_iff.2 h] at hm; cases hm
          have HN := Lib.hid (chain_no HX.out (okAt_no (.inr (by rw [← HL.out]; simp only; omega))))
          clear hm'
          go_wp2_with (first | (go_at_call 31; refine (impl_in _ _ _ _).mono ?_; rintro e w' ⟨rfl, rfl⟩) | (go_at_call 40; refine (impl_isMillis _ _).mono ?_; rintro e w' ⟨rfl, rfl⟩))
          go_ret
          exact ⟨ret_bool HN.out.symm, hb2⟩
        obtain ⟨hm1, hm2⟩ := inB_iff.1 hm
        cases hcap : captionB t
        · have HN := Lib.hid (chain_no HX.out (okAt_no (.inl hcap)))
          go_wp2_with (first | (go_at_call 31; refine (impl_in _ _ _ _).mono ?_; rintro e w' ⟨rfl, rfl⟩) | (go_at_call 40; refine (impl_isMillis _ _).mono ?_; rintro e w' ⟨rfl, rfl⟩) | (go_at_call 41; refine (impl_isCaption _ _ htt).mono ?_; rintro e w' ⟨rfl, rfl⟩))
          go_ret
          exact ⟨ret_bool HN.out.symm, hb2⟩
        · have HN := Lib.hid (chain_take_yes HX.out HC.out (okAt_of (by rw [← HL.out]; exact hi1) (by simp only; omega) hm1 hm2 hcap))
          go_wp2_with (first | (go_at_call 31; refine (impl_in _ _ _ _).mono ?_; rintro e w' ⟨rfl, rfl⟩) | (go_at_call 40; refine (impl_isMillis _ _).mono ?_; rintro e w' ⟨rfl, rfl⟩) | (go_at_call 41; refine (impl_isCaption _ _ htt).mono ?_; rintro e w' ⟨rfl, rfl⟩))
          go_roundw
          case rel => exact ⟨k + 1, by omega, by go_num, ⟨e, rfl, hm1, hm2, HN.out.2.symm⟩, HN.out.1, hb2⟩
          case measure => simp [intOf]; omega
      · have HN := Lib.hid (chain_no HX.out (okAt_no (.inr (by simp only; omega))))
        have hm : inB e 0 99999999 = false := inB_no (by omega)
        cases hi : inB s last (wrap64 (e - 1))
        · go_wp2_with (first | (go_at_call 31; refine (impl_in _ _ _ _).mono ?_; rintro e w' ⟨rfl, rfl⟩) | (go_at_call 40; refine (impl_isMillis _ _).mono ?_; rintro e w' ⟨rfl, rfl⟩))
          go_ret
          exact ⟨ret_bool HN.out.symm, hb2⟩
        · go_wp2_with (first | (go_at_call 31; refine (impl_in _ _ _ _).mono ?_; rintro e w' ⟨rfl, rfl⟩) | (go_at_call 40; refine (impl_isMillis _ _).mono ?_; rintro e w' ⟨rfl, rfl⟩))
          go_ret
          exact ⟨ret_bool HN.out.symm, hb2⟩
    · obtain rfl : k = l.length := by omega
      go_wp2
      go_ret
      exact ⟨ret_bool (by have := HC.out; simp only [List.take_length] at this; simp only [validB, this, Bool.and_true]; exact decide_eq_decide.2 (by omega)), hb⟩

end Go.Proofs.YtjdnmknegpikcaaDoor
