/-
  Contracts of both ActiveCue; the law FnExactActiveCue returns true: its walk.
-/
import Derived.Test.YticdjneihcimeaaCueArg
import Derived.Test.YticdjneihcimeaaEqCue
namespace Go.Proofs.Yticdjneihcimeaa
open Go.RowKit
set_option linter.unusedVariables false

def actB (at_ : Int) (c : CueD) : Bool := decide (c.1 ≤ at_) && decide (at_ < c.2.1)
/-- The place of the cue that is shown, and whether there is one. -/
def activeL (l : List CueD) (at_ : Int) : Option Nat := if validB l then l.findIdx? (actB at_) else none
def placeOf (o : Option Nat) : Int := ((o.getD 0 : Nat) : Int)
theorem active_yes {l : List CueD} {at_ : Int} {k : Nat} {c : CueD} (hv : validB l = true) (hk : l[k]? = some c) (hc : actB at_ c = true) (hall : ∀ j, j < k → ∀ d, l[j]? = some d → actB at_ d = false) : activeL l at_ = some k := by
  rw [activeL, if_pos hv, List.findIdx?_eq_some_iff_getElem]
  have hlt : k < l.length := (List.getElem?_eq_some_iff.1 hk).1
  refine ⟨hlt, by rw [(List.getElem?_eq_some_iff.1 hk).2]; exact hc, fun j hj => ?_⟩
  rw [hall j hj _ (List.getElem?_eq_getElem (by omega))]
  simp
theorem active_none {l : List CueD} {at_ : Int} (hall : ∀ j, j < l.length → ∀ d, l[j]? = some d → actB at_ d = false) : activeL l at_ = none := by
  unfold activeL
  split
  · rw [List.findIdx?_eq_none_iff]
    intro c hc
    obtain ⟨j, hj⟩ := List.mem_iff_getElem?.1 hc
    rw [hall j (List.getElem?_eq_some_iff.1 hj).1 c hj]
  · rfl
theorem active_invalid {l : List CueD} {at_ : Int} (hv : validB l = false) : activeL l at_ = none := by rw [activeL, hv]; rfl

/-- The results of ActiveCue. -/
def Acted (l : List CueD) (at_ : Int) (w : World) (e : Ending) (w' : World) : Prop := e = .returned (.tuple #[.int .i64 (placeOf (activeL l at_)), .bool (activeL l at_).isSome]) ∧ Below w.heap.size w w'
theorem acted_no {l : List CueD} {at_ : Int} {w w' : World} (h : activeL l at_ = none) (hb : Below w.heap.size w w') : Acted l at_ w (.returned (.tuple #[.int .i64 0, .bool false])) w' := ⟨by rw [h]; rfl, hb⟩
theorem acted_yes {l : List CueD} {at_ : Int} {w w' : World} {k : Nat} (h : activeL l at_ = some k) (hb : Below w.heap.size w w') : Acted l at_ w (.returned (.tuple #[.int .i64 (k : Int), .bool true])) w' := ⟨by rw [h]; rfl, hb⟩

set_option maxHeartbeats 2000000 in
theorem spec_ActiveCue (A : Option Addr) (cap : Nat) (l : List CueD) (at_ : Int) (w : World) (hr : Reads w w.heap.size 3 A l.length (cuesV l)) (hn : l.length ≤ 1048576) (ht : ∀ c ∈ l, c.2.2.size ≤ maxLen) :
    Calls Try.prog 18 #[.slice A l.length cap, .int .i64 at_] w (Acted l at_ w) := by
  cases hv : validB l
  · go_enter Try.func18, Try.ntmps18
    go_wp2_with fail
    refine (spec_IsValidCues A cap l _ hr hn ht).mono ?_
    rintro e w1 ⟨rfl, hb⟩
    go_wp2
    go_ret2
    exact acted_no (active_invalid hv) hb
  go_enter Try.func18, Try.ntmps18
  go_wp2_with fail
  refine (spec_IsValidCues A cap l _ hr hn ht).mono ?_
  rintro e w1 ⟨rfl, hb⟩
  go_wp2
  have HV := Lib.hid hv
  clear hv
  go_loop [6] (fun i => ∃ k : Nat, k ≤ l.length ∧ i = .int .i64 k ∧ ∀ j, j < k → ∀ d, l[j]? = some d → actB at_ d = false) (fun i => l.length - (intOf i).toNat)
  case atStart => exact ⟨0, Nat.zero_le _, rfl, fun j hj => absurd hj (Nat.not_lt_zero _)⟩
  case round =>
    obtain ⟨k, hk, rfl, hall⟩ := hrel
    have HA := Lib.hid hall
    clear hall
    by_cases hlt : k < l.length
    · obtain ⟨b, off, rfl, hb0, hc⟩ := (hr.below hb).2 (by omega)
      obtain ⟨⟨s, e, t⟩, hx⟩ := some_at l hlt
      obtain ⟨c1, c2, c3⟩ := Reads.cue (B := 0) (n := 0) hc hx
      have HX := Lib.hid hx
      clear hx hc
      have step : actB at_ (s, e, t) = false → ∀ j, j < k + 1 → ∀ d, l[j]? = some d → actB at_ d = false := fun hno j hj d hd => by
        rcases Nat.lt_or_ge j k with h | h
        · exact HA.out j h d hd
        · obtain rfl : j = k := by omega
          rw [HX.out] at hd
          exact Option.some.inj hd ▸ hno
      have ST := Lib.hid step
      clear step
      by_cases h1 : s ≤ at_
      · by_cases h2 : at_ < e
        · have HY := Lib.hid (active_yes HV.out HX.out (by simp [actB, h1, h2]) HA.out)
          go_wp2
          go_ret2
          exact acted_yes HY.out hb
        · have HN := Lib.hid (show actB at_ (s, e, t) = false by simp [actB]; omega)
          go_wp2
          go_round
          case rel => exact ⟨k + 1, by omega, by go_num, ST.out HN.out⟩
          case measure => simp [intOf]; omega
      · have HN := Lib.hid (show actB at_ (s, e, t) = false by simp [actB]; omega)
        go_wp2
        go_round
        case rel => exact ⟨k + 1, by omega, by go_num, ST.out HN.out⟩
        case measure => simp [intOf]; omega
    · obtain rfl : k = l.length := by omega
      go_wp2
      go_ret2
      exact acted_no (active_none HA.out) hb

theorem valid_bounds {l : List CueD} (hv : validB l = true) {k : Nat} {c : CueD} (h : l[k]? = some c) : 0 ≤ c.1 ∧ c.1 < c.2.1 ∧ c.2.1 ≤ 99999999 ∧ captionB c.2.2 = true := by
  cases ho : okAt (lastOf 0 (l.take k)) c
  · rw [chain_no h ho] at hv; cases hv
  · have h1 := okAt_yes ho
    have hch : chainB 0 (l.take k) = true := by
      have h2 : chainB 0 l = true := by simp only [validB, Bool.and_eq_true] at hv; exact hv.2
      rw [← List.take_append_drop k l, chain_append, Bool.and_eq_true] at h2
      exact h2.1
    have h3 := lastOf_nonneg hch
    exact ⟨by omega, h1.2.1, h1.2.2.2.1, h1.2.2.2.2⟩

set_option maxHeartbeats 2000000 in
theorem impl_ActiveCue (A : Option Addr) (cap : Nat) (l : List CueD) (at_ : Int) (w : World) (hr : Reads w w.heap.size 3 A l.length (cuesV l)) (hn : l.length ≤ 1048576) (ht : ∀ c ∈ l, c.2.2.size ≤ maxLen) (hf : Fits l) :
    Calls Try.prog 19 #[.slice A l.length cap, .int .i64 at_] w (Acted l at_ w) := by
  go_enter Try.func19, Try.ntmps19
  go_wp2
  go_loopw [10] (fun i wr => ∃ k : Nat, k ≤ l.length ∧ i = .int .i64 k ∧ (validB l = true → ∀ j, j < k → ∀ d, l[j]? = some d → actB at_ d = false) ∧ Below w.heap.size w wr) (fun i _ => l.length - (intOf i).toNat)
  case atStart => exact ⟨0, Nat.zero_le _, rfl, fun _ j hj => absurd hj (Nat.not_lt_zero _), Below.refl _ _⟩
  case round =>
    obtain ⟨k, hk, rfl, hall, hb⟩ := hrel
    have HA := Lib.hid hall
    clear hall
    by_cases hlt : k < l.length
    · have hrb := hr.below hb
      obtain ⟨b, off, rfl, hb0, hc⟩ := hrb.2 (by omega)
      obtain ⟨⟨s, e, t⟩, hx⟩ := some_at l hlt
      obtain ⟨c1, c2, c3⟩ := Reads.cue (B := 0) (n := 0) hc hx
      have HX := Lib.hid hx
      clear hx hc
      have hsz := hb.size
      have hb2 : Below w.heap.size w (wr.alloc (.cells #[.int .i64 s, .int .i64 e, .string t] 39)) := hb.alloc hb.size _
      have hra : Reads (wr.alloc (.cells #[.int .i64 s, .int .i64 e, .string t] 39)) (wr.alloc (.cells #[.int .i64 s, .int .i64 e, .string t] 39)).heap.size 3 (some ⟨b, off, none⟩) l.length (cuesV l) := (hrb.alloc hsz _).more (by simp; omega)
      go_wp2_with fail
      refine (impl_IsValidCues _ cap l _ hra hn ht hf).mono ?_
      rintro e1 w1 ⟨rfl, hb1⟩
      have e0 : w1.cell? ⟨wr.heap.size, 0, none⟩ = some (.int .i64 s) := (hb1.cell (by simp)).trans (by simp [World.cell?_alloc_at])
      have e2 : w1.cell? ⟨wr.heap.size, 1, none⟩ = some (.int .i64 e) := (hb1.cell (by simp)).trans (by simp [World.cell?_alloc_at])
      have hb3 : Below w.heap.size w w1 := hb2.trans (hb1.mono hb2.size)
      cases hv : validB l
      · go_wp2
        go_roundw
        case rel => exact ⟨k + 1, by omega, by go_num, (fun h => by rw [hv] at h; cases h), hb3⟩
        case measure => simp [intOf]; omega
      obtain ⟨v1, v2, v3, -⟩ := valid_bounds hv HX.out
      simp only at v1 v2 v3
      cases hin : inB at_ s (e - 1)
      · have hno : actB at_ (s, e, t) = false := by
          have : ¬ (s ≤ at_ ∧ at_ ≤ e - 1) := fun h => by rw [inB_iff.2 h] at hin; cases hin
          simp [actB]; omega
        have HN := Lib.hid hno
        have HV := Lib.hid hv
        clear hno
        go_wp2_with (go_at_call 46; refine (impl_in _ _ _ _).mono ?_; rintro e w' ⟨rfl, rfl⟩)
        go_roundw
        case rel => exact ⟨k + 1, by omega, by go_num, fun _ j hj d hd => by
          rcases Nat.lt_or_ge j k with h | h
          · exact HA.out HV.out j h d hd
          · obtain rfl : j = k := by omega
            rw [HX.out] at hd
            exact Option.some.inj hd ▸ HN.out, hb3⟩
        case measure => simp [intOf]; omega
      · obtain ⟨i1, i2⟩ := inB_iff.1 hin
        have HY := Lib.hid (active_yes hv HX.out (by simp [actB]; omega) (HA.out hv))
        go_wp2_with (go_at_call 46; refine (impl_in _ _ _ _).mono ?_; rintro e w' ⟨rfl, rfl⟩)
        go_ret2
        exact acted_yes HY.out hb3
    · obtain rfl : k = l.length := by omega
      go_wp2
      go_ret2
      refine acted_no ?_ hb
      cases hv : validB l
      · exact active_invalid hv
      · exact active_none (HA.out hv)

set_option maxHeartbeats 2000000 in
theorem law_ActiveCue (v0 : Value) (l : List CueD) (at_ : Int) (W : World) (w0 : CuesArg W v0 l) (w1 : (Lit.int .i64 at_).wf = true) :
    Calls Try.prog 4 #[v0, .int .i64 at_] W fun e W' => e = .returned (.bool true) ∧ Below W.heap.size W W' := by
  obtain ⟨A, cap, rfl, hr, hlc, hcm, htx, hft⟩ := w0
  have hlm : l.length ≤ maxLen := Nat.le_trans hlc hcm
  have HF := Lib.hid hft
  have HT := Lib.hid htx
  clear hft htx w1
  go_enter Try.func4, Try.ntmps4
  go_wp2_with fail
  refine (szCueS_calls A cap l 1048576 _ hr hlm HT.out (by omega) (by omega)).mono ?_
  rintro e w1 ⟨r, rfl, hrr, b1⟩
  rcases hrr with hneg | ⟨hpos, hsm⟩
  · go_wp2
    go_ret
    exact ⟨rfl, b1⟩
  have hn : l.length ≤ 1048576 := by unfold Small at hsm; omega
  have s1 := b1.size
  clear hsm
  go_wp2_with fail
  refine (toCueS_calls A cap l _ ((hr.below b1).more s1) hn).mono ?_
  rintro e w2 ⟨v2, rfl, o2, b2⟩
  obtain ⟨A2, c2, rfl, r2, -, -⟩ := o2.slice
  have s2 := b2.size
  go_wp2_with fail
  refine (spec_ActiveCue A2 c2 l at_ _ r2 hn HT.out).mono ?_
  rintro e w3 ⟨rfl, b3⟩
  have s3 := b3.size
  have B3 : Below W.heap.size W w3 := (b1.trans (b2.mono s1)).trans (b3.mono (by omega))
  go_wp2_with fail
  refine (toCueS_calls A cap l _ ((hr.below B3).more (by omega)) hn).mono ?_
  rintro e w4 ⟨v4, rfl, ox, b4⟩
  obtain ⟨Ax, cx, rfl, rx, -, -⟩ := ox.slice
  have s4 := b4.size
  go_wp2_with fail
  refine (impl_ActiveCue Ax cx l at_ _ rx hn HT.out HF.out).mono ?_
  rintro e w5 ⟨rfl, b5⟩
  have s5 := b5.size
  have ox5 := ox.below b5
  have B5 : Below W.heap.size W w5 := (B3.trans (b4.mono (by omega))).trans (b5.mono (by omega))
  go_wp2_with fail
  refine (toCueS_calls A cap l _ ((hr.below B5).more (by omega)) hn).mono ?_
  rintro e w6 ⟨v6, rfl, oc, b6⟩
  obtain ⟨Ac, cc, rfl, rc, -, -⟩ := oc.slice
  have s6 := b6.size
  have ox6 := ox5.below b6
  go_wp2_with fail
  refine (eqCueS_calls Ax Ac cx cc _ _ _ (Reads.of_own ox6.1) (Reads.of_own oc.1) hn).mono ?_
  rintro e w7 ⟨rfl, b7⟩
  go_wp2
  go_ret
  exact ⟨rfl, (B5.trans (b6.mono (by omega))).trans (b7.mono (by omega))⟩
end Go.Proofs.Yticdjneihcimeaa
