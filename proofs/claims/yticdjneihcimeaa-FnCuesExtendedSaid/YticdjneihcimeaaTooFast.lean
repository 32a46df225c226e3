/-
  Contracts of both TooFast.
-/
import Derived.Test.YticdjneihcimeaaReading
import Derived.Test.YticdjneihcimeaaValid
import Derived.Test.YticdjneihcimeaaActive
namespace Go.Proofs.Yticdjneihcimeaa
open Go.RowKit
set_option linter.unusedVariables false

def fastB (c : CueD) : Bool := decide (c.2.1 - c.1 < readT c.2.2)
def fastTo (l : List CueD) (k : Nat) : List Int := ((List.range k).filter fun j => (l[j]?.map fastB).getD false).map fun (j : Nat) => (j : Int)
theorem fastTo_yes {l : List CueD} {k : Nat} {c : CueD} (h : l[k]? = some c) (hf : fastB c = true) : fastTo l (k + 1) = fastTo l k ++ [(k : Int)] := by simp [fastTo, List.range_succ, List.filter_append, h, hf]
theorem fastTo_no {l : List CueD} {k : Nat} {c : CueD} (h : l[k]? = some c) (hf : fastB c = false) : fastTo l (k + 1) = fastTo l k := by simp [fastTo, List.range_succ, List.filter_append, h, hf]
theorem fastTo_le (l : List CueD) (k : Nat) : (fastTo l k).length ≤ k := by
  have h := List.length_filter_le (fun j => (l[j]?.map fastB).getD false) (List.range k)
  simpa [fastTo] using h
def fastL (l : List CueD) : List Int := if validB l then fastTo l l.length else []
theorem fastL_le (l : List CueD) : (fastL l).length ≤ l.length := by unfold fastL; split; exact fastTo_le _ _; simp
/-- The results of TooFast. -/
def Fasted (l : List CueD) (w : World) (e : Ending) (w' : World) : Prop :=
  ∃ v, e = .returned (.tuple #[v, .bool (validB l)]) ∧ Own w' w.heap.size w'.heap.size 3 1 v (fastL l).length (ints (fastL l)) ∧ Below w.heap.size w w'
theorem fasted_no {l : List CueD} {w w' : World} (h : validB l = false) (hb : Below w.heap.size w w') : Fasted l w (.returned (.tuple #[.slice none 0 0, .bool false])) w' := ⟨_, by rw [h], by simp [fastL, h]; exact Own.none_, hb⟩
theorem fasted_yes {l : List CueD} {w w' : World} {v : Value} (h : validB l = true) (ho : w'.ownsRow w.heap.size 3 1 v (fastTo l l.length).length (ints (fastTo l l.length))) (hb : Below w.heap.size w w') : Fasted l w (.returned (.tuple #[v, .bool true])) w' :=
  ⟨_, by rw [h], by rw [fastL, if_pos h]; exact Own.of_row ho, hb⟩

set_option maxHeartbeats 2000000 in
theorem spec_TooFast (A : Option Addr) (cap : Nat) (l : List CueD) (w : World) (hr : Reads w w.heap.size 3 A l.length (cuesV l)) (hn : l.length ≤ 1048576) (ht : ∀ c ∈ l, c.2.2.size ≤ maxLen) :
    Calls Try.prog 38 #[.slice A l.length cap] w (Fasted l w) := by
  cases hv : validB l
  · go_enter Try.func38, Try.ntmps38
    go_wp2_with fail
    refine (spec_IsValidCues A cap l _ hr hn ht).mono ?_
    rintro e w1 ⟨rfl, hb⟩
    go_wp2
    go_ret2
    exact fasted_no hv hb
  go_enter Try.func38, Try.ntmps38
  go_wp2_with fail
  refine (spec_IsValidCues A cap l _ hr hn ht).mono ?_
  rintro e w1 ⟨rfl, hb1⟩
  go_wp2
  have HV := Lib.hid hv
  clear hv
  go_loopw [4, 5] (fun v i wr => ∃ k : Nat, k ≤ l.length ∧ i = .int .i64 k ∧ wr.ownsRow w.heap.size 3 1 v (fastTo l k).length (ints (fastTo l k)) ∧ Below w.heap.size w wr) (fun _ i _ => l.length - (intOf i).toNat)
  case atStart => exact ⟨0, Nat.zero_le _, rfl, World.ownsRow_made _ _ _ hb1.size (by simp) rfl, hb1.alloc hb1.size _⟩
  case round =>
    obtain ⟨k, hk, rfl, hown, hb⟩ := hrel
    have hle := fastTo_le l k
    have hsz := hb.size
    by_cases hlt : k < l.length
    · obtain ⟨b, off, rfl, hb0, hc⟩ := (hr.below hb).2 (by omega)
      obtain ⟨⟨s, e, t⟩, hx⟩ := some_at l hlt
      obtain ⟨c1, c2, c3⟩ := Reads.cue (B := 0) (n := 0) hc hx
      obtain ⟨v1, v2, v3, -⟩ := valid_bounds HV.out hx
      simp only at v1 v2 v3
      have htt : t.size ≤ maxLen := ht _ (List.mem_of_getElem? hx)
      have HX := Lib.hid hx
      clear hx hc
      have x1 : IntKind.i64.wrap (e - s) = e - s := IntWalk.i64_in _ (by omega)
      have i1 : (k : Int) < (l.length : Int) := by omega
      have i0 : (0 : Int) ≤ (k : Int) := by omega
      have hb2 : Below w.heap.size w wr := hb
      have hown2 : wr.ownsRow w.heap.size 3 1 u4 (fastTo l k).length (ints (fastTo l k)) := hown
      have hsz2 := hb2.size
      by_cases hfa : e - s < readT t
      · have HF := Lib.hid (fastTo_yes HX.out (show fastB (s, e, t) = true by simp [fastB, hfa]))
        go_wp2
        go_quiet ((go_at_call 60; exact quiet_left (spec_ReadingTime _ _ htt)))
        clear x1
        have hown3 := drewN_own hown2 nq
        go_wp2_with (at_builtin; refine wpList_append_one hown3 (by exact hsz2) (.tmp 34) (.tmp 36) 44 Try.underlying44 info_int (by omega) (by unfold maxLen; omega) ⟨rfl, rfl, rfl, rfl, rfl, rfl⟩ (by simp) ?_; intro v1 w1 hown1 hb1 _)
        go_roundw
        case rel => exact ⟨k + 1, by omega, by go_num, by rw [HF.out, ints_snoc]; simpa using hown1, (below_drewN hb2 _).trans hb1⟩
        case measure => simp [intOf]; omega
      · have HF := Lib.hid (fastTo_no HX.out (show fastB (s, e, t) = false by simp [fastB]; omega))
        go_wp2
        go_quiet ((go_at_call 60; exact quiet_left (spec_ReadingTime _ _ htt)))
        clear x1
        go_wp2
        go_roundw
        case rel => exact ⟨k + 1, by omega, by go_num, by rw [HF.out]; exact drewN_own hown2 nq, below_drewN hb2 _⟩
        case measure => simp [intOf]; omega
    · obtain rfl : k = l.length := by omega
      go_wp2
      go_ret2
      exact fasted_yes HV.out hown hb

set_option maxHeartbeats 2000000 in
theorem impl_TooFast (A : Option Addr) (cap : Nat) (l : List CueD) (w : World) (hr : Reads w w.heap.size 3 A l.length (cuesV l)) (hn : l.length ≤ 1048576) (ht : ∀ c ∈ l, c.2.2.size ≤ maxLen) (hf : Fits l) :
    Calls Try.prog 36 #[.slice A l.length cap] w (Fasted l w) := by
  cases hv : validB l
  · go_enter Try.func36, Try.ntmps36
    go_wp2_with fail
    refine (impl_IsValidCues A cap l _ hr hn ht hf).mono ?_
    rintro e w1 ⟨rfl, hb⟩
    go_wp2
    go_ret2
    exact fasted_no hv hb
  go_enter Try.func36, Try.ntmps36
  go_wp2_with fail
  refine (impl_IsValidCues A cap l _ hr hn ht hf).mono ?_
  rintro e w1 ⟨rfl, hb1⟩
  go_wp2
  have HV := Lib.hid hv
  clear hv
  go_loopw [4, 13] (fun v i wr => ∃ k : Nat, k ≤ l.length ∧ i = .int .i64 k ∧ wr.ownsRow w.heap.size 3 1 v (fastTo l k).length (ints (fastTo l k)) ∧ Below w.heap.size w wr) (fun _ i _ => l.length - (intOf i).toNat)
  case atStart => exact ⟨0, Nat.zero_le _, rfl, World.ownsRow_made _ _ _ hb1.size (by simp) rfl, hb1.alloc hb1.size _⟩
  case round =>
    obtain ⟨k, hk, rfl, hown, hb⟩ := hrel
    have hle := fastTo_le l k
    have hsz := hb.size
    by_cases hlt : k < l.length
    · obtain ⟨b, off, rfl, hb0, hc⟩ := (hr.below hb).2 (by omega)
      obtain ⟨⟨s, e, t⟩, hx⟩ := some_at l hlt
      obtain ⟨c1, c2, c3⟩ := Reads.cue (B := 0) (n := 0) hc hx
      obtain ⟨v1, v2, v3, -⟩ := valid_bounds HV.out hx
      simp only at v1 v2 v3
      have htt : t.size ≤ maxLen := ht _ (List.mem_of_getElem? hx)
      have HX := Lib.hid hx
      clear hx hc
      have x1 : IntKind.i64.wrap (e - s) = e - s := IntWalk.i64_in _ (by omega)
      have i1 : (k : Int) < (l.length : Int) := by omega
      have i0 : (0 : Int) ≤ (k : Int) := by omega
      have hb2 : Below w.heap.size w (wr.alloc (.cells #[.int .i64 s, .int .i64 e, .string t] 39)) := hb.alloc hsz _
      have hown2 : (wr.alloc (.cells #[.int .i64 s, .int .i64 e, .string t] 39)).ownsRow w.heap.size 3 1 u4 (fastTo l k).length (ints (fastTo l k)) := (hown.alloc _)
      have hsz2 := hb2.size
      by_cases hfa : e - s < readT t
      · have HF := Lib.hid (fastTo_yes HX.out (show fastB (s, e, t) = true by simp [fastB, hfa]))
        go_wp2
        go_quiet ((go_at_call 37; exact quiet_left (impl_ReadingTime _ _ htt)))
        clear x1
        have hown3 := drewN_own hown2 nq
        go_wp2_with (at_builtin; refine wpList_append_one hown3 (by exact hsz2) (.tmp 27) (.tmp 29) 44 Try.underlying44 info_int (by omega) (by unfold maxLen; omega) ⟨rfl, rfl, rfl, rfl, rfl, rfl⟩ (by simp) ?_; intro v1 w1 hown1 hb1 _)
        go_roundw
        case rel => exact ⟨k + 1, by omega, by go_num, by rw [HF.out, ints_snoc]; simpa using hown1, (below_drewN hb2 _).trans hb1⟩
        case measure => simp [intOf]; omega
      · have HF := Lib.hid (fastTo_no HX.out (show fastB (s, e, t) = false by simp [fastB]; omega))
        go_wp2
        go_quiet ((go_at_call 37; exact quiet_left (impl_ReadingTime _ _ htt)))
        clear x1
        go_wp2
        go_roundw
        case rel => exact ⟨k + 1, by omega, by go_num, by rw [HF.out]; exact drewN_own hown2 nq, below_drewN hb2 _⟩
        case measure => simp [intOf]; omega
    · obtain rfl : k = l.length := by omega
      go_wp2
      go_ret2
      exact fasted_yes HV.out hown hb
end Go.Proofs.Yticdjneihcimeaa
