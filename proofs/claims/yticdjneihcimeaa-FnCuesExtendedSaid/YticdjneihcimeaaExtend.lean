/-
  Contracts of both ExtendCues.
-/
import Derived.Test.YticdjneihcimeaaSpecTimed
import Derived.Test.YticdjneihcimeaaReading
namespace Go.Proofs.Yticdjneihcimeaa
open Go.RowKit
set_option linter.unusedVariables false

def limitOf (l : List CueD) (gap : Int) (k : Nat) : Int := match l[k + 1]? with | some d => d.1 - gap | none => 99999999
def extOne (l : List CueD) (gap : Int) (k : Nat) (c : CueD) : CueD := (c.1, mostI c.2.1 (leastI (c.1 + readT c.2.2) (limitOf l gap k)), c.2.2)
def extAll (l : List CueD) (gap : Int) : List CueD := l.mapIdx (extOne l gap)
theorem extAll_length (l : List CueD) (gap : Int) : (extAll l gap).length = l.length := by simp [extAll]
theorem extAll_at {l : List CueD} {gap : Int} {k : Nat} {c : CueD} (h : l[k]? = some c) : (extAll l gap)[k]? = some (extOne l gap k c) := by simp [extAll, h]
def partE (l : List CueD) (gap : Int) (k : Nat) : List CueD := (extAll l gap).take k ++ l.drop k
theorem partE_zero (l : List CueD) (gap : Int) : partE l gap 0 = l := by simp [partE]
theorem partE_all (l : List CueD) (gap : Int) : partE l gap l.length = extAll l gap := by
  have := extAll_length l gap
  simp [partE, List.take_of_length_le, this]
theorem partE_length (l : List CueD) (gap : Int) (k : Nat) : (partE l gap k).length = l.length := by
  have := extAll_length l gap
  simp [partE, this]
  omega
theorem partE_at {l : List CueD} {gap : Int} {k : Nat} {c : CueD} (h : l[k]? = some c) : (partE l gap k)[k]? = some c := by
  have hk : k < l.length := (List.getElem?_eq_some_iff.1 h).1
  have := extAll_length l gap
  unfold partE
  rw [List.getElem?_append_right (by simp; omega)]
  simp only [List.length_take, this]
  rw [show k - min k l.length = 0 by omega, List.getElem?_drop]
  exact h
theorem partE_set {l : List CueD} {gap : Int} {k : Nat} {c : CueD} (h : l[k]? = some c) : (partE l gap k).set k (extOne l gap k c) = partE l gap (k + 1) := by
  have hk : k < l.length := (List.getElem?_eq_some_iff.1 h).1
  have hl := extAll_length l gap
  unfold partE
  rw [take_succ_of (extAll_at h), List.set_append_right _ _ (by simp; omega)]
  simp only [List.length_take, hl]
  rw [show k - min k l.length = 0 by omega, ← List.getElem_cons_drop (h := hk), List.set_cons_zero]
  simp

def extendL (l : List CueD) (gap : Int) : Option (List CueD) := if validB l && inB gap 0 99999999 then some (extAll l gap) else none
theorem extend_bad1 {l : List CueD} {gap : Int} (h : validB l = false) : extendL l gap = none := by simp [extendL, h]
theorem extend_bad2 {l : List CueD} {gap : Int} (h : inB gap 0 99999999 = false) : extendL l gap = none := by simp [extendL, h]
theorem extend_good {l : List CueD} {gap : Int} (h1 : validB l = true) (h2 : inB gap 0 99999999 = true) : extendL l gap = some (extAll l gap) := by simp [extendL, h1, h2]
theorem extend_le (l : List CueD) (gap : Int) : ((extendL l gap).getD []).length ≤ l.length := by unfold extendL; split <;> simp [extAll_length]
theorem limit_next {l : List CueD} {gap : Int} {k : Nat} {d : CueD} (h : l[k + 1]? = some d) : limitOf l gap k = d.1 - gap := by simp [limitOf, h]
theorem limit_last {l : List CueD} {gap : Int} {k : Nat} (h : l.length ≤ k + 1) : limitOf l gap k = 99999999 := by simp [limitOf, List.getElem?_eq_none h]

theorem set_end {l : List CueD} {k : Nat} {c : CueD} (h : l[k]? = some c) (x : Int) : (cuesV l).set (k * 3 + 1) (.int .i64 x) = cuesV (l.set k (c.1, x, c.2.2)) := by
  have hk : k < l.length := (List.getElem?_eq_some_iff.1 h).1
  rw [← cuesV_set hk]
  obtain ⟨h1, h2, h3⟩ := cuesV_at h
  simp only
  have e1 : (cuesV l).set (k * 3) (.int .i64 c.1) = cuesV l := by
    apply List.ext_getElem?
    intro j
    by_cases hj : k * 3 = j
    · subst hj
      rw [List.getElem?_set_self (List.getElem?_eq_some_iff.1 h1).1, h1]
    · rw [List.getElem?_set_ne hj]
  rw [e1]
  apply List.ext_getElem?
  intro j
  by_cases hj : k * 3 + 2 = j
  · subst hj
    rw [List.getElem?_set_self (by rw [List.length_set]; exact (List.getElem?_eq_some_iff.1 h3).1), List.getElem?_set_ne (by omega), h3]
  · rw [List.getElem?_set_ne hj]

set_option maxHeartbeats 4000000 in
theorem impl_ExtendCues (A : Option Addr) (cap : Nat) (l : List CueD) (gap : Int) (w : World) (hr : Reads w w.heap.size 3 A l.length (cuesV l)) (hn : l.length ≤ 1048576) (ht : ∀ c ∈ l, c.2.2.size ≤ maxLen) (hf : Fits l) :
    Calls Try.prog 34 #[.slice A l.length cap, .int .i64 gap] w (Tracked (extendL l gap) w) := by
  cases hv : validB l
  · go_enter Try.func34, Try.ntmps34
    go_wp2_with fail
    refine (impl_IsValidCues A cap l _ hr hn ht hf).mono ?_
    rintro e w1 ⟨rfl, hb⟩
    go_wp2
    go_ret2
    exact tracked_no (extend_bad1 hv) hb
  cases hok : inB gap 0 99999999
  · go_enter Try.func34, Try.ntmps34
    go_wp2_with fail
    refine (impl_IsValidCues A cap l _ hr hn ht hf).mono ?_
    rintro e w1 ⟨rfl, hb⟩
    go_wp2_with (go_at_call 47; refine (impl_isMillis _ _).mono ?_; rintro e w' ⟨rfl, rfl⟩)
    go_ret2
    exact tracked_no (extend_bad2 hok) hb
  obtain ⟨ho1, ho2⟩ := inB_iff.1 hok
  go_enter Try.func34, Try.ntmps34
  go_wp2_with fail
  refine (impl_IsValidCues A cap l _ hr hn ht hf).mono ?_
  rintro e w1 ⟨rfl, hb1⟩
  have hsz1 := hb1.size
  go_wp2_with (go_at_call 47; refine (impl_isMillis _ _).mono ?_; rintro e w' ⟨rfl, rfl⟩)
  refine (copyOf_calls A cap l _ ((hr.below hb1).more hsz1) hn).mono ?_
  rintro e w2 ⟨v2, rfl, hown2, hb2⟩
  obtain ⟨Ao, co, rfl, -, -, -⟩ := hown2.slice
  have HV := Lib.hid hv
  have HOK := Lib.hid hok
  clear hv hok
  have hB2 : Below w.heap.size w w2 := hb1.trans (hb2.mono hsz1)
  go_wp2
  go_loopw [22] (fun i wr => ∃ k : Nat, k ≤ l.length ∧ i = .int .i64 k ∧ wr.ownsRow w.heap.size 39 3 (.slice Ao l.length co) l.length (cuesV (partE l gap k)) ∧ Below w.heap.size w wr) (fun i _ => l.length - (intOf i).toNat)
  case atStart => exact ⟨0, Nat.zero_le _, rfl, by rw [partE_zero]; exact hown2.1.base hsz1, hB2⟩
  case round =>
    obtain ⟨k, hk, rfl, hownk, hb⟩ := hrel
    have hsz := hb.size
    by_cases hlt : k < l.length
    · have hrb := hr.below hb
      obtain ⟨b, off, rfl, hb0, hc⟩ := hrb.2 (by omega)
      obtain ⟨⟨s, e, t⟩, hx⟩ := some_at l hlt
      obtain ⟨c1, c2, c3⟩ := Reads.cue (B := 0) (n := 0) hc hx
      obtain ⟨v1, v2, v3, -⟩ := valid_bounds HV.out hx
      simp only at v1 v2 v3
      have htt : t.size ≤ maxLen := ht _ (List.mem_of_getElem? hx)
      obtain ⟨r1, r2⟩ := readT_bd t
      have HX := Lib.hid hx
      have hpe := partE_at (gap := gap) hx
      have hO := Own.of_row hownk
      obtain ⟨go, co', hvo, hg1, hg2, hg3, -, -, -, hfz⟩ := hO.open_ (by omega)
      simp only [Value.slice.injEq, true_and] at hvo
      obtain ⟨rfl, rfl⟩ := hvo
      obtain ⟨-, q2, -⟩ := hO.cue hpe
      have hb2 : Below w.heap.size w (wr.alloc (.cells #[.int .i64 s, .int .i64 e, .string t] 39)) := hb.alloc hsz _
      have q3 : (wr.alloc (.cells #[.int .i64 s, .int .i64 e, .string t] 39)).cell? ⟨go, k * 3 + 1, none⟩ = some (.int .i64 e) := (World.cell?_alloc_past _ _ _ (by omega)).trans q2
      have q4 : (wr.alloc (.cells #[.int .i64 s, .int .i64 e, .string t] 39)).frozen? ⟨go, k * 3 + 1, none⟩ = false := (World.frozen?_alloc_past _ _ _ (by omega)).trans (hfz _)
      have hO2 : Own (wr.alloc (.cells #[.int .i64 s, .int .i64 e, .string t] 39)) w.heap.size wr.heap.size 39 3 (.slice (some ⟨go, 0, none⟩) l.length co) l.length (cuesV (partE l gap k)) := ⟨hownk.alloc _, hO.2⟩
      have a0 : (wr.alloc (.cells #[.int .i64 s, .int .i64 e, .string t] 39)).cell? ⟨wr.heap.size, 0, none⟩ = some (.int .i64 s) := by simp [World.cell?_alloc_at]
      have a1 : (wr.alloc (.cells #[.int .i64 s, .int .i64 e, .string t] 39)).cell? ⟨wr.heap.size, 1, none⟩ = some (.int .i64 e) := by simp [World.cell?_alloc_at]
      have a2 : (wr.alloc (.cells #[.int .i64 s, .int .i64 e, .string t] 39)).cell? ⟨wr.heap.size, 2, none⟩ = some (.string t) := by simp [World.cell?_alloc_at]
      have HPE := Lib.hid hpe
      clear hpe hx
      by_cases hnx : k + 1 < l.length
      · obtain ⟨⟨s', e', t'⟩, hx'⟩ := some_at l hnx
        obtain ⟨c4, -, -⟩ := Reads.cue (B := 0) (n := 0) hc hx'
        have c5 : (wr.alloc (.cells #[.int .i64 s, .int .i64 e, .string t] 39)).cell? ⟨b, off + (k + 1) * 3, none⟩ = some (.int .i64 s') := (World.cell?_alloc_past _ _ _ (by omega)).trans c4
        obtain ⟨z1, z2, z3, -⟩ := valid_bounds HV.out hx'
        simp only at z1 z2 z3
        have HM := Lib.hid (limit_next (gap := gap) hx')
        simp only at HM
        clear hx' hc c4
        have hres : ∀ x : Int, x = mostI e (leastI (s + readT t) (s' - gap)) → (partE l gap k).set k (s, x, t) = partE l gap (k + 1) := fun x hx => by
          have h1 := partE_set (gap := gap) HX.out
          simp only [extOne, HM.out] at h1
          rw [hx]
          exact h1
        have HR := Lib.hid hres
        clear hres
        have x1 : IntKind.i64.wrap (s + readT t) = s + readT t := IntWalk.i64_in _ (by omega)
        have i1 : (k : Int) < (l.length : Int) := by omega
        have i0 : (0 : Int) ≤ (k : Int) := by omega
        have kr := still_of (impl_ReadingTime t (wr.alloc (.cells #[.int .i64 s, .int .i64 e, .string t] 39)).drew htt)
        have KR := Lib.hid kr
        clear kr
        have HG1 := Lib.hid hg1
        go_wp2
        generalize hWX : wr.alloc (.cells #[.int .i64 s, .int .i64 e, .string t] 39) = WX at *
        clear hWX
        refine wp_region_still_tail 13 (by kernel_rfl) (by kernel_rfl) ?_
        simp only [List.take_succ_cons, List.take_zero, List.drop_succ_cons, List.drop_zero]
        repeat (first | still_step | (refine wpStill_step (fun K hK => ?_); go_simp; refine ⟨_, KR.out, hK _ ?_⟩; clear hK K))
        refine wpStill_nil ?_
        change wpList _ _ _ _ _ WX.drew
        clear x1
        go_wp2
        go_roundw
        case rel => exact ⟨k + 1, by omega, by go_num, by rw [← HR.out (if e < (if s' - gap < s + readT t then s' - gap else s + readT t) then (if s' - gap < s + readT t then s' - gap else s + readT t) else e) (by unfold mostI leastI; repeat' split <;> omega), ← set_end HPE.out]; exact (hO2.1.stored (k * 3 + 1) _).1, hb2.drew.setCell HG1.out _⟩
        case measure => simp [intOf]; omega
      · have HM := Lib.hid (limit_last (l := l) (gap := gap) (k := k) (by omega))
        clear hc
        have hres : ∀ x : Int, x = mostI e (leastI (s + readT t) (99999999)) → (partE l gap k).set k (s, x, t) = partE l gap (k + 1) := fun x hx => by
          have h1 := partE_set (gap := gap) HX.out
          simp only [extOne, HM.out] at h1
          rw [hx]
          exact h1
        have HR := Lib.hid hres
        clear hres
        have x1 : IntKind.i64.wrap (s + readT t) = s + readT t := IntWalk.i64_in _ (by omega)
        have i1 : (k : Int) < (l.length : Int) := by omega
        have i0 : (0 : Int) ≤ (k : Int) := by omega
        have kr := still_of (impl_ReadingTime t (wr.alloc (.cells #[.int .i64 s, .int .i64 e, .string t] 39)).drew htt)
        have KR := Lib.hid kr
        clear kr
        have HG1 := Lib.hid hg1
        go_wp2
        generalize hWX : wr.alloc (.cells #[.int .i64 s, .int .i64 e, .string t] 39) = WX at *
        clear hWX
        refine wp_region_still_tail 13 (by kernel_rfl) (by kernel_rfl) ?_
        simp only [List.take_succ_cons, List.take_zero, List.drop_succ_cons, List.drop_zero]
        repeat (first | still_step | (refine wpStill_step (fun K hK => ?_); go_simp; refine ⟨_, KR.out, hK _ ?_⟩; clear hK K))
        refine wpStill_nil ?_
        change wpList _ _ _ _ _ WX.drew
        clear x1
        go_wp2
        go_roundw
        case rel => exact ⟨k + 1, by omega, by go_num, by rw [← HR.out (if e < (if 99999999 < s + readT t then 99999999 else s + readT t) then (if 99999999 < s + readT t then 99999999 else s + readT t) else e) (by unfold mostI leastI; repeat' split <;> omega), ← set_end HPE.out]; exact (hO2.1.stored (k * 3 + 1) _).1, hb2.drew.setCell HG1.out _⟩
        case measure => simp [intOf]; omega
    · obtain rfl : k = l.length := by omega
      rw [partE_all] at hownk
      go_wp2
      go_ret2
      exact tracked_yes (extend_good HV.out HOK.out) (by rw [extAll_length]; exact hownk) hb
end Go.Proofs.Yticdjneihcimeaa
