/-
  Contracts of l20If and of the reference's ShiftCues and ScaleCues; of the program's ScaleCues.
-/
import Derived.Test.YticdjneihcimeaaTimed
import Derived.StillTailTactics
import Derived.IntWalk
namespace Go.Proofs.Yticdjneihcimeaa
open Go.RowKit
set_option linter.unusedVariables false

/-- l20If hands a track of the call's own back if it is valid. -/
theorem spec_l20If (lo hi : Nat) (v : Value) (l : List CueD) (w : World) (h : Own w lo hi 39 3 v l.length (cuesV l)) (hn : l.length ≤ 1048576) (ht : ∀ c ∈ l, c.2.2.size ≤ maxLen) :
    Calls Try.prog 56 #[v] w fun e w' => e = .returned (.tuple #[if validB l then v else .slice none 0 0, .bool (validB l)]) ∧ Below w.heap.size w w' := by
  obtain ⟨A, cap, rfl, hr, -, -⟩ := h.slice
  cases hv : validB l
  · go_enter Try.func56, Try.ntmps56
    go_wp2_with fail
    refine (spec_IsValidCues A cap l _ hr hn ht).mono ?_
    rintro e w1 ⟨rfl, hb⟩
    go_wp2
    go_ret2
    exact ⟨rfl, hb⟩
  · go_enter Try.func56, Try.ntmps56
    go_wp2_with fail
    refine (spec_IsValidCues A cap l _ hr hn ht).mono ?_
    rintro e w1 ⟨rfl, hb⟩
    go_wp2
    go_ret2
    exact ⟨rfl, hb⟩

/-- A track of which the first k cues are changed. -/
def partT (g : Int → Int) (l : List CueD) (k : Nat) : List CueD := mapT g (l.take k) ++ l.drop k
theorem partT_zero (g : Int → Int) (l : List CueD) : partT g l 0 = l := by simp [partT, mapT]
theorem partT_all (g : Int → Int) (l : List CueD) : partT g l l.length = mapT g l := by simp [partT]
theorem partT_length (g : Int → Int) (l : List CueD) (k : Nat) : (partT g l k).length = l.length := by simp [partT, mapT]; omega
theorem partT_set (g : Int → Int) {l : List CueD} {k : Nat} {c : CueD} (h : l[k]? = some c) : (partT g l k).set k (g c.1, g c.2.1, c.2.2) = partT g l (k + 1) := by
  have hk : k < l.length := (List.getElem?_eq_some_iff.1 h).1
  unfold partT
  rw [mapT_snoc g h, List.set_append_right _ _ (by rw [mapT_length]; simp; omega), mapT_length, List.length_take, show k - min k l.length = 0 by omega, ← List.getElem_cons_drop (h := hk), List.set_cons_zero]
  simp

set_option maxHeartbeats 2000000 in
theorem spec_shift (A : Option Addr) (cap : Nat) (l : List CueD) (d : Int) (w : World) (hr : Reads w w.heap.size 3 A l.length (cuesV l)) (hn : l.length ≤ 1048576) (ht : ∀ c ∈ l, c.2.2.size ≤ maxLen) :
    Calls Try.prog 30 #[.slice A l.length cap, .int .i64 d] w (Tracked (timedL l (inB d (-99999999) 99999999) (fun t => t + d)) w) := by
  cases hv : validB l
  · go_enter Try.func30, Try.ntmps30
    go_wp2_with fail
    refine (spec_IsValidCues A cap l _ hr hn ht).mono ?_
    rintro e w1 ⟨rfl, hb⟩
    go_wp2
    go_ret2
    exact tracked_no (timed_bad1 hv) hb
  cases hok : inB d (-99999999) 99999999
  · go_enter Try.func30, Try.ntmps30
    go_wp2_with fail
    refine (spec_IsValidCues A cap l _ hr hn ht).mono ?_
    rintro e w1 ⟨rfl, hb⟩
    go_wp2_with (go_at_call 44; refine (spec_l1In _ _ _ _).mono ?_; rintro e w' ⟨rfl, rfl⟩)
    go_ret2
    exact tracked_no (timed_bad2 rfl) hb
  have HOK := Lib.hid hok
  obtain ⟨ho1, ho2⟩ := inB_iff.1 hok
  go_enter Try.func30, Try.ntmps30
  go_wp2_with fail
  refine (spec_IsValidCues A cap l _ hr hn ht).mono ?_
  rintro e w1 ⟨rfl, hb1⟩
  have hsz1 := hb1.size
  have hown : (w1.alloc (.cells #[] 39)).ownsRow w.heap.size 39 3 (.slice (some ⟨w1.heap.size, 0, none⟩) 0 0) 0 [] := World.ownsRow_made _ _ _ hsz1 (by simp) rfl
  have hr2 := ((hr.below hb1).more hsz1).alloc (Nat.le_refl _) (.cells #[] 39)
  go_wp2_with (first | (go_at_call 44; refine (spec_l1In _ _ _ _).mono ?_; rintro e w' ⟨rfl, rfl⟩) | (at_builtin; refine wpList_append_src hown (by simp; omega) hr2 (cuesV_one l) (.tmp 16) (.tmp 17) 25 Try.underlying25 info_cue (by omega) (by unfold maxLen; omega) ⟨rfl, rfl, rfl, rfl, rfl, by decide⟩ ?_; intro v2 w2 hown2 hb2))
  have HV := Lib.hid hv
  clear hv
  rw [Nat.zero_add, List.nil_append] at hown2
  obtain ⟨Ao, co, rfl, -, -, -⟩ := (Own.of_row hown2).slice
  have hB2 : Below w.heap.size w w2 := (hb1.alloc hsz1 _).trans hb2
  go_loopw [7] (fun i wr => ∃ k : Nat, k ≤ l.length ∧ i = .int .i64 k ∧ wr.ownsRow w.heap.size 39 3 (.slice Ao l.length co) l.length (cuesV (partT (fun t => t + d) l k)) ∧ Below w.heap.size w wr) (fun i _ => l.length - (intOf i).toNat)
  case atStart => exact ⟨0, Nat.zero_le _, rfl, by rw [partT_zero]; exact hown2, hB2⟩
  case round =>
    obtain ⟨k, hk, rfl, hownk, hb⟩ := hrel
    have hsz := hb.size
    by_cases hlt : k < l.length
    · obtain ⟨b, off, rfl, hb0, hc⟩ := (hr.below hb).2 (by omega)
      obtain ⟨⟨s, e, t⟩, hx⟩ := some_at l hlt
      obtain ⟨c1, c2, c3⟩ := Reads.cue (B := 0) (n := 0) hc hx
      obtain ⟨v1, v2, v3, -⟩ := valid_bounds HV.out hx
      simp only at v1 v2 v3
      have HX := Lib.hid hx
      clear hx hc
      have hO := Own.of_row hownk
      obtain ⟨go, co', hvo, hg1, hg2, hg3, -, -, -, hfz⟩ := hO.open_ (by omega)
      simp only [Value.slice.injEq, true_and] at hvo
      obtain ⟨rfl, rfl⟩ := hvo
      have hpl := partT_length (fun t => t + d) l k
      obtain ⟨c, hcx⟩ := some_at (partT (fun t => t + d) l k) (show k < _ by omega)
      obtain ⟨q1, q2, q3⟩ := hO.cue hcx
      have HPL := Lib.hid hpl
      clear hcx hpl
      have x1 : IntKind.i64.wrap (s + d) = s + d := IntWalk.i64_in _ (by omega)
      have x2 : IntKind.i64.wrap (e + d) = e + d := IntWalk.i64_in _ (by omega)
      have i1 : (k : Int) < (l.length : Int) := by omega
      have i0 : (0 : Int) ≤ (k : Int) := by omega
      go_wp2
      go_still_tail 23, (by kernel_rfl)
      change wpList _ _ _ _ _ wr.drew
      generalize hwd : wr.drew = wd
      have e1 : wd.cell? ⟨go, k * 3, none⟩ = some (.int .i64 c.1) := by rw [← hwd]; exact q1
      have e2 : wd.cell? ⟨go, k * 3 + 1, none⟩ = some (.int .i64 c.2.1) := by rw [← hwd]; exact q2
      have e3 : wd.cell? ⟨go, k * 3 + 2, none⟩ = some (.string c.2.2) := by rw [← hwd]; exact q3
      have ef : ∀ j, wd.frozen? ⟨go, j, none⟩ = false := by rw [← hwd]; exact hfz
      have eo : Own wd w.heap.size wr.heap.size 39 3 (.slice (some ⟨go, 0, none⟩) l.length co) l.length (cuesV (partT (fun t => t + d) l k)) := by rw [← hwd]; exact ⟨hownk, hO.2⟩
      have eb : Below w.heap.size w wd := by rw [← hwd]; exact hb.drew
      have HWD := Lib.hid hwd
      clear hwd
      go_wp2
      go_roundw
      case rel =>
        have h1 := (eo.setCue (k := k) (by have := HPL.out; omega) (s + d, e + d, t)).1
        have h2 := partT_set (fun t => t + d) HX.out
        simp only at h1 h2
        rw [h2] at h1
        exact ⟨k + 1, by omega, by go_num, h1, below_setCue eb hg1 _ _ _ _ _ _⟩
      case measure => simp [intOf]; omega
    · obtain rfl : k = l.length := by omega
      rw [partT_all] at hownk
      have hml := mapT_length (fun t => t + d) l
      have hO : Own wr w.heap.size wr.heap.size 39 3 (.slice Ao l.length co) (mapT (fun t => t + d) l).length (cuesV (mapT (fun t => t + d) l)) := by rw [hml]; exact Own.of_row hownk
      have hif := spec_l20If _ _ _ (mapT (fun t => t + d) l) wr hO (by omega) (mapT_text (P := fun t => t.size ≤ maxLen) ht)
      have HIF := Lib.hid hif
      have hsz := hb.size
      clear hif hml
      cases hv2 : validB (mapT (fun t => t + d) l)
      · go_wp2_with fail
        refine HIF.out.mono ?_
        rw [hv2]
        rintro e w3 ⟨rfl, hb3⟩
        go_wp2
        go_ret2
        exact tracked_no (timed_bad3 hv2) (hb.trans (hb3.mono hsz))
      · go_wp2_with fail
        refine HIF.out.mono ?_
        rw [hv2]
        rintro e w3 ⟨rfl, hb3⟩
        go_wp2
        go_ret2
        have ho3 := ownsRow_only (lo' := wr.heap.size) (hi' := wr.heap.size) hO.1 (Only.of_below hb3) (fun g hg => .inl (hO.1.lt g hg).2)
        exact tracked_yes (timed_good HV.out rfl hv2) ho3 (hb.trans (hb3.mono hsz))

theorem spec_ShiftCues (A : Option Addr) (cap : Nat) (l : List CueD) (d : Int) (w : World) (hr : Reads w w.heap.size 3 A l.length (cuesV l)) (hn : l.length ≤ 1048576) (ht : ∀ c ∈ l, c.2.2.size ≤ maxLen) :
    Calls Try.prog 30 #[.slice A l.length cap, .int .i64 d] w (Tracked (shiftL l d) w) := spec_shift A cap l d w hr hn ht
theorem shift_le (l : List CueD) (d : Int) : ((shiftL l d).getD []).length ≤ l.length := timed_le _ _ _
end Go.Proofs.Yticdjneihcimeaa
