/-
  The contract of the reference's ExtendCues.
-/
import Derived.Test.YticdjneihcimeaaExtend
namespace Go.Proofs.Yticdjneihcimeaa
open Go.RowKit
set_option linter.unusedVariables false

set_option maxHeartbeats 4000000 in
theorem spec_ExtendCues (A : Option Addr) (cap : Nat) (l : List CueD) (gap : Int) (w : World) (hr : Reads w w.heap.size 3 A l.length (cuesV l)) (hn : l.length ≤ 1048576) (ht : ∀ c ∈ l, c.2.2.size ≤ maxLen) :
    Calls Try.prog 35 #[.slice A l.length cap, .int .i64 gap] w (Tracked (extendL l gap) w) := by
  cases hv : validB l
  · go_enter Try.func35, Try.ntmps35
    go_wp2_with fail
    refine (spec_IsValidCues A cap l _ hr hn ht).mono ?_
    rintro e w1 ⟨rfl, hb⟩
    go_wp2
    go_ret2
    exact tracked_no (extend_bad1 hv) hb
  cases hok : inB gap 0 99999999
  · go_enter Try.func35, Try.ntmps35
    go_wp2_with fail
    refine (spec_IsValidCues A cap l _ hr hn ht).mono ?_
    rintro e w1 ⟨rfl, hb⟩
    go_wp2_with (go_at_call 44; refine (spec_l1In _ _ _ _).mono ?_; rintro e w' ⟨rfl, rfl⟩)
    go_ret2
    exact tracked_no (extend_bad2 hok) hb
  obtain ⟨ho1, ho2⟩ := inB_iff.1 hok
  go_enter Try.func35, Try.ntmps35
  go_wp2_with fail
  refine (spec_IsValidCues A cap l _ hr hn ht).mono ?_
  rintro e w1 ⟨rfl, hb1⟩
  have hsz1 := hb1.size
  have hown : (w1.alloc (.cells #[] 39)).ownsRow w.heap.size 39 3 (.slice (some ⟨w1.heap.size, 0, none⟩) 0 0) 0 [] := World.ownsRow_made _ _ _ hsz1 (by simp) rfl
  have hr2 := ((hr.below hb1).more hsz1).alloc (Nat.le_refl _) (.cells #[] 39)
  go_wp2_with (first | (go_at_call 44; refine (spec_l1In _ _ _ _).mono ?_; rintro e w' ⟨rfl, rfl⟩) | (at_builtin; refine wpList_append_src hown (by simp; omega) hr2 (cuesV_one l) (.tmp 18) (.tmp 19) 25 Try.underlying25 info_cue (by omega) (by unfold maxLen; omega) ⟨rfl, rfl, rfl, rfl, rfl, by decide⟩ ?_; intro v2 w2 hown2 hb2))
  have HV := Lib.hid hv
  have HOK := Lib.hid hok
  clear hv hok
  rw [Nat.zero_add, List.nil_append] at hown2
  obtain ⟨Ao, co, rfl, -, -, -⟩ := (Own.of_row hown2).slice
  have hB2 : Below w.heap.size w w2 := (hb1.alloc hsz1 _).trans hb2
  go_loopw [7] (fun i wr => ∃ k : Nat, k ≤ l.length ∧ i = .int .i64 k ∧ wr.ownsRow w.heap.size 39 3 (.slice Ao l.length co) l.length (cuesV (partE l gap k)) ∧ Below w.heap.size w wr) (fun i _ => l.length - (intOf i).toNat)
  case atStart => exact ⟨0, Nat.zero_le _, rfl, by rw [partE_zero]; exact hown2, hB2⟩
  case round =>
    obtain ⟨k, hk, rfl, hownk, hb⟩ := hrel
    have hsz := hb.size
    by_cases hlt : k < l.length
    · have hrb := hr.below hb
      obtain ⟨b, off, rfl, hb0, hc⟩ := hrb.2 (by omega)
      obtain ⟨⟨s, e, t⟩, hx⟩ := some_at l hlt
      obtain ⟨c1, c2, c3⟩ := Reads.cue (B := 0) (n := 0) hc hx
      obtain ⟨v1, v2, v3, -⟩ := valid_bounds HV.out hx
      simp only at v1 v2 v3
      have htt : t.size ≤ maxLen := ht _ (List.mem_of_getElem? hx)
      obtain ⟨r1, r2⟩ := readT_bd t
      have HX := Lib.hid hx
      have hpe := partE_at (gap := gap) hx
      have hO := Own.of_row hownk
      obtain ⟨go, co', hvo, hg1, hg2, hg3, -, -, -, hfz⟩ := hO.open_ (by omega)
      simp only [Value.slice.injEq, true_and] at hvo
      obtain ⟨rfl, rfl⟩ := hvo
      obtain ⟨q1, q2, q3⟩ := hO.cue hpe
      clear hpe hx
      by_cases hnx : k + 1 < l.length
      · obtain ⟨⟨s', e', t'⟩, hx'⟩ := some_at l hnx
        obtain ⟨c4, -, -⟩ := Reads.cue (B := 0) (n := 0) hc hx'
        obtain ⟨z1, z2, z3, -⟩ := valid_bounds HV.out hx'
        simp only at z1 z2 z3
        have HM := Lib.hid (limit_next (gap := gap) hx')
        simp only at HM
        clear hx' hc
        have hres : (partE l gap k).set k (s, mostI e (leastI (s + readT t) (s' - gap)), t) = partE l gap (k + 1) := by
          have h1 := partE_set (gap := gap) HX.out
          simp only [extOne, HM.out] at h1
          exact h1
        have HR := Lib.hid hres
        clear hres
        have x1 : IntKind.i64.wrap (s + readT t) = s + readT t := IntWalk.i64_in _ (by omega)
        have i1 : (k : Int) < (l.length : Int) := by omega
        have i0 : (0 : Int) ≤ (k : Int) := by omega
        have HG1 := Lib.hid hg1
        go_wp2
        go_quiet ((first | (go_at_call 60; exact quiet_left (spec_ReadingTime _ _ htt)) | (go_at_call 59; exact quiet_left (spec_l1Least _ _ _))))
        clear x1
        go_wp2
        obtain ⟨WX, hWX⟩ : ∃ WX, WX = wr.drewN nq := ⟨_, rfl⟩
        rw [← hWX]
        have a1 : WX.cell? ⟨b, off + k * 3, none⟩ = some (.int .i64 s) := by rw [hWX]; exact c1
        have a2 : WX.cell? ⟨b, off + k * 3 + 1, none⟩ = some (.int .i64 e) := by rw [hWX]; exact c2
        have a3 : WX.cell? ⟨b, off + k * 3 + 2, none⟩ = some (.string t) := by rw [hWX]; exact c3
        have p1 : WX.cell? ⟨go, k * 3, none⟩ = some (.int .i64 s) := by rw [hWX]; exact q1
        have p2 : WX.cell? ⟨go, k * 3 + 1, none⟩ = some (.int .i64 e) := by rw [hWX]; exact q2
        have p3 : WX.cell? ⟨go, k * 3 + 2, none⟩ = some (.string t) := by rw [hWX]; exact q3
        have pf : ∀ j, WX.frozen? ⟨go, j, none⟩ = false := by rw [hWX]; exact hfz
        have pb : Below w.heap.size w WX := by rw [hWX]; exact below_drewN hb _
        have po : Own WX w.heap.size wr.heap.size 39 3 (.slice (some ⟨go, 0, none⟩) l.length co) l.length (cuesV (partE l gap k)) := by rw [hWX]; exact hO
        clear hWX
        have kr := still_of (spec_l1Most e (leastI (s + readT t) (s' - gap)) WX.drew)
        have KR := Lib.hid kr
        clear kr
        refine wp_region_still_tail 21 (by kernel_rfl) (by kernel_rfl) ?_
        simp only [List.take_succ_cons, List.take_zero, List.drop_succ_cons, List.drop_zero]
        repeat (first | still_step | (refine wpStill_step (fun K hK => ?_); go_simp; refine ⟨_, KR.out, hK _ ?_⟩; clear hK K))
        refine wpStill_nil ?_
        change wpList _ _ _ _ _ WX.drew
        go_wp2
        go_roundw
        case rel =>
          have h1 := (po.setCue (k := k) (by rw [partE_length]; exact hlt) (s, mostI e (leastI (s + readT t) (s' - gap)), t)).1
          rw [HR.out] at h1
          exact ⟨k + 1, by omega, by go_num, h1, below_setCue pb.drew HG1.out _ _ _ _ _ _⟩
        case measure => simp [intOf]; omega
      · have HM := Lib.hid (limit_last (l := l) (gap := gap) (k := k) (by omega))
        clear hc
        have hres : (partE l gap k).set k (s, mostI e (leastI (s + readT t) (99999999)), t) = partE l gap (k + 1) := by
          have h1 := partE_set (gap := gap) HX.out
          simp only [extOne, HM.out] at h1
          exact h1
        have HR := Lib.hid hres
        clear hres
        have x1 : IntKind.i64.wrap (s + readT t) = s + readT t := IntWalk.i64_in _ (by omega)
        have i1 : (k : Int) < (l.length : Int) := by omega
        have i0 : (0 : Int) ≤ (k : Int) := by omega
        have HG1 := Lib.hid hg1
        go_wp2
        go_quiet ((first | (go_at_call 60; exact quiet_left (spec_ReadingTime _ _ htt)) | (go_at_call 59; exact quiet_left (spec_l1Least _ _ _))))
        clear x1
        go_wp2
        obtain ⟨WX, hWX⟩ : ∃ WX, WX = wr.drewN nq := ⟨_, rfl⟩
        rw [← hWX]
        have a1 : WX.cell? ⟨b, off + k * 3, none⟩ = some (.int .i64 s) := by rw [hWX]; exact c1
        have a2 : WX.cell? ⟨b, off + k * 3 + 1, none⟩ = some (.int .i64 e) := by rw [hWX]; exact c2
        have a3 : WX.cell? ⟨b, off + k * 3 + 2, none⟩ = some (.string t) := by rw [hWX]; exact c3
        have p1 : WX.cell? ⟨go, k * 3, none⟩ = some (.int .i64 s) := by rw [hWX]; exact q1
        have p2 : WX.cell? ⟨go, k * 3 + 1, none⟩ = some (.int .i64 e) := by rw [hWX]; exact q2
        have p3 : WX.cell? ⟨go, k * 3 + 2, none⟩ = some (.string t) := by rw [hWX]; exact q3
        have pf : ∀ j, WX.frozen? ⟨go, j, none⟩ = false := by rw [hWX]; exact hfz
        have pb : Below w.heap.size w WX := by rw [hWX]; exact below_drewN hb _
        have po : Own WX w.heap.size wr.heap.size 39 3 (.slice (some ⟨go, 0, none⟩) l.length co) l.length (cuesV (partE l gap k)) := by rw [hWX]; exact hO
        clear hWX
        have kr := still_of (spec_l1Most e (leastI (s + readT t) (99999999)) WX.drew)
        have KR := Lib.hid kr
        clear kr
        refine wp_region_still_tail 21 (by kernel_rfl) (by kernel_rfl) ?_
        simp only [List.take_succ_cons, List.take_zero, List.drop_succ_cons, List.drop_zero]
        repeat (first | still_step | (refine wpStill_step (fun K hK => ?_); go_simp; refine ⟨_, KR.out, hK _ ?_⟩; clear hK K))
        refine wpStill_nil ?_
        change wpList _ _ _ _ _ WX.drew
        go_wp2
        go_roundw
        case rel =>
          have h1 := (po.setCue (k := k) (by rw [partE_length]; exact hlt) (s, mostI e (leastI (s + readT t) (99999999)), t)).1
          rw [HR.out] at h1
          exact ⟨k + 1, by omega, by go_num, h1, below_setCue pb.drew HG1.out _ _ _ _ _ _⟩
        case measure => simp [intOf]; omega
    · obtain rfl : k = l.length := by omega
      rw [partE_all] at hownk
      go_wp2
      go_ret2
      exact tracked_yes (extend_good HV.out HOK.out) (by rw [extAll_length]; exact hownk) hb
end Go.Proofs.Yticdjneihcimeaa
