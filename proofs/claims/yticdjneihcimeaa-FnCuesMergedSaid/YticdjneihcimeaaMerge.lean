/-
  The contract of the program's MergeCues.
-/
import Derived.Test.YticdjneihcimeaaSpecTimed
import Derived.Test.YticdjneihcimeaaMergePl
import Derived.StillTailTactics
import Derived.IntWalk
namespace Go.Proofs.Yticdjneihcimeaa
open Go.RowKit
set_option linter.unusedVariables false

theorem valid_fine {l : List CueD} (hv : validB l = true) : ∀ (k : Nat) (c : CueD), l[k]? = some c → Fine c := fun k c h => by
  obtain ⟨h1, h2, h3, h4⟩ := valid_bounds hv h
  exact ⟨⟨h1, by omega⟩, ⟨by omega, h3⟩, h4⟩
theorem caption_size' {t : ByteArray} (h : captionB t = true) : 1 ≤ t.size ∧ t.size ≤ 120 := by
  simp only [captionB, Bool.and_eq_true, inB_iff] at h
  omega
theorem small_text {t : ByteArray} (h : t.size ≤ 300) : t.size ≤ maxLen := by unfold maxLen; omega

set_option maxHeartbeats 4000000 in
theorem impl_MergeCues (A : Option Addr) (cap : Nat) (l : List CueD) (gap : Int) (w : World) (hr : Reads w w.heap.size 3 A l.length (cuesV l)) (hn : l.length ≤ 1048576) (ht : ∀ c ∈ l, c.2.2.size ≤ maxLen) (hf : Fits l) :
    Calls Try.prog 22 #[.slice A l.length cap, .int .i64 gap] w (Tracked (mergeL l gap) w) := by
  cases hv : validB l
  · go_enter Try.func22, Try.ntmps22
    go_wp2_with fail
    refine (impl_IsValidCues A cap l _ hr hn ht hf).mono ?_
    rintro e w1 ⟨rfl, hb⟩
    go_wp2
    go_ret2
    exact tracked_no (merge_bad1 hv) hb
  cases hok : inB gap 0 99999999
  · go_enter Try.func22, Try.ntmps22
    go_wp2_with fail
    refine (impl_IsValidCues A cap l _ hr hn ht hf).mono ?_
    rintro e w1 ⟨rfl, hb⟩
    go_wp2_with (go_at_call 47; refine (impl_isMillis _ _).mono ?_; rintro e w' ⟨rfl, rfl⟩)
    go_ret2
    exact tracked_no (merge_bad2 hok) hb
  obtain ⟨ho1, ho2⟩ := inB_iff.1 hok
  go_enter Try.func22, Try.ntmps22
  go_wp2_with fail
  refine (impl_IsValidCues A cap l _ hr hn ht hf).mono ?_
  rintro e w1 ⟨rfl, hb1⟩
  have hsz1 := hb1.size
  go_wp2_with (go_at_call 47; refine (impl_isMillis _ _).mono ?_; rintro e w' ⟨rfl, rfl⟩)
  have HV := Lib.hid hv
  have HOK := Lib.hid hok
  clear hv hok
  go_loopw [6, 21] (fun v i wr => ∃ k : Nat, k ≤ l.length ∧ i = .int .i64 k ∧ wr.ownsRow w.heap.size 39 3 v (mergeAll gap (l.take k)).length (cuesV (mergeAll gap (l.take k))) ∧ Below w.heap.size w wr) (fun _ i _ => l.length - (intOf i).toNat)
  case atStart => exact ⟨0, Nat.zero_le _, rfl, World.ownsRow_made _ _ _ hsz1 (by simp) rfl, hb1.alloc hsz1 _⟩
  case round =>
    obtain ⟨k, hk, rfl, hown, hb⟩ := hrel
    have hsz := hb.size
    by_cases hlt : k < l.length
    · have hrb := hr.below hb
      obtain ⟨b, off, rfl, hb0, hc⟩ := hrb.2 (by omega)
      obtain ⟨⟨s, e, t⟩, hx⟩ := some_at l hlt
      obtain ⟨c1, c2, c3⟩ := Reads.cue (B := 0) (n := 0) hc hx
      obtain ⟨v1, v2, v3, v4⟩ := valid_bounds HV.out hx
      simp only at v1 v2 v3 v4
      obtain ⟨t1, t2⟩ := caption_size' v4
      obtain ⟨hfine, hml⟩ := merge_fine (gap := gap) (valid_fine HV.out) k hk
      have hms := merge_snoc gap hx
      generalize mergeAll gap (l.take k) = M at *
      have HX := Lib.hid hx
      have HMS := Lib.hid hms
      have HFI := Lib.hid hfine
      have HV4 := Lib.hid v4
      have hb2 : Below w.heap.size w (wr.alloc (.cells #[.int .i64 s, .int .i64 e, .string t] 39)) := hb.alloc hsz _
      have hsz2 := hb2.size
      have hown2 := hown.alloc (.cells #[.int .i64 s, .int .i64 e, .string t] 39)
      have a0 : (wr.alloc (.cells #[.int .i64 s, .int .i64 e, .string t] 39)).cell? ⟨wr.heap.size, 0, none⟩ = some (.int .i64 s) := by simp [World.cell?_alloc_at]
      have a1 : (wr.alloc (.cells #[.int .i64 s, .int .i64 e, .string t] 39)).cell? ⟨wr.heap.size, 1, none⟩ = some (.int .i64 e) := by simp [World.cell?_alloc_at]
      have a2 : (wr.alloc (.cells #[.int .i64 s, .int .i64 e, .string t] 39)).cell? ⟨wr.heap.size, 2, none⟩ = some (.string t) := by simp [World.cell?_alloc_at]
      clear hx hms hc hfine v4
      rcases List.eq_nil_or_concat M with hM | ⟨I, d, hM⟩
      · subst hM
        obtain ⟨Ao, co, rfl, -, -, -⟩ := (Own.of_row hown).slice
        simp only [List.length_nil] at hown hown2
        go_wp2
        generalize hWX : wr.alloc (.cells #[.int .i64 s, .int .i64 e, .string t] 39) = WX at *
        clear hWX
        go_quiet (fail)
        have hown3 := drewN_own hown2 nq
        have hb3 := below_drewN hb2 nq
        have hsz3 := hb3.size
        generalize hWY : WX.drewN nq = WY at *
        have a3 : WY.cell? ⟨wr.heap.size, 0, none⟩ = some (.int .i64 s) := by rw [← hWY]; exact a0
        have a4 : WY.cell? ⟨wr.heap.size, 1, none⟩ = some (.int .i64 e) := by rw [← hWY]; exact a1
        have a5 : WY.cell? ⟨wr.heap.size, 2, none⟩ = some (.string t) := by rw [← hWY]; exact a2
        clear hWY
        go_wp2_with (at_builtin; refine wpList_append_three hown3 (by exact hsz3) (.tmp 74) (.tmp 76) 25 Try.underlying25 info_cue (by omega) (by unfold maxLen; omega) ⟨rfl, rfl, rfl, rfl, rfl, rfl, rfl, rfl⟩ (by simp) ?_; intro vv ww hown4 hb4 _)
        go_roundw
        case rel => exact ⟨k + 1, by omega, by go_num, by rw [HMS.out, step_nil]; simpa [cuesV, cueV] using hown4, hb3.trans hb4⟩
        case measure => simp [intOf]; omega
      · rw [List.concat_eq_append] at hM
        subst hM
        obtain ⟨ds, de, dt⟩ := d
        have hd := HFI.out (ds, de, dt) (by simp)
        obtain ⟨⟨d1, d2⟩, ⟨d3, d4⟩, d5⟩ := hd
        simp only at d1 d2 d3 d4 d5
        obtain ⟨t3, t4⟩ := caption_size' d5
        obtain ⟨n, hin⟩ : ∃ n, I.length = n := ⟨_, rfl⟩
        rw [show (I ++ [(ds, de, dt)]).length = n + 1 by simp [hin]] at hown hown2 hml
        have hO := Own.of_row hown
        obtain ⟨go, co, hvo, hg1, hg2, hg3, -, -, -, hfz⟩ := hO.open_ (by omega)
        subst hvo
        obtain ⟨r0, r1, r2⟩ := hO.cue (k := n) (c := (ds, de, dt)) (by rw [← hin]; simp)
        simp only at r0 r1 r2
        have b0 : (wr.alloc (.cells #[.int .i64 s, .int .i64 e, .string t] 39)).cell? ⟨go, n * 3, none⟩ = some (.int .i64 ds) := (World.cell?_alloc_past _ _ _ (by omega)).trans r0
        have b1 : (wr.alloc (.cells #[.int .i64 s, .int .i64 e, .string t] 39)).cell? ⟨go, n * 3 + 1, none⟩ = some (.int .i64 de) := (World.cell?_alloc_past _ _ _ (by omega)).trans r1
        have b2 : (wr.alloc (.cells #[.int .i64 s, .int .i64 e, .string t] 39)).cell? ⟨go, n * 3 + 2, none⟩ = some (.string dt) := (World.cell?_alloc_past _ _ _ (by omega)).trans r2
        have bf : ∀ j, (wr.alloc (.cells #[.int .i64 s, .int .i64 e, .string t] 39)).frozen? ⟨go, j, none⟩ = false := fun j => (World.frozen?_alloc_past _ _ _ (by omega)).trans (hfz j)
        have HSM := Lib.hid (show (dt ++ ⟨#[32]⟩ ++ t).size ≤ maxLen from small_text (by have := joinT_size dt t; unfold joinT sp1 at this; omega))
        have HIN := Lib.hid hin
        have HOK2 := Lib.hid (show Own (wr.alloc (.cells #[.int .i64 s, .int .i64 e, .string t] 39)) w.heap.size wr.heap.size 39 3 (.slice (some ⟨go, 0, none⟩) (n + 1) co) (n + 1) (cuesV (I ++ [(ds, de, dt)])) from ⟨hown2, hO.2⟩)
        have HG1 := Lib.hid hg1
        have x1 : IntKind.i64.wrap (s - de) = s - de := IntWalk.i64_in _ (by omega)
        have j0 : (0 : Int) ≤ (n : Int) := by omega
        have j1 : (n : Int) < ((n + 1 : Nat) : Int) := by omega
        have j2 : (n : Int) < (n : Int) + 1 := by omega
        have j3 : n < n + 1 := by omega
        clear hin r0 r1 r2 hfz
        go_wp2
        generalize hWX : wr.alloc (.cells #[.int .i64 s, .int .i64 e, .string t] 39) = WX at *
        clear hWX
        by_cases h1 : s - de ≤ gap
        · cases hcap : captionB (dt ++ ⟨#[32]⟩ ++ t)
          · have HNO := Lib.hid (show mayB gap (ds, de, dt) (s, e, t) = false by simp only [mayB]; rw [show captionB (joinT dt t) = false from hcap]; simp)
            go_quiet ((go_at_call 48; exact quiet_left (impl_isCaption _ _ HSM.out)))
            have hown3 := drewN_own hown2 nq
            have hb3 := below_drewN hb2 nq
            have hsz3 := hb3.size
            generalize hWY : WX.drewN nq = WY at *
            have a3 : WY.cell? ⟨wr.heap.size, 0, none⟩ = some (.int .i64 s) := by rw [← hWY]; exact a0
            have a4 : WY.cell? ⟨wr.heap.size, 1, none⟩ = some (.int .i64 e) := by rw [← hWY]; exact a1
            have a5 : WY.cell? ⟨wr.heap.size, 2, none⟩ = some (.string t) := by rw [← hWY]; exact a2
            clear hWY x1
            go_wp2_with (at_builtin; refine wpList_append_three hown3 (by exact hsz3) (.tmp 74) (.tmp 76) 25 Try.underlying25 info_cue (by omega) (by unfold maxLen; omega) ⟨rfl, rfl, rfl, rfl, rfl, rfl, rfl, rfl⟩ (by simp) ?_; intro vv ww hown4 hb4 _)
            go_roundw
            case rel => exact ⟨k + 1, by omega, by go_num, by rw [HMS.out, step_no HNO.out, show (I ++ [(ds, de, dt)] ++ [(s, e, t)]).length = n + 1 + 1 by have := HIN.out; simp; omega, cuesV_append]; exact hown4, hb3.trans hb4⟩
            case measure => simp [intOf]; omega

          · have HNO := Lib.hid (show mayB gap (ds, de, dt) (s, e, t) = true by simp only [mayB]; rw [show captionB (joinT dt t) = true from hcap]; simp [h1])
            go_quiet ((go_at_call 48; exact quiet_left (impl_isCaption _ _ HSM.out)))
            clear x1
            go_wp2
            generalize hWY : WX.drewN nq = WY at *
            have a3 : WY.cell? ⟨wr.heap.size, 0, none⟩ = some (.int .i64 s) := by rw [← hWY]; exact a0
            have a4 : WY.cell? ⟨wr.heap.size, 1, none⟩ = some (.int .i64 e) := by rw [← hWY]; exact a1
            have a5 : WY.cell? ⟨wr.heap.size, 2, none⟩ = some (.string t) := by rw [← hWY]; exact a2
            have b3 : WY.cell? ⟨go, n * 3, none⟩ = some (.int .i64 ds) := by rw [← hWY]; exact b0
            have b4 : WY.cell? ⟨go, n * 3 + 1, none⟩ = some (.int .i64 de) := by rw [← hWY]; exact b1
            have b5 : WY.cell? ⟨go, n * 3 + 2, none⟩ = some (.string dt) := by rw [← hWY]; exact b2
            have bff : ∀ j, WY.frozen? ⟨go, j, none⟩ = false := by rw [← hWY]; exact bf
            have hOY : Own WY w.heap.size wr.heap.size 39 3 (.slice (some ⟨go, 0, none⟩) (n + 1) co) (n + 1) (cuesV (I ++ [(ds, de, dt)])) := by rw [← hWY]; exact HOK2.out
            have hbY : Below w.heap.size w WY := by rw [← hWY]; exact below_drewN hb2 nq
            clear hWY
            have hdz : dt.size ≤ 120 := t4
            have htz : t.size ≤ 120 := t2
            have y1 : ¬ (9223372036854775807 < dt.size + 1) := by omega
            have y2 : ¬ (9223372036854775806 < dt.size) := by omega
            have y3 : ¬ (9223372036854775807 < dt.size + 1 + t.size) := by omega
            clear hdz htz
            refine wp_region_still_tail 20 (by kernel_rfl) (by kernel_rfl) ?_
            simp only [List.take_succ_cons, List.take_zero, List.drop_succ_cons, List.drop_zero]
            repeat still_step
            refine wpStill_nil ?_
            change wpList _ _ _ _ _ WY.drew
            go_wp2
            go_roundw
            case rel =>
              have h2 := (hOY.setCue (k := n) (by have := HIN.out; simp; omega) (ds, e, dt ++ ⟨#[32]⟩ ++ t)).1
              have h3 : (I ++ [(ds, de, dt)]).set n (ds, e, dt ++ ⟨#[32]⟩ ++ t) = I ++ [(ds, e, dt ++ ⟨#[32]⟩ ++ t)] := by have := HIN.out; subst this; simp
              rw [h3] at h2
              exact ⟨k + 1, by omega, by go_num, by rw [HMS.out, step_yes HNO.out, show (I ++ [(ds, e, joinT dt t)]).length = n + 1 by have := HIN.out; simp; omega]; exact h2, below_setCue hbY.drew HG1.out _ _ _ _ _ _⟩
            case measure => simp [intOf]; omega
        · have HNO := Lib.hid (show mayB gap (ds, de, dt) (s, e, t) = false by simp only [mayB]; rw [decide_eq_false h1]; rfl)
          go_quiet ((go_at_call 48; exact quiet_left (impl_isCaption _ _ HSM.out)))
          have hown3 := drewN_own hown2 nq
          have hb3 := below_drewN hb2 nq
          have hsz3 := hb3.size
          generalize hWY : WX.drewN nq = WY at *
          have a3 : WY.cell? ⟨wr.heap.size, 0, none⟩ = some (.int .i64 s) := by rw [← hWY]; exact a0
          have a4 : WY.cell? ⟨wr.heap.size, 1, none⟩ = some (.int .i64 e) := by rw [← hWY]; exact a1
          have a5 : WY.cell? ⟨wr.heap.size, 2, none⟩ = some (.string t) := by rw [← hWY]; exact a2
          clear hWY x1
          go_wp2_with (at_builtin; refine wpList_append_three hown3 (by exact hsz3) (.tmp 74) (.tmp 76) 25 Try.underlying25 info_cue (by omega) (by unfold maxLen; omega) ⟨rfl, rfl, rfl, rfl, rfl, rfl, rfl, rfl⟩ (by simp) ?_; intro vv ww hown4 hb4 _)
          go_roundw
          case rel => exact ⟨k + 1, by omega, by go_num, by rw [HMS.out, step_no HNO.out, show (I ++ [(ds, de, dt)] ++ [(s, e, t)]).length = n + 1 + 1 by have := HIN.out; simp; omega, cuesV_append]; exact hown4, hb3.trans hb4⟩
          case measure => simp [intOf]; omega
    · obtain rfl : k = l.length := by omega
      rw [take_all] at hown
      go_wp2
      go_ret2
      exact tracked_yes (merge_good HV.out HOK.out) hown hb
end Go.Proofs.Yticdjneihcimeaa
