/-
  Contracts of both ScaleCues.
-/
import Derived.Test.YtjdnmknegpikcaaDoorSpecTimed
namespace Go.Proofs.YtjdnmknegpikcaaDoor
open Go.RowKit
set_option linter.unusedVariables false
set_option maxRecDepth 100000

theorem scale_bd {t num den : Int} (h0 : 0 ≤ t) (h1 : t ≤ 99999999) (h2 : 1 ≤ num) (h3 : num ≤ 1000) (h4 : 1 ≤ den) : 0 ≤ t * num ∧ t * num ≤ 99999999000 ∧ 0 ≤ t * num / den ∧ t * num / den ≤ 99999999000 := by
  have a1 : 0 ≤ t * num := Int.mul_nonneg h0 (by omega)
  have a2 : t * num ≤ 99999999 * 1000 := Int.mul_le_mul h1 h3 (by omega) (by omega)
  have a3 : t * num / den ≤ t * num := Int.ediv_le_self _ a1
  exact ⟨a1, by omega, Int.ediv_nonneg a1 (by omega), by omega⟩

set_option maxHeartbeats 2000000 in
theorem spec_scale (A : Option Addr) (cap : Nat) (l : List CueD) (num den : Int) (w : World) (hr : Reads w w.heap.size 3 A l.length (cuesV l)) (hn : l.length ≤ 1048576) (ht : ∀ c ∈ l, c.2.2.size ≤ maxLen) :
    Calls Tryd.prog 11 #[.slice A l.length cap, .int .i64 num, .int .i64 den] w (Tracked (timedL l (inB num 1 1000 && inB den 1 1000) (fun t => t * num / den)) w) := by
  cases hv : validB l
  · go_enter Tryd.func11, Tryd.ntmps11
    go_wp2_with fail
    refine (spec_IsValidCues A cap l _ hr hn ht).mono ?_
    rintro e w1 ⟨rfl, hb⟩
    go_wp2
    go_ret2
    exact tracked_no (timed_bad1 hv) hb
  cases hok : inB num 1 1000
  · go_enter Tryd.func11, Tryd.ntmps11
    go_wp2_with fail
    refine (spec_IsValidCues A cap l _ hr hn ht).mono ?_
    rintro e w1 ⟨rfl, hb⟩
    go_wp2_with (go_at_call 34; refine (spec_l1In _ _ _ _).mono ?_; rintro e w' ⟨rfl, rfl⟩)
    go_ret2
    exact tracked_no (timed_bad2 rfl) hb
  cases hok2 : inB den 1 1000
  · go_enter Tryd.func11, Tryd.ntmps11
    go_wp2_with fail
    refine (spec_IsValidCues A cap l _ hr hn ht).mono ?_
    rintro e w1 ⟨rfl, hb⟩
    go_wp2_with (go_at_call 34; refine (spec_l1In _ _ _ _).mono ?_; rintro e w' ⟨rfl, rfl⟩)
    go_ret2
    exact tracked_no (timed_bad2 rfl) hb
  obtain ⟨ho1, ho2⟩ := inB_iff.1 hok
  obtain ⟨ho3, ho4⟩ := inB_iff.1 hok2
  go_enter Tryd.func11, Tryd.ntmps11
  go_wp2_with fail
  refine (spec_IsValidCues A cap l _ hr hn ht).mono ?_
  rintro e w1 ⟨rfl, hb1⟩
  have hsz1 := hb1.size
  have hown : (w1.alloc (.cells #[] 59)).ownsRow w.heap.size 59 3 (.slice (some ⟨w1.heap.size, 0, none⟩) 0 0) 0 [] := World.ownsRow_made _ _ _ hsz1 (by simp) rfl
  have hr2 := ((hr.below hb1).more hsz1).alloc (Nat.le_refl _) (.cells #[] 59)
  go_wp2_with (first | (go_at_call 34; refine (spec_l1In _ _ _ _).mono ?_; rintro e w' ⟨rfl, rfl⟩) | (at_builtin; refine wpList_append_src hown (by simp; omega) hr2 (cuesV_one l) (.tmp 23) (.tmp 24) 27 Tryd.underlying27 info_cue (by omega) (by unfold maxLen; omega) ⟨rfl, rfl, rfl, rfl, rfl, by decide⟩ ?_; intro v2 w2 hown2 hb2))
  have HV := Lib.hid hv
  clear hv
  rw [Nat.zero_add, List.nil_append] at hown2
  obtain ⟨Ao, co, rfl, -, -, -⟩ := (Own.of_row hown2).slice
  have hB2 : Below w.heap.size w w2 := (hb1.alloc hsz1 _).trans hb2
  go_loopw [9] (fun i wr => ∃ k : Nat, k ≤ l.length ∧ i = .int .i64 k ∧ wr.ownsRow w.heap.size 59 3 (.slice Ao l.length co) l.length (cuesV (partT (fun t => t * num / den) l k)) ∧ Below w.heap.size w wr) (fun i _ => l.length - (intOf i).toNat)
  case atStart => exact ⟨0, Nat.zero_le _, rfl, by rw [partT_zero]; exact hown2, hB2⟩
  case round =>
    obtain ⟨k, hk, rfl, hownk, hb⟩ := hrel
    have hsz := hb.size
    by_cases hlt : k < l.length
    · obtain ⟨b, off, rfl, hb0, hc⟩ := (hr.below hb).2 (by omega)
      obtain ⟨⟨s, e, t⟩, hx⟩ := some_at l hlt
      obtain ⟨c1, c2, c3⟩ := Reads.cue (B := 0) (n := 0) hc hx
      obtain ⟨v1, v2, v3, -⟩ := valid_bounds HV.out hx
      simp only at v1 v2 v3
      have HX := Lib.hid hx
      clear hx hc
      have hO := Own.of_row hownk
      obtain ⟨go, co', hvo, hg1, hg2, hg3, -, -, -, hfz⟩ := hO.open_ (by omega)
      simp only [Value.slice.injEq, true_and] at hvo
      obtain ⟨rfl, rfl⟩ := hvo
      have hpl := partT_length (fun t => t * num / den) l k
      obtain ⟨c, hcx⟩ := some_at (partT (fun t => t * num / den) l k) (show k < _ by omega)
      obtain ⟨q1, q2, q3⟩ := hO.cue hcx
      have HPL := Lib.hid hpl
      clear hcx hpl
      obtain ⟨y1, y2, y3, y4⟩ := scale_bd (t := s) v1 (by omega) ho1 ho2 ho3
      obtain ⟨z1, z2, z3, z4⟩ := scale_bd (t := e) (by omega) v3 ho1 ho2 ho3
      have x1 : IntKind.i64.wrap (s * num) = s * num := IntWalk.i64_in _ (by omega)
      have x2 : IntKind.i64.wrap (e * num) = e * num := IntWalk.i64_in _ (by omega)
      have x3 : (s * num).tdiv den = s * num / den := Int.tdiv_eq_ediv_of_nonneg y1
      have x4 : (e * num).tdiv den = e * num / den := Int.tdiv_eq_ediv_of_nonneg z1
      have x5 : IntKind.i64.wrap (s * num / den) = s * num / den := IntWalk.i64_in _ (by omega)
      have x6 : IntKind.i64.wrap (e * num / den) = e * num / den := IntWalk.i64_in _ (by omega)
      have x7 : ¬ den = 0 := by omega
      have x8 : (den == 0) = false := by simpa using x7
      have i1 : (k : Int) < (l.length : Int) := by omega
      have i0 : (0 : Int) ≤ (k : Int) := by omega
      go_wp2
      go_still_tail 27, (by kernel_rfl)
      change wpList _ _ _ _ _ wr.drew
      clear x1 x2 x3 x4 x5 x6
      generalize hwd : wr.drew = wd
      have e1 : wd.cell? ⟨go, k * 3, none⟩ = some (.int .i64 c.1) := by rw [← hwd]; exact q1
      have e2 : wd.cell? ⟨go, k * 3 + 1, none⟩ = some (.int .i64 c.2.1) := by rw [← hwd]; exact q2
      have e3 : wd.cell? ⟨go, k * 3 + 2, none⟩ = some (.string c.2.2) := by rw [← hwd]; exact q3
      have ef : ∀ j, wd.frozen? ⟨go, j, none⟩ = false := by rw [← hwd]; exact hfz
      have eo : Own wd w.heap.size wr.heap.size 59 3 (.slice (some ⟨go, 0, none⟩) l.length co) l.length (cuesV (partT (fun t => t * num / den) l k)) := by rw [← hwd]; exact ⟨hownk, hO.2⟩
      have eb : Below w.heap.size w wd := by rw [← hwd]; exact hb.drew
      have HWD := Lib.hid hwd
      clear hwd
      go_wp2
      go_roundw
      case rel =>
        have h1 := (eo.setCue (k := k) (by have := HPL.out; omega) (s * num / den, e * num / den, t)).1
        have h2 := partT_set (fun t => t * num / den) HX.out
        simp only at h1 h2
        rw [h2] at h1
        exact ⟨k + 1, by omega, by go_num, h1, below_setCue eb hg1 _ _ _ _ _ _⟩
      case measure => simp [intOf]; omega
    · obtain rfl : k = l.length := by omega
      rw [partT_all] at hownk
      have hml := mapT_length (fun t => t * num / den) l
      have hO : Own wr w.heap.size wr.heap.size 59 3 (.slice Ao l.length co) (mapT (fun t => t * num / den) l).length (cuesV (mapT (fun t => t * num / den) l)) := by rw [hml]; exact Own.of_row hownk
      have hif := spec_l20If _ _ _ (mapT (fun t => t * num / den) l) wr hO (by omega) (mapT_text (P := fun t => t.size ≤ maxLen) ht)
      have HIF := Lib.hid hif
      have hsz := hb.size
      clear hif hml
      cases hv2 : validB (mapT (fun t => t * num / den) l)
      · go_wp2_with fail
        refine HIF.out.mono ?_
        rw [hv2]
        rintro e w3 ⟨rfl, hb3⟩
        go_wp2
        go_ret2
        exact tracked_no (timed_bad3 hv2) (hb.trans (hb3.mono hsz))
      · go_wp2_with fail
        refine HIF.out.mono ?_
        rw [hv2]
        rintro e w3 ⟨rfl, hb3⟩
        go_wp2
        go_ret2
        have ho3 := ownsRow_only (lo' := wr.heap.size) (hi' := wr.heap.size) hO.1 (Only.of_below hb3) (fun g hg => .inl (hO.1.lt g hg).2)
        exact tracked_yes (timed_good HV.out rfl hv2) ho3 (hb.trans (hb3.mono hsz))

theorem scale1_calls (a b : Addr) (num den t : Int) (w : World) (ha : w.cell? a = some (.int .i64 num)) (hb : w.cell? b = some (.int .i64 den)) (h0 : 0 ≤ t) (h1 : t ≤ 99999999) (h2 : 1 ≤ num) (h3 : num ≤ 1000) (h4 : 1 ≤ den) (h5 : den ≤ 1000) :
    Calls Tryd.prog 32 #[.int .i64 t, .pointer (some a), .pointer (some b)] w fun e w' => e = .returned (.int .i64 (t * num / den)) ∧ w = w' := by
  obtain ⟨y1, y2, y3, y4⟩ := scale_bd h0 h1 h2 h3 h4
  go_enter Tryd.func32, Tryd.ntmps32
  go_wp2
  go_ret
  exact ⟨rfl, rfl⟩

def scaleL (l : List CueD) (num den : Int) : Option (List CueD) := timedL l (inB num 1 1000 && inB den 1 1000) fun t => t * num / den
theorem scale_le (l : List CueD) (num den : Int) : ((scaleL l num den).getD []).length ≤ l.length := timed_le _ _ _
theorem spec_ScaleCues (A : Option Addr) (cap : Nat) (l : List CueD) (num den : Int) (w : World) (hr : Reads w w.heap.size 3 A l.length (cuesV l)) (hn : l.length ≤ 1048576) (ht : ∀ c ∈ l, c.2.2.size ≤ maxLen) :
    Calls Tryd.prog 11 #[.slice A l.length cap, .int .i64 num, .int .i64 den] w (Tracked (scaleL l num den) w) := spec_scale A cap l num den w hr hn ht

set_option maxHeartbeats 1000000 in
theorem impl_ScaleCues (A : Option Addr) (cap : Nat) (l : List CueD) (num den : Int) (w : World) (hr : Reads w w.heap.size 3 A l.length (cuesV l)) (hn : l.length ≤ 1048576) (ht : ∀ c ∈ l, c.2.2.size ≤ maxLen) (hf : Fits l) :
    Calls Tryd.prog 10 #[.slice A l.length cap, .int .i64 num, .int .i64 den] w (Tracked (scaleL l num den) w) := by
  have hmf : ∀ (fn : Fn) (first cap : Array Value) (w : World), (Instr.makeFunc fn first cap).run Tryd.prog w = .ok (.func fn first cap) w := fun _ _ _ _ => rfl
  have hb : Below w.heap.size w ((w.alloc (.cells #[.int .i64 num] 3)).alloc (.cells #[.int .i64 den] 3)) := ((Below.refl _ _).alloc (Nat.le_refl _) _).alloc (by simp) _
  have hc := timed_calls 32 #[.pointer (some ⟨w.heap.size, 0, none⟩), .pointer (some ⟨w.heap.size + 1, 0, none⟩)] (fun t => t * num / den) (inB num 1 1000 && inB den 1 1000) A cap l ((w.alloc (.cells #[.int .i64 num] 3)).alloc (.cells #[.int .i64 den] 3))
    (((hr.alloc (Nat.le_refl _) _).alloc (by simp) _).more (by simp; omega)) hn ht hf
    (fun args W => run_enter Tryd.func32 (by kernel_rfl) rfl args W)
    (fun hi t h0 h1 => by
      rw [Bool.and_eq_true, inB_iff, inB_iff] at hi
      obtain ⟨y1, y2, y3, y4⟩ := scale_bd h0 h1 hi.1.1 hi.1.2 hi.2.1
      omega)
    (fun hi t W h0 h1 hW => by
      rw [Bool.and_eq_true, inB_iff, inB_iff] at hi
      exact scale1_calls _ _ num den t W ((hW.cell (by simp; omega)).trans ((World.cell?_alloc_past _ _ _ (by simp)).trans (by simp [World.cell?_alloc_at]))) ((hW.cell (by simp)).trans (World.cell?_alloc_at _ _ _ _ (by simp))) h0 h1 hi.1.1 hi.1.2 hi.2.1 hi.2.2)
  have HC := Lib.hid hc
  clear hc
  cases hi : inB num 1 1000
  · rw [hi] at HC
    have HCC := Lib.hid HC.out
    clear HC
    go_enter Tryd.func10, Tryd.ntmps10
    go_wp2_with (go_at_call 31; refine (impl_in _ _ _ _).mono ?_; rintro e w' ⟨rfl, rfl⟩)
    refine HCC.out.mono ?_
    rintro e w1 ⟨v, rfl, hown, hb1⟩
    go_wp2
    go_ret2
    refine ⟨v, ?_, ⟨?_, hown.2⟩, hb.trans (hb1.mono hb.size)⟩
    · unfold scaleL; rw [hi]; rfl
    · unfold scaleL; rw [hi]; exact hown.1.base hb.size
  · rw [hi] at HC
    have HCC := Lib.hid HC.out
    clear HC
    go_enter Tryd.func10, Tryd.ntmps10
    go_wp2_with (go_at_call 31; refine (impl_in _ _ _ _).mono ?_; rintro e w' ⟨rfl, rfl⟩)
    refine HCC.out.mono ?_
    rintro e w1 ⟨v, rfl, hown, hb1⟩
    go_wp2
    go_ret2
    refine ⟨v, ?_, ⟨?_, hown.2⟩, hb.trans (hb1.mono hb.size)⟩
    · unfold scaleL; rw [hi]; rfl
    · unfold scaleL; rw [hi]; exact hown.1.base hb.size
end Go.Proofs.YtjdnmknegpikcaaDoor
