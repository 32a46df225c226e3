/-
  The program's FormatCues.
-/
import Derived.Test.YtjdnmknegpikcaaDoorCueTextPl
import Derived.Test.YtjdnmknegpikcaaDoorValid
import Derived.Test.YtjdnmknegpikcaaDoorPadded
import Derived.Deep.RegionHeld3
namespace Go.Proofs.YtjdnmknegpikcaaDoor
open Go.RowKit
set_option linter.unusedVariables false

/-- A cue in a block of its own, kept over calls and draws. -/
theorem hcue_step {w wx w1 : World} {g : Nat} {v0 v1 v2 : Value} (h : wx.cell? ⟨g, 0, none⟩ = some v0 ∧ wx.cell? ⟨g, 1, none⟩ = some v1 ∧ wx.cell? ⟨g, 2, none⟩ = some v2 ∧ Below w.heap.size w wx ∧ g < wx.heap.size) (hb : Below wx.heap.size wx w1) :
    w1.cell? ⟨g, 0, none⟩ = some v0 ∧ w1.cell? ⟨g, 1, none⟩ = some v1 ∧ w1.cell? ⟨g, 2, none⟩ = some v2 ∧ Below w.heap.size w w1 ∧ g < w1.heap.size :=
  ⟨(hb.cell (p := ⟨g, 0, none⟩) h.2.2.2.2).trans h.1, (hb.cell (p := ⟨g, 1, none⟩) h.2.2.2.2).trans h.2.1, (hb.cell (p := ⟨g, 2, none⟩) h.2.2.2.2).trans h.2.2.1, h.2.2.2.1.trans (hb.mono h.2.2.2.1.size), Nat.lt_of_lt_of_le h.2.2.2.2 hb.size⟩
theorem hcue_drew {w wx : World} {g : Nat} {v0 v1 v2 : Value} (h : wx.cell? ⟨g, 0, none⟩ = some v0 ∧ wx.cell? ⟨g, 1, none⟩ = some v1 ∧ wx.cell? ⟨g, 2, none⟩ = some v2 ∧ Below w.heap.size w wx ∧ g < wx.heap.size) :
    wx.drew.cell? ⟨g, 0, none⟩ = some v0 ∧ wx.drew.cell? ⟨g, 1, none⟩ = some v1 ∧ wx.drew.cell? ⟨g, 2, none⟩ = some v2 ∧ Below w.heap.size w wx.drew ∧ g < wx.drew.heap.size :=
  ⟨h.1, h.2.1, h.2.2.1, h.2.2.2.1.drew, h.2.2.2.2⟩
theorem hcue_below {w wx : World} {g : Nat} {v0 v1 v2 : Value} (h : wx.cell? ⟨g, 0, none⟩ = some v0 ∧ wx.cell? ⟨g, 1, none⟩ = some v1 ∧ wx.cell? ⟨g, 2, none⟩ = some v2 ∧ Below w.heap.size w wx ∧ g < wx.heap.size) : Below w.heap.size w wx := h.2.2.2.1

set_option maxHeartbeats 4000000 in
theorem impl_FormatCues_yes (A : Option Addr) (cap : Nat) (l : List CueD) (w : World) (hr : Reads w w.heap.size 3 A l.length (cuesV l)) (hn : l.length ≤ 1048576) (ht : ∀ c ∈ l, c.2.2.size ≤ maxLen) (hf : Fits l) (hv : validB l = true)
    (htab : Lib.TabIs Tryd.prog w "internal/strconv.uint64pow10" .u64 Lib.pow10Tab) :
    Calls Tryd.prog 12 #[.slice A l.length cap] w fun e w' => e = .returned (.tuple #[.string (textB l), .bool true]) ∧ Below w.heap.size w w' := by
  have h30 : l.length ≤ 30 := by simp only [validB, Bool.and_eq_true, decide_eq_true_eq] at hv; exact hv.1
  have HV := Lib.hid hv
  have HT := Lib.hid (Lib.tabBelow_of_tabIs htab)
  have HX := Lib.hid ht
  have HF := Lib.hid hf
  clear htab ht hf
  go_enter Tryd.func12, Tryd.ntmps12
  go_wp2_with fail
  refine (impl_IsValidCues A cap l _ hr hn HX.out HF.out).mono ?_
  rw [hv]
  clear hv
  rintro e w1 ⟨rfl, b1⟩
  have s1 := b1.size
  go_wp2
  go_loopw [4, 12] (fun o i wr => ∃ k : Nat, k ≤ l.length ∧ i = .int .i64 k ∧ o = .string (textB (l.take k)) ∧ Below w.heap.size w wr) (fun _ i _ => l.length - (intOf i).toNat)
  case atStart => exact ⟨0, Nat.zero_le _, rfl, rfl, b1⟩
  case round =>
    obtain ⟨k, hk, rfl, rfl, hb⟩ := hrel
    by_cases hlt : k < l.length
    · obtain ⟨b, off, rfl, hb0, hc⟩ := (hr.below hb).2 (by omega)
      obtain ⟨⟨s, e, t⟩, hx⟩ := some_at l hlt
      obtain ⟨c1, c2, c3⟩ := Reads.cue (B := 0) (n := 0) hc hx
      obtain ⟨v1, v2, v3, v4, -, v6⟩ := valid_at HV.out hx
      simp only at v1 v2 v3 v4
      obtain ⟨s, rfl⟩ : ∃ n : Nat, s = n := ⟨s.toNat, by omega⟩
      obtain ⟨e, rfl⟩ : ∃ n : Nat, e = n := ⟨e.toNat, by omega⟩
      have hs9 : s ≤ 99999999 := by omega
      have he9 : e ≤ 99999999 := by omega
      have hT := Lib.hid (text_take_succ hx)
      obtain ⟨T, hTT⟩ : ∃ T, T = textL (l.take k) := ⟨_, rfl⟩
      have hl0 := text_len HV.out k hk
      have t1 := time_len hs9
      have t2 := time_len he9
      have t3 := dec_len (k + 1)
      rw [← hTT] at hl0
      have q3 : ∀ wx, Below w.heap.size w wx → Calls Tryd.prog 36 #[.int .i64 ((k : Int) + 1)] wx fun e' w' => e' = .returned (.string ⟨(Lib.decDigits (k + 1)).toArray⟩) ∧ Below wx.heap.size wx w' := fun wx h => itoa_calls _ (k + 1) (by omega) _ (by omega) (HT.out _ h)
      have Q3 := Lib.hid q3
      have q2 : ∀ (z : Nat) wx, z ≤ 99999999 → Below w.heap.size w wx → Calls Tryd.prog 37 #[.int .i64 z] wx fun e' w' => e' = .returned (.string ⟨(timeOf z).toArray⟩) ∧ Below wx.heap.size wx w' := fun z wx hz h => impl_timeText z _ hz (HT.out _ h)
      have Q2 := Lib.hid q2
      have E : textB (l.take (k + 1)) = ⟨(T ++ (Lib.decDigits (k + 1) ++ [10] ++ timeOf s ++ [32, 45, 45, 62, 32] ++ timeOf e ++ [10] ++ t.data.toList ++ [10, 10])).toArray⟩ := by
        unfold textB
        rw [hT.out, cueText, ← hTT]
        simp only [List.append_assoc, Int.toNat_natCast]
      have HE := Lib.hid E
      have HTB := Lib.hid (show textB (l.take k) = ⟨T.toArray⟩ by rw [hTT]; rfl)
      rw [HTB.out]
      have i0 : (0 : Int) ≤ (k : Int) := by omega
      have i1 : (k : Int) < (l.length : Int) := by omega
      have ww1 : IntKind.i64.wrap ((k : Int) + 1) = (k : Int) + 1 := IntWalk.i64_in _ (by omega)
      have y2 : ¬ (9223372036854775807 < (Lib.decDigits (k + 1)).length + 1) := by omega
      have y2' : ¬ (9223372036854775806 < (Lib.decDigits (k + 1)).length) := by omega
      have y3 : ¬ (9223372036854775807 < (Lib.decDigits (k + 1)).length + 1 + (timeOf s).length) := by omega
      have y4 : ¬ (9223372036854775807 < (Lib.decDigits (k + 1)).length + 1 + (timeOf s).length + 5) := by omega
      have y4' : ¬ (9223372036854775802 < (Lib.decDigits (k + 1)).length + 1 + (timeOf s).length) := by omega
      have y5 : ¬ (9223372036854775807 < (Lib.decDigits (k + 1)).length + 1 + (timeOf s).length + 5 + (timeOf e).length) := by omega
      have y6 : ¬ (9223372036854775807 < (Lib.decDigits (k + 1)).length + 1 + (timeOf s).length + 5 + (timeOf e).length + 1) := by omega
      have y6' : ¬ (9223372036854775806 < (Lib.decDigits (k + 1)).length + 1 + (timeOf s).length + 5 + (timeOf e).length) := by omega
      have y7 : ¬ (9223372036854775807 < (Lib.decDigits (k + 1)).length + 1 + (timeOf s).length + 5 + (timeOf e).length + 1 + t.size) := by omega
      have y8 : ¬ (9223372036854775807 < (Lib.decDigits (k + 1)).length + 1 + (timeOf s).length + 5 + (timeOf e).length + 1 + t.size + 2) := by omega
      have y8' : ¬ (9223372036854775805 < (Lib.decDigits (k + 1)).length + 1 + (timeOf s).length + 5 + (timeOf e).length + 1 + t.size) := by omega
      have y9 : ¬ (9223372036854775807 < T.length + ((Lib.decDigits (k + 1)).length + 1 + (timeOf s).length + 5 + (timeOf e).length + 1 + t.size + 2)) := by omega
      have i2 : (k : Int) + 1 ≤ 30 := by omega
      have S0 : (wr.alloc (.cells #[.int .i64 (s : Int), .int .i64 (e : Int), .string t] 59)).cell? ⟨wr.heap.size, 0, none⟩ = some (.int .i64 (s : Int)) ∧ (wr.alloc (.cells #[.int .i64 (s : Int), .int .i64 (e : Int), .string t] 59)).cell? ⟨wr.heap.size, 1, none⟩ = some (.int .i64 (e : Int)) ∧ (wr.alloc (.cells #[.int .i64 (s : Int), .int .i64 (e : Int), .string t] 59)).cell? ⟨wr.heap.size, 2, none⟩ = some (.string t) ∧ Below w.heap.size w (wr.alloc (.cells #[.int .i64 (s : Int), .int .i64 (e : Int), .string t] 59)) ∧ wr.heap.size < (wr.alloc (.cells #[.int .i64 (s : Int), .int .i64 (e : Int), .string t] 59)).heap.size :=
        ⟨by rw [World.cell?_alloc_mark]; rfl, by rw [World.cell?_alloc_mark]; rfl, by rw [World.cell?_alloc_mark]; rfl, hb.alloc hb.size _, by simp⟩
      clear q3 q2 E hx hc hTT t1 t2 t3 hl0 v1 v2 v3
      go_wp2
      go_region_held3 (fun w' => w'.cell? ⟨wr.heap.size, 0, none⟩ = some (.int .i64 (s : Int)) ∧ w'.cell? ⟨wr.heap.size, 1, none⟩ = some (.int .i64 (e : Int)) ∧ w'.cell? ⟨wr.heap.size, 2, none⟩ = some (.string t) ∧ Below w.heap.size w w' ∧ wr.heap.size < w'.heap.size) (first | exact S0 | exact hcue_drew S0 | assumption | exact hcue_step (by assumption) (by assumption) | exact hcue_drew (by assumption)) (first | (go_at_call 36; refine (Q3.out _ (hcue_below (by assumption))).mono ?_; rintro e' w1 ⟨rfl, hb1⟩) | (go_at_call 37; refine (Q2.out _ _ (by assumption) (hcue_below (by assumption))).mono ?_; rintro e' w1 ⟨rfl, hb1⟩))
      clear ww1 y2 y2' y3 y4 y4' y5 y6 y6' y7 y8 y8' y9
      go_wp2
      go_roundw
      case rel => exact ⟨k + 1, by omega, by go_num, by
        rw [HE.out]
        refine congrArg Value.string ?_
        conv => lhs; rw [← mk_data t]
        simp only [bytes_add], hcue_below (by assumption)⟩
      case measure => simp [intOf]; omega
    · obtain rfl : k = l.length := by omega
      go_wp2
      refine bodyPost_ret (v := .tuple #[.string (textB (l.take l.length)), .bool true]) (by simp [results, go_sem]) rfl ?_
      exact ⟨by rw [take_all], hb⟩

set_option maxHeartbeats 1000000 in
theorem impl_FormatCues (A : Option Addr) (cap : Nat) (l : List CueD) (w : World) (hr : Reads w w.heap.size 3 A l.length (cuesV l)) (hn : l.length ≤ 1048576) (ht : ∀ c ∈ l, c.2.2.size ≤ maxLen) (hf : Fits l)
    (htab : Lib.TabIs Tryd.prog w "internal/strconv.uint64pow10" .u64 Lib.pow10Tab) :
    Calls Tryd.prog 12 #[.slice A l.length cap] w fun e w' => e = .returned (.tuple #[.string (formB l), .bool (validB l)]) ∧ Below w.heap.size w w' := by
  cases hv : validB l
  · have HS := Lib.hid (show formB l = ⟨#[]⟩ by simp [formB, hv])
    rw [HS.out]
    have HT := Lib.hid ht
    have HF := Lib.hid hf
    clear ht hf htab
    go_enter Tryd.func12, Tryd.ntmps12
    go_wp2_with fail
    refine (impl_IsValidCues A cap l _ hr hn HT.out HF.out).mono ?_
    rw [hv]
    rintro e w1 ⟨rfl, b1⟩
    go_wp2
    go_ret2
    exact ⟨rfl, b1⟩
  · rw [show formB l = textB l by simp [formB, hv]]
    exact impl_FormatCues_yes A cap l w hr hn ht hf hv htab
end Go.Proofs.YtjdnmknegpikcaaDoor
