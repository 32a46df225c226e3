/-
  Contracts of the laws' helpers over cues.
-/
import Derived.Test.YtdogppoflfjigaaDoorCuesPl
import Derived.Test.YtdogppoflfjigaaDoorRows
namespace Go.Proofs.YtdogppoflfjigaaDoor
open Go.RowKit
set_option linter.unusedVariables false

theorem info_cue : (Tryd.prog.info? 52).map (fun i => (i.zero, i.size, i.bytes)) = some (some (.agg #[.int .i64 0, .int .i64 0, .string ⟨#[]⟩]), 3, 32) := by kernel_rfl

theorem toCue_calls (s e : Int) (t : ByteArray) (w : World) :
    Calls Tryd.prog 36 #[.agg #[.int .i64 s, .int .i64 e, .string t]] w fun e' w' => e' = .returned (.agg #[.int .i64 s, .int .i64 e, .string t]) ∧ Below w.heap.size w w' := by
  go_enter Tryd.func36, Tryd.ntmps36
  go_wp2
  exact bodyPost_ret (v := .agg #[.int .i64 s, .int .i64 e, .string t]) (by simp [results, go_sem]) rfl ⟨rfl, (((Below.refl _ _).alloc (Nat.le_refl _) _).alloc (by simp) _).alloc (by simp; omega) _⟩

def szLeft (n left : Int) : Int := if n ≤ left then left - n else -1
theorem szLeft_yes {n left : Int} (h : n ≤ left) : szLeft n left = left - n := if_pos h
theorem szLeft_no {n left : Int} (h : ¬ n ≤ left) : szLeft n left = -1 := if_neg h
theorem szCue_calls (s e : Int) (t : ByteArray) (left : Int) (w : World) (ht : t.size ≤ maxLen) (h0 : 0 ≤ left) (h1 : left ≤ 1048576) :
    Calls Tryd.prog 33 #[.agg #[.int .i64 s, .int .i64 e, .string t], .int .i64 left] w fun e' w' => e' = .returned (.int .i64 (szLeft t.size left)) ∧ Below w.heap.size w w' := by
  unfold maxLen at ht
  by_cases hl : (t.size : Int) ≤ left
  · have HL := Lib.hid (szLeft_yes hl)
    go_enter Tryd.func33, Tryd.ntmps33
    go_wp2
    go_ret
    exact ⟨ret_int HL.out.symm, (Below.refl _ _).alloc (Nat.le_refl _) _⟩
  · have HL := Lib.hid (szLeft_no hl)
    go_enter Tryd.func33, Tryd.ntmps33
    go_wp2
    go_ret
    exact ⟨ret_int HL.out.symm, (Below.refl _ _).alloc (Nat.le_refl _) _⟩

def total (l : List CueD) : Nat := (l.map fun c => c.2.2.size).sum
theorem total_take_succ {l : List CueD} {k : Nat} {c : CueD} (h : l[k]? = some c) : total (l.take (k + 1)) = total (l.take k) + c.2.2.size := by
  rw [List.take_add_one, h]
  simp [total]
def Small (l : List CueD) (left : Int) : Prop := (l.length : Int) + total l ≤ left
/-- What the law's size test tells. -/
def Sized (l : List CueD) (left : Int) (w : World) (e : Ending) (w' : World) : Prop := ∃ r : Int, e = .returned (.int .i64 r) ∧ (r < 0 ∨ 0 ≤ r ∧ Small l left) ∧ Below w.heap.size w w'

set_option maxHeartbeats 1000000 in
theorem szCueS_calls (A : Option Addr) (cap : Nat) (l : List CueD) (left : Int) (w : World) (hr : Reads w w.heap.size 3 A l.length (cuesV l)) (hn : l.length ≤ maxLen) (ht : ∀ c ∈ l, c.2.2.size ≤ maxLen) (h0 : 0 ≤ left) (h1 : left ≤ 1048576) :
    Calls Tryd.prog 10 #[.slice A l.length cap, .int .i64 left] w (Sized l left w) := by
  unfold maxLen at hn
  by_cases hl : (l.length : Int) ≤ left
  · go_enter Tryd.func10, Tryd.ntmps10
    go_wp2
    go_loopw [1, 5] (fun lv i wr => ∃ k : Nat, k ≤ l.length ∧ i = .int .i64 k ∧ (∃ r : Int, lv = .int .i64 r ∧ 0 ≤ r ∧ r = left - l.length - total (l.take k)) ∧ Below w.heap.size w wr) (fun _ i _ => l.length - (intOf i).toNat)
    case atStart => exact ⟨0, Nat.zero_le _, rfl, ⟨_, rfl, by omega, by simp [total]⟩, Below.refl _ _⟩
    case round =>
      obtain ⟨k, hk, rfl, ⟨r, rfl, hr0, hre⟩, hb⟩ := hrel
      have hr1 : r ≤ 1048576 := by omega
      have HR := Lib.hid hre
      clear hre
      by_cases hlt : k < l.length
      · obtain ⟨b, off, rfl, hb0, hc⟩ := (hr.below hb).2 (by omega)
        obtain ⟨⟨s, e, t⟩, hx⟩ := some_at l hlt
        obtain ⟨c1, c2, c3⟩ := Reads.cue (B := 0) (n := 0) hc hx
        have htt := ht _ (List.mem_of_getElem? hx)
        have HX := Lib.hid hx
        clear hx hc
        by_cases hs : (t.size : Int) ≤ r
        · have hsl := szLeft_yes hs
          have hs0 : 0 ≤ r - (t.size : Int) := by omega
          go_wp2_with fail
          refine (szCue_calls s e t r _ htt hr0 hr1).mono ?_
          rw [hsl]
          clear hsl
          rintro e1 w1 ⟨rfl, hb1⟩
          go_wp2
          go_roundw
          case rel => exact ⟨k + 1, by omega, by go_num, ⟨_, rfl, by omega, by rw [total_take_succ HX.out]; have := HR.out; simp; omega⟩, hb.trans (hb1.mono hb.size)⟩
          case measure => simp [intOf]; omega
        · have hsl := szLeft_no hs
          go_wp2_with fail
          refine (szCue_calls s e t r _ htt hr0 hr1).mono ?_
          rw [hsl]
          clear hsl
          rintro e1 w1 ⟨rfl, hb1⟩
          go_wp2
          go_ret
          exact ⟨-1, rfl, .inl (by omega), hb.trans (hb1.mono hb.size)⟩
      · obtain rfl : k = l.length := by omega
        go_wp2
        go_ret
        exact ⟨_, rfl, .inr ⟨hr0, by have := HR.out; rw [List.take_of_length_le (Nat.le_refl _)] at this; unfold Small; omega⟩, hb⟩
  · go_enter Tryd.func10, Tryd.ntmps10
    go_wp2
    go_ret
    exact ⟨-1, rfl, .inl (by omega), Below.refl _ _⟩

/-- The results of toCueS, copyOf and their kin: a copy in new memory. -/
def CopiedCues (l : List CueD) (w : World) (e : Ending) (w' : World) : Prop := ∃ v, e = .returned v ∧ Own w' w.heap.size w'.heap.size 52 3 v l.length (cuesV l) ∧ Below w.heap.size w w'

set_option maxHeartbeats 1000000 in
theorem toCueS_calls (A : Option Addr) (cap : Nat) (l : List CueD) (w : World) (hr : Reads w w.heap.size 3 A l.length (cuesV l)) (hn : l.length ≤ 1048576) :
    Calls Tryd.prog 12 #[.slice A l.length cap] w (CopiedCues l w) := by
  have hmk := run_make_rowN (P := Tryd.prog) 28 52 Tryd.underlying28 info_cue .i64 .i64 l.length l.length (Nat.le_refl _) (by omega) (by omega)
  go_enter Tryd.func12, Tryd.ntmps12
  go_wp2
  go_loopw [4] (fun i wr => ∃ k : Nat, k ≤ l.length ∧ i = .int .i64 k ∧ Own wr w.heap.size (w.heap.size + 1) 52 3 (.slice (some ⟨w.heap.size, 0, none⟩) l.length l.length) l.length (cuesV (fillC l k)) ∧ Below w.heap.size w wr ∧ w.heap.size < wr.heap.size)
    (fun i _ => l.length - (intOf i).toNat)
  case atStart =>
    refine ⟨0, Nat.zero_le _, rfl, ⟨?_, fun g hg => by simp [Value.ownBlock] at hg; omega⟩, (Below.refl _ _).alloc (Nat.le_refl _) _, by simp⟩
    rw [fillC_zero, ← made_cues]
    exact World.ownsRow_lit (base := w.heap.size) (e := 52) (size := 3) w (madeCells #[Value.int .i64 0, .int .i64 0, .string ⟨#[]⟩] (l.length * 3)) l.length (Nat.le_refl _) (by unfold maxLen; omega) (by simp [madeCells])
  case round =>
    obtain ⟨k, hk, rfl, hown, hb, hsz⟩ := hrel
    by_cases hlt : k < l.length
    · obtain ⟨b, off, rfl, hb0, hc⟩ := (hr.below hb).2 (by omega)
      obtain ⟨⟨s, e, t⟩, hx⟩ := some_at l hlt
      obtain ⟨c1, c2, c3⟩ := Reads.cue (B := 0) (n := 0) hc hx
      have HX := Lib.hid hx
      clear hx hc
      go_wp2_with fail
      refine (toCue_calls s e t _).mono ?_
      rintro e1 w1 ⟨rfl, hb1⟩
      have hown1 := hown.below hb1
      obtain ⟨h1, h2, h3⟩ := hown1.cue (fillC_at l hlt)
      have f1 : ∀ j, w1.frozen? ⟨w.heap.size, j, none⟩ = false := fun j => hown1.1.frozenAt j
      go_wp2
      go_roundw
      case rel => exact ⟨k + 1, by omega, by go_num, by rw [← fillC_set l HX.out]; exact hown1.setCue (by rw [fillC_length l hk]; exact hlt) (s, e, t), below_setCue (hb.trans (hb1.mono hb.size)) (Nat.le_refl _) _ _ _ _ _ _, by have := hb1.size; simp [World.setCell]; omega⟩
      case measure => simp [intOf]; omega
    · obtain rfl : k = l.length := by omega
      go_wp2
      go_ret
      exact ⟨_, rfl, ⟨by rw [← fillC_all l, fillC_length l (Nat.le_refl _)]; rw [fillC_all] at *; exact hown.1, fun g hg => (hown.1.lt g hg).2⟩, hb⟩
end Go.Proofs.YtdogppoflfjigaaDoor
