/-
  The text of a transcript: both FormatTranscript.
-/
import Derived.Test.YtnndkdkmhjpcpaaDoorSpecText
namespace Go.Proofs.YtnndkdkmhjpcpaaDoor
open Go.RowKit
set_option linter.unusedVariables false
set_option maxRecDepth 100000

def lineT (c : TurnD) : List UInt8 := c.1.data.toList ++ ([58, 32] ++ (c.2.data.toList ++ [10]))
def formT (l : List TurnD) : List UInt8 := l.flatMap lineT
theorem formT_take_succ {l : List TurnD} {k : Nat} {c : TurnD} (h : l[k]? = some c) : formT (l.take (k + 1)) = formT (l.take k) ++ lineT c := by
  rw [take_succ_of h]
  simp [formT]
theorem turn_sizes {l : List TurnD} (hv : transB l = true) {k : Nat} {c : TurnD} (h : l[k]? = some c) : c.1.size ≤ 12 ∧ c.2.size ≤ 2000 := by
  have := trans_at hv h
  simp only [turnB, speakerB, textB, Bool.and_eq_true, inB_iff, decide_eq_true_eq] at this
  omega
theorem formT_len {l : List TurnD} (hv : transB l = true) : ∀ k, k ≤ l.length → (formT (l.take k)).length ≤ k * 2015 := by
  intro k
  induction k with
  | zero => intro _; simp [formT]
  | succ k ih =>
    intro hk
    obtain ⟨c, hc⟩ := some_at l (show k < l.length by omega)
    have h1 := turn_sizes hv hc
    have h2 := ih (by omega)
    have h3 : c.1.data.toList.length = c.1.size := rfl
    have h4 : c.2.data.toList.length = c.2.size := rfl
    rw [formT_take_succ hc]
    simp only [lineT, List.length_append, List.length_cons, List.length_nil]
    omega
def transText (l : List TurnD) : ByteArray := ⟨(formT l).toArray⟩
def formTB (l : List TurnD) : ByteArray := if transB l then transText l else ⟨#[]⟩
theorem text_line (T : List UInt8) (s t : ByteArray) : (⟨(T ++ lineT (s, t)).toArray⟩ : ByteArray) = ⟨T.toArray⟩ ++ (s ++ ⟨#[58, 32]⟩ ++ t ++ ⟨#[10]⟩) := by
  obtain ⟨⟨ls⟩⟩ := s
  obtain ⟨⟨lt⟩⟩ := t
  have e1 : (⟨#[58, 32]⟩ : ByteArray) = ⟨[58, 32].toArray⟩ := rfl
  have e2 : (⟨#[10]⟩ : ByteArray) = ⟨[10].toArray⟩ := rfl
  rw [e1, e2]
  simp only [bytes_mk, lineT, List.append_assoc]
theorem text_line2 (T : List UInt8) (s t : ByteArray) : (⟨(T ++ lineT (s, t)).toArray⟩ : ByteArray) = ⟨T.toArray⟩ ++ s ++ ⟨#[58, 32]⟩ ++ t ++ ⟨#[10]⟩ := by
  obtain ⟨⟨ls⟩⟩ := s
  obtain ⟨⟨lt⟩⟩ := t
  have e1 : (⟨#[58, 32]⟩ : ByteArray) = ⟨[58, 32].toArray⟩ := rfl
  have e2 : (⟨#[10]⟩ : ByteArray) = ⟨[10].toArray⟩ := rfl
  rw [e1, e2]
  simp only [bytes_mk, lineT, List.append_assoc]

set_option maxHeartbeats 4000000 in
theorem impl_FormatTranscript (A : Option Addr) (cap : Nat) (l : List TurnD) (w : World) (hr : Reads w w.heap.size 2 A l.length (turnsV l)) (hn : l.length ≤ 8388608) (ht : ShortT l) (hm : MaxOk w) :
    Calls Tryd.prog 11 #[.agg #[.slice A l.length cap]] w fun e w' => e = .returned (.tuple #[.string (formTB l), .bool (transB l)]) ∧ Below w.heap.size w w' := by
  have HT := Lib.hid ht
  clear ht
  have hb0 : Below w.heap.size w (w.alloc (.cells #[.slice A l.length cap] 26)) := (Below.refl _ _).alloc (Nat.le_refl _) _
  have hc0 : (w.alloc (.cells #[.slice A l.length cap] 26)).cell? ⟨w.heap.size, 0, none⟩ = some (.slice A l.length cap) := by simp [World.cell?_alloc_at]
  have hz0 : (⟨w.heap.size, 0, none⟩ : Addr).block < (w.alloc (.cells #[.slice A l.length cap] 26)).heap.size := by simp
  have HM := Lib.hid (hm.below hb0)
  clear hm
  cases hv : transB l
  · have HS := Lib.hid (show formTB l = ⟨#[]⟩ by simp [formTB, hv])
    rw [HS.out]
    go_enter Tryd.func11, Tryd.ntmps11
    go_wp2_with fail
    refine (impl_IsValidTranscript A cap l _ ((hr.below hb0).more hb0.size) hn HT.out HM.out).mono ?_
    rw [hv]
    rintro e w1 ⟨rfl, b1⟩
    go_wp2
    go_ret2
    exact ⟨rfl, hb0.trans (b1.mono hb0.size)⟩
  · have HS := Lib.hid (show formTB l = transText l by simp [formTB, hv])
    rw [HS.out]
    have h30 := trans_len hv
    have HV := Lib.hid hv
    go_enter Tryd.func11, Tryd.ntmps11
    go_wp2_with fail
    refine (impl_IsValidTranscript A cap l _ ((hr.below hb0).more hb0.size) hn HT.out HM.out).mono ?_
    rw [hv]
    clear hv
    rintro e w1 ⟨rfl, b1⟩
    have B1 := hb0.trans (b1.mono hb0.size)
    have c1 := (b1.cell hz0).trans hc0
    go_wp2
    go_loopw [4, 13] (fun o i wr => ∃ k : Nat, k ≤ l.length ∧ i = .int .i64 k ∧ o = .string (transText (l.take k)) ∧ Below w.heap.size w wr) (fun _ i _ => l.length - (intOf i).toNat)
    case atStart => exact ⟨0, Nat.zero_le _, rfl, rfl, B1⟩
    case round =>
      obtain ⟨k, hk, rfl, rfl, hb⟩ := hrel
      by_cases hlt : k < l.length
      · obtain ⟨b, off, hA, hb0', hc⟩ := (hr.below hb).2 (by omega)
        subst hA
        obtain ⟨⟨s, t⟩, hx⟩ := some_at l hlt
        obtain ⟨c1, c2⟩ := Reads.turn hc hx
        have hsz := turn_sizes HV.out hx
        simp only at hsz
        obtain ⟨z1, z2⟩ := hsz
        have hT := Lib.hid (formT_take_succ hx)
        obtain ⟨T, hTT⟩ : ∃ T, T = formT (l.take k) := ⟨_, rfl⟩
        have hl0 := formT_len HV.out k hk
        rw [← hTT] at hl0
        have HE := Lib.hid (show transText (l.take (k + 1)) = ⟨T.toArray⟩ ++ (s ++ ⟨#[58, 32]⟩ ++ t ++ ⟨#[10]⟩) by rw [← text_line, transText, hT.out, ← hTT])
        have HTB := Lib.hid (show transText (l.take k) = ⟨T.toArray⟩ by rw [hTT]; rfl)
        rw [HTB.out]
        have y2 : ¬ (9223372036854775805 < s.size) := by omega
        have y3 : ¬ (9223372036854775807 < s.size + 2) := by omega
        have y4 : ¬ (9223372036854775807 < s.size + 2 + t.size) := by omega
        have y5 : ¬ (9223372036854775806 < s.size + 2 + t.size) := by omega
        have y6 : ¬ (9223372036854775807 < s.size + 2 + t.size + 1) := by omega
        have y7 : ¬ (9223372036854775807 < T.length + (s.size + 2 + t.size + 1)) := by omega
        have hbn : Below w.heap.size w (wr.alloc (.cells #[.string s, .string t] 77)) := hb.alloc hb.size _
        clear hx hc hTT hl0
        go_wp2
        go_roundw
        case rel => exact ⟨k + 1, by omega, by go_num, congrArg Value.string HE.out.symm, hbn⟩
        case measure => simp [intOf]; omega
      · obtain rfl : k = l.length := by omega
        go_wp2
        refine bodyPost_ret (v := .tuple #[.string (transText (l.take l.length)), .bool true]) (by simp [results, go_sem]) rfl ?_
        exact ⟨by rw [take_all], hb⟩
end Go.Proofs.YtnndkdkmhjpcpaaDoor
