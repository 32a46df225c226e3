/-
  The program's ParseTranscript.
-/
import Derived.Test.YtnndkdkmhjpcpaaDoorParsePl
import Derived.Test.YtnndkdkmhjpcpaaDoorBase
import Derived.Test.YtnndkdkmhjpcpaaDoorTurns
namespace Go.Proofs.YtnndkdkmhjpcpaaDoor
open Go.RowKit
set_option linter.unusedVariables false
set_option maxRecDepth 100000

def cut1 (X : ByteArray) (sep : Array UInt8) : ByteArray := ⟨(Lib.cut X.data.toList sep.toList).1.toArray⟩
def cut2 (X : ByteArray) (sep : Array UInt8) : ByteArray := ⟨(Lib.cut X.data.toList sep.toList).2.1.toArray⟩
def cut3 (X : ByteArray) (sep : Array UInt8) : Bool := (Lib.cut X.data.toList sep.toList).2.2
theorem cut1_size (X : ByteArray) (sep : Array UInt8) : (cut1 X sep).size ≤ X.size := cut_len1 _ _
theorem cut2_size (X : ByteArray) (sep : Array UInt8) : (cut2 X sep).size ≤ X.size := cut_len2 _ _
theorem impl_Cut (X : ByteArray) (sep : Array UInt8) (w : World) (hs : X.size ≤ 4194304) (hm : MaxOk w) :
    Calls Tryd.prog 49 #[.string X, .string ⟨sep⟩] w fun e w' => e = .returned (.tuple #[.string (cut1 X sep), .string (cut2 X sep), .bool (cut3 X sep)]) ∧ Below w.heap.size w w' := by
  obtain ⟨m, hm⟩ := hm
  refine (Tryd.strings_Cut X ⟨sep⟩ m w (by omega) hm).mono ?_
  rintro e w1 ⟨rfl, n, rfl⟩
  exact ⟨rfl, below_drewN (Below.refl _ _) n⟩
theorem ne_empty {x : ByteArray} (hz : x.size ≠ 0) : (!x.toList.isEmpty) = true := by
  rw [ByteArray.toList_eq]
  obtain ⟨⟨l⟩⟩ := x
  cases l with
  | nil => exact absurd rfl hz
  | cons a l => rfl
def strLen1 : Value → Nat
  | .string s => s.size
  | _ => 0

/-- What both ParseTranscript give. -/
def ParseRes (s : ByteArray) (w : World) (e : Ending) (w' : World) : Prop :=
  ∃ (l : List TurnD) (v : Value), (s.size ≤ 20000 ∧ transB l = true ∧ transText l = s ∧ e = .returned (.tuple #[.agg #[v], .bool true]) ∨ (s.size ≤ 20000 → ∀ m, transB m = true → transText m ≠ s) ∧ l = [] ∧ e = .returned (.tuple #[.agg #[v], .bool false])) ∧
    Own w' w.heap.size w'.heap.size 77 2 v l.length (turnsV l) ∧ Below w.heap.size w w'

set_option maxHeartbeats 4000000 in
theorem impl_ParseTranscript (s : ByteArray) (w : World) (hs : s.size ≤ 4194304) (hm : MaxOk w) : Calls Tryd.prog 12 #[.string s] w (ParseRes s w) := by
  by_cases h2 : s.size ≤ 20000
  · have HM := Lib.hid hm
    clear hm
    obtain ⟨W3, hW3⟩ : ∃ W3, W3 = ((w.alloc (.cells #[.slice none 0 0] 26)).alloc (.cells #[] 77)).alloc (.cells #[.slice (some ⟨w.heap.size + 1, 0, none⟩) 0 0] 26) := ⟨_, rfl⟩
    have hb3 : Below w.heap.size w W3 := by rw [hW3]; exact (((Below.refl _ _).alloc (Nat.le_refl _) _).alloc (by simp) _).alloc (by simp; omega) _
    have hs1 : W3.heap.size = w.heap.size + 3 := by rw [hW3]; simp
    have boxR : Box W3 w.heap.size 26 (.slice none 0 0) := by rw [hW3]; exact ((Box.new w _ _).alloc _).alloc _
    have boxB : Box W3 (w.heap.size + 1 + 1) 26 (.slice (some ⟨w.heap.size + 1, 0, none⟩) 0 0) := by
      rw [hW3]
      have h := Box.new ((w.alloc (.cells #[.slice none 0 0] 26)).alloc (.cells #[] 77)) 26 (.slice (some ⟨w.heap.size + 1, 0, none⟩) 0 0)
      rwa [show ((w.alloc (.cells #[.slice none 0 0] 26)).alloc (.cells #[] 77)).heap.size = w.heap.size + 1 + 1 by simp] at h
    have hown3 : W3.ownsRow w.heap.size 77 2 (.slice (some ⟨w.heap.size + 1, 0, none⟩) 0 0) 0 [] := by
      rw [hW3]
      refine ⟨rfl, .inr ⟨w.heap.size + 1, 0, #[], rfl, by omega, ?_, Nat.le_refl _, by unfold maxLen; omega, rfl, rfl⟩⟩
      have h := heap_alloc2_new w (.cells #[.slice none 0 0] 26) (.cells #[] 77)
      rw [heap_alloc_old _ _ (by simp)]
      exact h
    have HS1 := Lib.hid hs1
    clear hs1
    go_enter Tryd.func12, Tryd.ntmps12
    go_wp2
    rw [← hW3]
    clear hW3
    go_loopw [5] (fun r wr => ∃ (X : ByteArray) (l' : List TurnD) (v : Value), r = .string X ∧ X.size ≤ 20000 ∧ l'.length ≤ 31 ∧ (∀ c ∈ l', c.1.size ≤ 4194304 ∧ c.2.size ≤ 4194304) ∧ Box wr w.heap.size 26 (.slice none 0 0) ∧ Box wr (w.heap.size + 1 + 1) 26 v ∧
      wr.ownsRow w.heap.size 77 2 v l'.length (turnsV l') ∧ Reading s l' X.data.toList ∧ Below w.heap.size w wr) (fun r _ => strLen1 r)
    case atStart => exact ⟨s, [], _, rfl, h2, by simp, by simp, boxR, boxB, hown3, reading_start s, hb3⟩
    case round =>
      obtain ⟨X, l', v, rfl, hX, hl, hsh, bR, bB, hown, hrd, hb⟩ := hrel
      have HRD := Lib.hid hrd
      have HSH := Lib.hid hsh
      have hsz := hb.size
      have cB := bB.cell
      have nB := bB.ne_own hown (by decide)
      have nR := bR.ne_own hown (by decide)
      have HNB := Lib.hid nB
      have HNR := Lib.hid nR
      have hMw := Lib.hid (HM.out.below hb)
      clear hrd hsh nB nR boxR boxB hown3
      by_cases hgo : X.size ≠ 0 ∧ l'.length ≤ 30
      · obtain ⟨hz, h30⟩ := hgo
        have e1 := ne_empty hz
        have e2 : X.toList.isEmpty = false := by simpa using e1
        have e3 : ¬ X.toList = [] := by simpa using e1
        have HZ := Lib.hid hz
        have i1 : (l'.length : Int) ≤ 30 := by omega
        have hc2 := cut2_size X #[10]
        have hlt : (cut2 X #[10]).size < X.size := cut_less (fun h => hz (by show X.data.toList.length = 0; rw [h]; rfl)) (by simp)
        have hc1 := cut1_size X #[10]
        have hc3 := cut1_size (cut1 X #[10]) #[58, 32]
        have hc4 := cut2_size (cut1 X #[10]) #[58, 32]
        obtain ⟨A1, k1, hv1, -, -, -⟩ := (Own.of_row hown).slice
        subst hv1
        clear hz
        go_wp2_with fail
        refine (impl_Cut X #[10] _ (by omega) hMw.out).mono ?_
        rintro e w1 ⟨rfl, b1⟩
        go_wp2_with fail
        refine (impl_Cut (cut1 X #[10]) #[58, 32] _ (by omega) (hMw.out.below b1)).mono ?_
        rintro e w2 ⟨rfl, b2⟩
        have b12 := b1.trans (b2.mono b1.size)
        have bR2 := bR.far b12
        have bB2 := bB.far b12
        have hown2 := ((Own.of_row hown).below b12).1
        have cB2 := bB2.cell
        have hs2 : w.heap.size ≤ w2.heap.size := Nat.le_trans hsz b12.size
        clear cB
        go_wp2_with (at_builtin; refine wpList_append_twoG hown2 hs2 (.tmp 42) (.tmp 46) 24 Tryd.underlying24 info_turn (by omega) (by unfold maxLen; omega) ⟨rfl, rfl, rfl, rfl, rfl, rfl, rfl⟩ (by simp) ?_; intro v3 w3 hown3 hg3; obtain ⟨A3, k3, hv3, -, -, -⟩ := (Own.of_row hown3).slice; subst hv3; have bB3 := bB2.grown hg3 HNB.out; have bR3 := bR2.grown hg3 HNR.out; have cB3 := bB3.cell; have fB3 := bB3.free)
        have hb3' := below_grown (hb.trans (b12.mono hsz)) hg3 hs2 hown2 rfl (Nat.le_refl _)
        go_roundw
        case rel => exact ⟨cut2 X #[10], l' ++ [(cut1 (cut1 X #[10]) #[58, 32], cut2 (cut1 X #[10]) #[58, 32])], _, rfl, by omega, by simp; omega, fun c hc => by
          rcases List.mem_append.1 hc with h | h
          · exact HSH.out c h
          · simp at h; subst h; exact ⟨by show (cut1 (cut1 X #[10]) #[58, 32]).size ≤ _; omega, by show (cut2 (cut1 X #[10]) #[58, 32]).size ≤ _; omega⟩, bR3.setOther (by show w.heap.size + 1 + 1 ≠ w.heap.size; omega) _, bB3.set_ _,
          by rw [turnsV_snoc, List.length_append]; exact ownsRow_setCell_other hown3 (bB3.ne_own hown3 (by decide)) _, reading_step HRD.out (fun h => HZ.out (by show X.data.toList.length = 0; rw [h]; rfl)), hb3'.setCell (by show w.heap.size ≤ w.heap.size + 1 + 1; omega) _⟩
        case measure => simp [strLen1]; omega
      · have hend : X.data.toList = [] ∨ 30 < l'.length := by
          rcases Nat.eq_zero_or_pos X.size with h | h
          · exact .inl (List.eq_nil_of_length_eq_zero h)
          · exact .inr (by omega)
        have HNX := Lib.hid (show ∀ m, transB m = true → transText m = s → l' = m from fun m hm hms => reading_end HRD.out hend hm hms)
        obtain ⟨A1, k1, hv1, Rd, -, -⟩ := (Own.of_row hown).slice
        subst hv1
        have HGO := Lib.hid hgo
        clear hgo hend
        rcases Nat.eq_zero_or_pos X.size with hz | hz
        · have hz2 : X = ⟨#[]⟩ := size_zero.1 hz
          subst hz2
          clear hz
          cases hv : transB l'
          · go_wp2_with fail
            refine (impl_FormatTranscript A1 k1 l' _ Rd (by omega) HSH.out hMw.out).mono ?_
            rw [hv]
            rintro e w1 ⟨rfl, b1⟩
            have bR1 := bR.far b1
            have cR := bR1.cell
            have fR := bR1.free
            go_wp2
            refine bodyPost_ret (v := .tuple #[.agg #[.slice none 0 0], .bool false]) (by simp [results, go_sem, cR]) rfl ?_
            exact ⟨[], _, .inr ⟨(fun _ m hm hms => by rw [HNX.out m hm hms, hm] at hv; cases hv), rfl, rfl⟩, Own.none_, (hb.trans (b1.mono hsz)).setCell (by exact Nat.le_refl _) _⟩
          · have HTB := Lib.hid (show formTB l' = transText l' by simp [formTB, hv])
            have HV := Lib.hid hv
            by_cases ht : transText l' = s
            · have HTT := Lib.hid ht
              go_wp2_with fail
              refine (impl_FormatTranscript A1 k1 l' _ Rd (by omega) HSH.out hMw.out).mono ?_
              rw [hv, HTB.out, ht]
              clear hv ht
              rintro e w1 ⟨rfl, b1⟩
              have bR1 := bR.far b1
              have bB1 := bB.far b1
              have cR := bR1.cell
              have fR := bR1.free
              have cB1 := bB1.cell
              have hown1 := ((Own.of_row hown).below b1).1
              go_wp2
              refine bodyPost_ret (v := .tuple #[.agg #[.slice A1 l'.length k1], .bool true]) (by simp [results, go_sem, cR]) rfl ?_
              exact ⟨l', _, .inl ⟨h2, HV.out, HTT.out, rfl⟩, Own.of_row (ownsRow_setCell_other hown1 HNR.out _), (hb.trans (b1.mono hsz)).setCell (by exact Nat.le_refl _) _⟩
            · have hne : ((transText l').toList == s.toList) = false := by rw [str_beq]; exact decide_eq_false ht
              have HTT := Lib.hid (show ∀ m, transB m = true → transText m ≠ s from fun m hm hms => ht (by rw [HNX.out m hm hms]; exact hms))
              go_wp2_with fail
              refine (impl_FormatTranscript A1 k1 l' _ Rd (by omega) HSH.out hMw.out).mono ?_
              rw [hv, HTB.out]
              clear hv ht
              rintro e w1 ⟨rfl, b1⟩
              generalize transText l' = TX at *
              have bR1 := bR.far b1
              have cR := bR1.cell
              have fR := bR1.free
              go_wp2
              refine bodyPost_ret (v := .tuple #[.agg #[.slice none 0 0], .bool false]) (by simp [results, go_sem, cR]) rfl ?_
              exact ⟨[], _, .inr ⟨fun _ => HTT.out, rfl, rfl⟩, Own.none_, (hb.trans (b1.mono hsz)).setCell (by exact Nat.le_refl _) _⟩
        · have e1 := ne_empty (show X.size ≠ 0 by omega)
          have e2 : X.toList.isEmpty = false := by simpa using e1
          have e3 : ¬ X.toList = [] := by simpa using e1
          have i1 : ¬ (l'.length : Int) ≤ 30 := by have := HGO.out; omega
          cases hv : transB l'
          · go_wp2_with fail
            refine (impl_FormatTranscript A1 k1 l' _ Rd (by omega) HSH.out hMw.out).mono ?_
            rw [hv]
            rintro e w1 ⟨rfl, b1⟩
            have bR1 := bR.far b1
            have cR := bR1.cell
            have fR := bR1.free
            go_wp2
            refine bodyPost_ret (v := .tuple #[.agg #[.slice none 0 0], .bool false]) (by simp [results, go_sem, cR]) rfl ?_
            exact ⟨[], _, .inr ⟨(fun _ m hm hms => by rw [HNX.out m hm hms, hm] at hv; cases hv), rfl, rfl⟩, Own.none_, (hb.trans (b1.mono hsz)).setCell (by exact Nat.le_refl _) _⟩
          · have HTB := Lib.hid (show formTB l' = transText l' by simp [formTB, hv])
            have HV := Lib.hid hv
            by_cases ht : transText l' = s
            · have HTT := Lib.hid ht
              go_wp2_with fail
              refine (impl_FormatTranscript A1 k1 l' _ Rd (by omega) HSH.out hMw.out).mono ?_
              rw [hv, HTB.out, ht]
              clear hv ht
              rintro e w1 ⟨rfl, b1⟩
              have bR1 := bR.far b1
              have bB1 := bB.far b1
              have cR := bR1.cell
              have fR := bR1.free
              have cB1 := bB1.cell
              have hown1 := ((Own.of_row hown).below b1).1
              go_wp2
              refine bodyPost_ret (v := .tuple #[.agg #[.slice A1 l'.length k1], .bool true]) (by simp [results, go_sem, cR]) rfl ?_
              exact ⟨l', _, .inl ⟨h2, HV.out, HTT.out, rfl⟩, Own.of_row (ownsRow_setCell_other hown1 HNR.out _), (hb.trans (b1.mono hsz)).setCell (by exact Nat.le_refl _) _⟩
            · have hne : ((transText l').toList == s.toList) = false := by rw [str_beq]; exact decide_eq_false ht
              have HTT := Lib.hid (show ∀ m, transB m = true → transText m ≠ s from fun m hm hms => ht (by rw [HNX.out m hm hms]; exact hms))
              go_wp2_with fail
              refine (impl_FormatTranscript A1 k1 l' _ Rd (by omega) HSH.out hMw.out).mono ?_
              rw [hv, HTB.out]
              clear hv ht
              rintro e w1 ⟨rfl, b1⟩
              generalize transText l' = TX at *
              have bR1 := bR.far b1
              have cR := bR1.cell
              have fR := bR1.free
              go_wp2
              refine bodyPost_ret (v := .tuple #[.agg #[.slice none 0 0], .bool false]) (by simp [results, go_sem, cR]) rfl ?_
              exact ⟨[], _, .inr ⟨fun _ => HTT.out, rfl, rfl⟩, Own.none_, (hb.trans (b1.mono hsz)).setCell (by exact Nat.le_refl _) _⟩
  · have HN := Lib.hid h2
    have i1 : (20000 : Int) < (s.size : Int) := by omega
    have hs' : s.size ≤ 9223372036854775807 := by omega
    go_enter Tryd.func12, Tryd.ntmps12
    go_wp2
    refine bodyPost_ret (v := .tuple #[.agg #[.slice none 0 0], .bool false]) (by simp [results, go_sem]) rfl ?_
    exact ⟨[], _, .inr ⟨fun h => absurd h HN.out, rfl, rfl⟩, Own.none_, (Below.refl _ _).alloc (Nat.le_refl _) _⟩
end Go.Proofs.YtnndkdkmhjpcpaaDoor
