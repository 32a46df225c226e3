/-
  The reference's atoms: parsing one.
-/
import Derived.Test.YtekidodfcanjaaaGreatDoorAtomK
import Derived.Test.YtekidodfcanjaaaGreatDoorBase
namespace Go.Proofs.YtekidodfcanjaaaGreatDoor
open Go.RowKit
set_option linter.unusedVariables false
set_option maxRecDepth 100000

def AtomRes (s : ByteArray) (w : World) (e : Ending) (w' : World) : Prop :=
  ∃ (k : Int) (t : ByteArray), e = .returned (.tuple #[.agg #[.int .i64 k, .string t], .bool (atomB s)]) ∧ (atomB s = true → atomOk k t.data.toList = true ∧ noteL k t.data.toList = s.data.toList) ∧ Below w.heap.size w w'
set_option maxHeartbeats 4000000 in
theorem spec_ParseAtom (s : ByteArray) (w : World) (hs : s.size ≤ 1048576) : Calls Tryz.prog 116 #[.string s] w (AtomRes s w) := by
  obtain ⟨W1, hW1⟩ : ∃ W1, W1 = w.alloc (.cells #[.int .i64 0, .string ⟨#[]⟩] 129) := ⟨_, rfl⟩
  have hb1 : Below w.heap.size w W1 := by rw [hW1]; exact (Below.refl _ _).alloc (Nat.le_refl _) _
  have t1 : Two W1 w.heap.size 129 (.int .i64 0) (.string ⟨#[]⟩) := by rw [hW1]; exact Two.new w _ _ _
  go_enter Tryz.func116, Tryz.ntmps116
  go_wp2_with fail
  rw [← hW1]
  clear hW1
  refine (spec_l5Kind s _ hs).mono ?_
  rintro e w1 ⟨k, t, rfl, hk, htz, b1⟩
  have B1 := hb1.trans (b1.mono hb1.size)
  have t2 := t1.far b1
  have hts : t.size ≤ 1048576 := Nat.le_trans htz hs
  have HK := Lib.hid (atomL_kind (s := s.data.toList) (fun _ => hk))
  clear hk htz t1
  go_wp2_with fail
  have bx := (Below.refl w1.heap.size w1).alloc (Nat.le_refl _) (.cells #[.int .i64 k, .string t] 129)
  have t3 := t2.far bx
  have a1 := Two.new w1 129 (.int .i64 k) (.string t)
  generalize hX : w1.alloc (.cells #[.int .i64 k, .string t] 129) = x1 at *
  clear hX
  have B2 := B1.trans (bx.mono B1.size)
  refine (spec_l5Good k t _ hts).mono ?_
  rintro e w2 ⟨rfl, b2⟩
  have B3 := B2.trans (b2.mono B2.size)
  have t4 := t3.far b2
  have a2 := a1.far b2
  have hz2 : w.heap.size < w2.heap.size := t4.lt
  have hz3 : w1.heap.size < w2.heap.size := a2.lt
  have hne : w.heap.size < w1.heap.size := t2.lt
  have c1 := a2.cell0
  have c2 := a2.cell1
  have d1 := t4.cell0
  have d2 := t4.cell1
  have f1 := t4.free
  have HB := Lib.hid (fun u v => (B3.setCell (p := ⟨w.heap.size, 0, none⟩) (Nat.le_refl _) u).setCell (p := ⟨w.heap.size, 1, none⟩) (Nat.le_refl _) v)
  cases hg : atomOk k t.data.toList
  · have HN := Lib.hid (show atomB s = false by unfold atomB; rw [← HK.out, tryB, hg]; rfl)
    go_wp2
    exact bodyPost_ret (v := .tuple #[.agg #[.int .i64 0, .string ⟨#[]⟩], .bool false]) (by simp [results, go_sem, d1, d2]) rfl ⟨0, ⟨#[]⟩, by rw [HN.out], fun h => (by rw [HN.out] at h; cases h), HB.out _ _⟩
  · have HG := Lib.hid hg
    clear hg HB c1 c2 d1 d2 f1
    have c1 := a2.cell0
    have c2 := a2.cell1
    go_wp2_with fail
    refine (spec_l5Format k t _ hts).mono ?_
    rintro e w3 ⟨rfl, b3⟩
    have B4 := B3.trans (b3.mono B3.size)
    have t5 := t4.far b3
    have a3 := a2.far b3
    have hz4 : w.heap.size < w3.heap.size := t5.lt
    have hz5 : w1.heap.size < w3.heap.size := a3.lt
    clear c1 c2
    have c1 := a3.cell0
    have c2 := a3.cell1
    have d1 := t5.cell0
    have d2 := t5.cell1
    have f1 := t5.free
    have HB := Lib.hid (fun u v => (B4.setCell (p := ⟨w.heap.size, 0, none⟩) (Nat.le_refl _) u).setCell (p := ⟨w.heap.size, 1, none⟩) (Nat.le_refl _) v)
    by_cases hq : noteS k t = s
    · have HN := Lib.hid (show atomB s = true by unfold atomB; rw [← HK.out, tryB, HG.out, ← hq]; simp [noteS])
      have HQ := Lib.hid (show noteL k t.data.toList = s.data.toList by rw [← hq]; simp [noteS])
      have e1 : ((noteS k t).toList == s.toList) = true := by rw [str_beq, decide_eq_true hq]
      generalize noteS k t = ns at *
      clear hq
      go_wp2
      exact bodyPost_ret (v := .tuple #[.agg #[.int .i64 k, .string t], .bool true]) (by simp [results, go_sem, d1, d2]) rfl ⟨k, t, by rw [HN.out], fun _ => ⟨HG.out, HQ.out⟩, HB.out _ _⟩
    · have HN := Lib.hid (show atomB s = false by
        unfold atomB
        rw [← HK.out, tryB, HG.out, Bool.true_and]
        exact decide_eq_false (fun e => hq (by
          apply ByteArray.ext
          simp [noteS, e])))
      have e1 := str_other hq
      generalize noteS k t = ns at *
      clear hq
      go_wp2
      exact bodyPost_ret (v := .tuple #[.agg #[.int .i64 0, .string ⟨#[]⟩], .bool false]) (by simp [results, go_sem, d1, d2]) rfl ⟨0, ⟨#[]⟩, by rw [HN.out], fun h => (by rw [HN.out] at h; cases h), HB.out _ _⟩
end Go.Proofs.YtekidodfcanjaaaGreatDoor
