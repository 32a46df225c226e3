/-
  The law FnExactParseTranscript returns true for every string: its walk over the contracts.
-/
import Derived.Test.YtffhbhlljdimbaaDoorSpecParse
import Derived.Test.YtffhbhlljdimbaaDoorMarkTurn
namespace Go.Proofs.YtffhbhlljdimbaaDoor
open Go.RowKit
set_option linter.unusedVariables false
set_option maxRecDepth 100000

/-- What parsing gives is one thing. -/
theorem parse_fixed (s : ByteArray) : ∃ (b : Bool) (L : List TurnD), L.length ≤ 30 ∧ (b = true → transB L = true ∧ transText L = s) ∧ (b = false → L = [] ∧ (s.size ≤ 20000 → ∀ m, transB m = true → transText m ≠ s)) ∧
    ∀ w e w', ParseRes s w e w' → ∃ A cap, e = .returned (.tuple #[.agg #[.slice A L.length cap], .bool b]) ∧ Own w' w.heap.size w'.heap.size 81 2 (.slice A L.length cap) L.length (turnsV L) ∧ Below w.heap.size w w' := by
  by_cases h : s.size ≤ 20000 ∧ ∃ m, transB m = true ∧ transText m = s
  · obtain ⟨h1, m, h2, h3⟩ := h
    refine ⟨true, m, trans_len h2, fun _ => ⟨h2, h3⟩, (fun h => by cases h), fun w e w' ⟨l, v, hlv, ho, hb⟩ => ?_⟩
    rcases hlv with ⟨_, h5, h6, h7⟩ | ⟨h5, _, _⟩
    · have hlm := transText_inj h5 h2 (h6.trans h3.symm)
      subst hlm
      obtain ⟨A, cap, rfl, -, -, -⟩ := ho.slice
      exact ⟨A, cap, h7, ho, hb⟩
    · exact absurd h3 (h5 h1 m h2)
  · refine ⟨false, [], by simp, (fun h => by cases h), fun _ => ⟨rfl, fun h1 m h2 h3 => h ⟨h1, m, h2, h3⟩⟩, fun w e w' ⟨l, v, hlv, ho, hb⟩ => ?_⟩
    rcases hlv with ⟨h4, h5, h6, h7⟩ | ⟨_, h6, h7⟩
    · exact absurd ⟨h4, l, h5, h6⟩ h
    · subst h6
      obtain ⟨A, cap, rfl, -, -, -⟩ := ho.slice
      exact ⟨A, cap, h7, ho, hb⟩

set_option maxHeartbeats 4000000 in
theorem law_ParseTranscript (s : ByteArray) (W : World) (hs : s.size ≤ 9223372036854775807) (hm : MaxOk W) :
    Calls Tryd.prog 5 #[.string s] W fun e W' => e = .returned (.bool true) ∧ Below W.heap.size W W' := by
  by_cases hbig : s.size ≤ 1048576
  · obtain ⟨b, L, hL, -, -, hP⟩ := parse_fixed s
    have HP := Lib.hid hP
    have HM := Lib.hid hm
    clear hP hm
    go_enter Tryd.func5, Tryd.ntmps5
    go_wp2_with fail
    refine ((spec_ParseTranscript s _ (by omega)).mono fun e w' h => HP.out _ _ _ h).mono ?_
    rintro e w1 ⟨A0, c0, rfl, o0, b1⟩
    have s1 := b1.size
    have n0 := Box.new w1 29 (.slice A0 L.length c0)
    have a1 : Below w1.heap.size w1 (w1.alloc (.cells #[.slice A0 L.length c0] 29)) := (Below.refl _ _).alloc (Nat.le_refl _) _
    have z1 : (w1.alloc (.cells #[.slice A0 L.length c0] 29)).heap.size = w1.heap.size + 1 := by simp
    have B1 := b1.trans (a1.mono s1)
    have p1 := o0.below a1
    have m1 := Lib.hid (HM.out.below B1)
    go_wp2_with fail
    generalize hW1 : w1.alloc (.cells #[.slice A0 L.length c0] 29) = x1 at *
    clear hW1
    refine ((impl_ParseTranscript s _ (by omega) m1.out).mono fun e w' h => HP.out _ _ _ h).mono ?_
    rintro e w2 ⟨A1, c1, rfl, o1, b2⟩
    have s2 := b2.size
    have n0b := n0.far b2
    have n1 := Box.new w2 29 (.slice A1 L.length c1)
    have a2 : Below w2.heap.size w2 (w2.alloc (.cells #[.slice A1 L.length c1] 29)) := (Below.refl _ _).alloc (Nat.le_refl _) _
    have z2 : (w2.alloc (.cells #[.slice A1 L.length c1] 29)).heap.size = w2.heap.size + 1 := by simp
    have B2 := (B1.trans (b2.mono (by omega))).trans (a2.mono (by omega))
    have p0 := (p1.below b2).below a2
    have q1 := o1.below a2
    have n0c := n0b.far a2
    have d0 := n0c.cell
    have d1 := n1.cell
    clear n0 n0b
    go_wp2_with fail
    generalize hW2 : w2.alloc (.cells #[.slice A1 L.length c1] 29) = x2 at *
    clear hW2
    refine (eqTranscript_calls A1 A0 c1 c0 L L _ (Reads.of_own q1.1) (Reads.of_own p0.1) (by omega)).mono ?_
    rintro e w3 ⟨rfl, b3⟩
    have s3 := b3.size
    have n0d := n0c.far b3
    have n1d := n1.far b3
    have e0 := n0d.cell
    have e1 := n1d.cell
    have q2 := q1.below b3
    have p2 := p0.below b3
    have B3 := B2.trans (b3.mono (by omega))
    clear d0 d1 n0c n1
    go_wp2_with fail
    refine (markTranscript_calls x1.heap.size w2.heap.size _ L 1 _ ⟨q2.1, q2.2⟩ (by omega) (by omega) (by omega)).mono ?_
    rintro e w4 ⟨rfl, q3, ho4⟩
    have s4 := ho4.size
    have n0e := n0d.only ho4 (.inl (by omega))
    have n1e := n1d.only ho4 (.inr (Nat.le_refl _))
    have p3 := p2.only ho4 (.inl (by omega))
    have f0 := n0e.cell
    have f1 := n1e.cell
    have B4 := B3.trans (ho4.below (by omega) (by omega))
    clear e0 e1 n0d n1d
    go_wp2_with fail
    have r3 := Reads.of_own q3.1
    refine (heldTranscript_calls A1 c1 L.length 1 _ r3 (by omega) (by omega)).mono ?_
    rintro e w5 ⟨rfl, b5⟩
    have s5 := b5.size
    have n0f := n0e.far b5
    have n1f := n1e.far b5
    have g0 := n0f.cell
    have g1 := n1f.cell
    have q4 := q3.below b5
    have p4 := p3.below b5
    have B5 := B4.trans (b5.mono (by omega))
    have m5 := Lib.hid (HM.out.below B5)
    have i1 : ¬ (1 : Int) + 2 * (L.length : Int) < 0 := by omega
    clear f0 f1 n0e n1e
    go_wp2_with fail
    refine ((impl_ParseTranscript s _ (by omega) m5.out).mono fun e w' h => HP.out _ _ _ h).mono ?_
    rintro e w6 ⟨A2, c2, rfl, o2, b6⟩
    have s6 := b6.size
    have n2 := Box.new w6 29 (.slice A2 L.length c2)
    have a6 : Below w6.heap.size w6 (w6.alloc (.cells #[.slice A2 L.length c2] 29)) := (Below.refl _ _).alloc (Nat.le_refl _) _
    have b66 := b6.trans (a6.mono s6)
    have B6 := B5.trans (b66.mono (by omega))
    have n0g := n0f.far b66
    have n1g := n1f.far b66
    have h0 := n0g.cell
    have h1 := n1g.cell
    have h2 := n2.cell
    have p5 := p4.below b66
    have q5 := q4.below b66
    have o3 := o2.below a6
    have z6 : (w6.alloc (.cells #[.slice A2 L.length c2] 29)).heap.size = w6.heap.size + 1 := by simp
    clear g0 g1 n0f n1f
    go_wp2_with fail
    generalize hW6 : w6.alloc (.cells #[.slice A2 L.length c2] 29) = x6 at *
    clear hW6
    refine (eqTranscript_calls A2 A0 c2 c0 L L _ (Reads.of_own o3.1) (Reads.of_own p5.1) (by omega)).mono ?_
    rintro e w7 ⟨rfl, b7⟩
    have n1h := n1g.far b7
    have k1 := n1h.cell
    have q6 := q5.below b7
    have B7 := B6.trans (b7.mono (by omega))
    have s7 := b7.size
    clear h0 h1 h2 n0g n1g
    go_wp2_with fail
    refine (heldTranscript_calls A1 c1 L.length 1 _ (Reads.of_own q6.1) (by omega) (by omega)).mono ?_
    rintro e w8 ⟨rfl, b8⟩
    go_wp2
    go_ret
    exact ⟨rfl, B7.trans (b8.mono (by omega))⟩
  · have i1 : (1048576 : Int) < (s.size : Int) := by omega
    go_enter Tryd.func5, Tryd.ntmps5
    go_wp2
    go_ret
    exact ⟨rfl, Below.refl _ _⟩
end Go.Proofs.YtffhbhlljdimbaaDoor
