/-
  The reference recovers a log, and says whether one is valid.
-/
import Derived.Test.YtjfhidaibpgpeaaDoorLogO
namespace Go.Proofs.YtjfhidaibpgpeaaDoor
open Go.RowKit
set_option linter.unusedVariables false
set_option linter.unusedSimpArgs false
set_option maxRecDepth 100000

theorem below_store3 {w w2 : World} (B2 : Below w.heap.size w w2) {g : Nat} (hg : w.heap.size ≤ g) (u v x : Value) : Below w.heap.size w (((w2.setCell ⟨g, 0, none⟩ u).setCell ⟨g, 1, none⟩ v).setCell ⟨g, 2, none⟩ x) :=
  ((((Only.of_below (lo := w.heap.size) (hi := g + 1) B2).setCell (p := ⟨g, 0, none⟩) hg (by show g < g + 1; omega) u).setCell (p := ⟨g, 1, none⟩) hg (by show g < g + 1; omega) v).setCell (p := ⟨g, 2, none⟩) hg (by show g < g + 1; omega) x).below (Nat.le_refl _) (Nat.le_refl _)

/-- What both RecoverLog give. -/
def RecoverRes (s : ByteArray) (w : World) (x : Ending) (w' : World) : Prop :=
  ((s.size ≤ 30000 ∧ ∃ n a : Nat, x = .returned (.tuple #[.agg #[.string (s.extract 0 a), .string ⟨#[]⟩, .int .i64 n], .int .i64 a, .bool true]) ∧ Opened s.data.toList n a) ∨
    (¬ s.size ≤ 30000 ∧ x = .returned (.tuple #[.agg #[.string ⟨#[]⟩, .string ⟨#[]⟩, .int .i64 0], .int .i64 0, .bool false]))) ∧ Below w.heap.size w w'

set_option maxHeartbeats 4000000 in
theorem spec_RecoverLog (s : ByteArray) (w : World) (hs : s.size ≤ 1048576) : Calls Tryd.prog 10 #[.string s] w (RecoverRes s w) := by
  have hb0 : Below w.heap.size w (w.alloc (.cells #[.string ⟨#[]⟩, .string ⟨#[]⟩, .int .i64 0] 31)) := (Below.refl _ _).alloc (Nat.le_refl _) _
  have t0 := Three.new w 31 (.string ⟨#[]⟩) (.string ⟨#[]⟩) (.int .i64 0)
  by_cases h3 : s.size ≤ 30000
  case neg =>
    have j1 : (30000 : Int) < (s.size : Int) := by omega
    have H3 := Lib.hid h3
    have r0 := t0.cell0
    have r1 := t0.cell1
    have r2 := t0.cell2
    have g0 := t0.free 0
    have g1 := t0.free 1
    have g2 := t0.free 2
    clear h3
    go_enter Tryd.func10, Tryd.ntmps10
    go_wp2_with fail
    generalize hWx : w.alloc (.cells #[.string ⟨#[]⟩, .string ⟨#[]⟩, .int .i64 0] 31) = wx at *
    clear hWx
    refine bodyPost_ret (v := .tuple #[.agg #[.string ⟨#[]⟩, .string ⟨#[]⟩, .int .i64 0], .int .i64 0, .bool false]) (by simp [results, go_sem, r0, r1, r2]) rfl ?_
    exact ⟨.inr ⟨H3.out, rfl⟩, hb0⟩
  have j1 : ¬ (30000 : Int) < (s.size : Int) := by omega
  go_enter Tryd.func10, Tryd.ntmps10
  go_wp2_with fail
  generalize hWx : w.alloc (.cells #[.string ⟨#[]⟩, .string ⟨#[]⟩, .int .i64 0] 31) = wx at *
  clear hWx
  refine (spec_l24Open s _ hs).mono ?_
  rintro e w1 ⟨A, cap, n, a, rfl, hop, b1⟩
  have B1 := hb0.trans (b1.mono hb0.size)
  have t1 := t0.far b1
  have r0 := t1.cell0
  have r1 := t1.cell1
  have r2 := t1.cell2
  have g0 := t1.free 0
  have g1 := t1.free 1
  have g2 := t1.free 2
  obtain ⟨ha, ha2, -, -⟩ := pos_len hop.1
  rw [← size_data] at ha
  have HOP := Lib.hid hop
  have i0 : (0 : Int) ≤ (a : Int) := by omega
  have i1 : (a : Int) ≤ (s.size : Int) := by omega
  clear hop
  go_wp2
  refine bodyPost_ret (v := .tuple #[.agg #[.string (s.extract 0 a), .string ⟨#[]⟩, .int .i64 n], .int .i64 a, .bool true]) (by simp [results, go_sem, (t1.setSelf (.string (s.extract 0 a)) (.string ⟨#[]⟩) (.int .i64 n)).cell0, (t1.setSelf (.string (s.extract 0 a)) (.string ⟨#[]⟩) (.int .i64 n)).cell1, (t1.setSelf (.string (s.extract 0 a)) (.string ⟨#[]⟩) (.int .i64 n)).cell2]) rfl ?_
  exact ⟨.inl ⟨h3, n, a, rfl, HOP.out⟩, below_store3 B1 (Nat.le_refl _) _ _ _⟩

/-! ### Valid logs -/
theorem logOk_iff {D P : List UInt8} {cnt : Int} {n1 a1 n2 a2 : Nat} (h1 : Opened (D ++ P) n1 a1) (h2 : Opened D n2 a2) : LogOk D P cnt ↔ a1 = D.length + P.length ∧ a2 = D.length ∧ (n1 : Int) = cnt := by
  have hD : (D ++ P).take D.length = D := by simp
  have hw := opened_whole (s := D ++ P) (m := D.length) (n := n2) (a := a2) (by simp) (by rw [hD]; exact h2)
  constructor
  · rintro ⟨n, hn, hc, hj⟩
    obtain ⟨rfl, ha⟩ := opened_one h1 hn
    exact ⟨by rw [ha, List.length_append], hw.2 hj, hc⟩
  · rintro ⟨ha, hb, hc⟩
    exact ⟨n1, by rw [List.length_append, ← ha]; exact h1, hc, hw.1 hb⟩
def LogRes (D P : ByteArray) (cnt : Int) (w : World) (x : Ending) (w' : World) : Prop := ∃ b : Bool, x = .returned (.bool b) ∧ (b = true ↔ LogOk D.data.toList P.data.toList cnt) ∧ Below w.heap.size w w'
theorem add_data (D P : ByteArray) : (D ++ P).data.toList = D.data.toList ++ P.data.toList := by
  obtain ⟨⟨d⟩⟩ := D
  obtain ⟨⟨p⟩⟩ := P
  rw [show (⟨⟨d⟩⟩ : ByteArray) ++ ⟨⟨p⟩⟩ = ⟨(d ++ p).toArray⟩ from bytes_add d p]

set_option maxHeartbeats 4000000 in
theorem spec_l24Log (D P : ByteArray) (cnt : Int) (w : World) (hD : D.size ≤ 1048576) (hP : P.size ≤ 1048576) : Calls Tryd.prog 26 #[.agg #[.string D, .string P, .int .i64 cnt]] w (LogRes D P cnt w) := by
  have hb0 : Below w.heap.size w (w.alloc (.cells #[.string D, .string P, .int .i64 cnt] 31)) := (Below.refl _ _).alloc (Nat.le_refl _) _
  have t0 := Three.new w 31 (.string D) (.string P) (.int .i64 cnt)
  by_cases h3 : D.size + P.size ≤ 30000
  case neg =>
    have j1 : (30000 : Int) < (D.size : Int) + (P.size : Int) := by omega
    have HNO := Lib.hid (show false = true ↔ LogOk D.data.toList P.data.toList cnt from ⟨fun h => (by cases h), fun h => by
      have := logOk_short h
      rw [← size_data, ← size_data] at this
      omega⟩)
    clear h3
    go_enter Tryd.func26, Tryd.ntmps26
    go_wp2
    go_ret
    exact ⟨_, rfl, HNO.out, hb0⟩
  have j1 : ¬ (30000 : Int) < (D.size : Int) + (P.size : Int) := by omega
  have y1 : ¬ (9223372036854775807 < D.size + P.size) := by omega
  have c0 := t0.cell0
  have c1 := t0.cell1
  go_enter Tryd.func26, Tryd.ntmps26
  go_wp2_with fail
  generalize hWx : w.alloc (.cells #[.string D, .string P, .int .i64 cnt] 31) = wx at *
  clear hWx
  have hDP : (D ++ P).size = D.size + P.size := ByteArray.size_append
  refine (spec_l24Open (D ++ P) _ (by omega)).mono ?_
  rintro e w1 ⟨A, cap, n1, a1, rfl, hop, b1⟩
  have B1 := hb0.trans (b1.mono hb0.size)
  have t1 := t0.far b1
  have HOP := Lib.hid hop
  clear hop c0 c1 hDP
  have c0 := t1.cell0
  go_wp2_with fail
  refine (spec_l24Open D _ hD).mono ?_
  rintro e w2 ⟨A2, cap2, n2, a2, rfl, hop2, b2⟩
  have B2 := B1.trans (b2.mono B1.size)
  have t2 := t1.far b2
  have HIF := Lib.hid (logOk_iff (cnt := cnt) (by rw [← add_data]; exact HOP.out) hop2)
  clear hop2 c0
  have c0 := t2.cell0
  have c1 := t2.cell1
  have c2 := t2.cell2
  by_cases e1 : a1 = D.size + P.size
  case neg =>
    have q1 : ((a1 : Int) == (D.size : Int) + (P.size : Int)) = false := by rw [beq_eq_false_iff_ne]; omega
    have HNO := Lib.hid (show false = true ↔ LogOk D.data.toList P.data.toList cnt by rw [HIF.out]; exact ⟨fun h => (by cases h), fun h => absurd h.1 e1⟩)
    clear e1
    go_wp2
    go_ret
    exact ⟨_, rfl, HNO.out, B2⟩
  have q1 : ((a1 : Int) == (D.size : Int) + (P.size : Int)) = true := by rw [beq_iff_eq]; omega
  have E1 := Lib.hid e1
  clear e1
  by_cases e2 : a2 = D.size
  case neg =>
    have q2 : ((a2 : Int) == (D.size : Int)) = false := by rw [beq_eq_false_iff_ne]; omega
    have HNO := Lib.hid (show false = true ↔ LogOk D.data.toList P.data.toList cnt by rw [HIF.out]; exact ⟨fun h => (by cases h), fun h => absurd h.2.1 e2⟩)
    clear e2
    go_wp2
    go_ret
    exact ⟨_, rfl, HNO.out, B2⟩
  have q2 : ((a2 : Int) == (D.size : Int)) = true := by rw [beq_iff_eq]; omega
  have E2 := Lib.hid e2
  clear e2
  by_cases e3 : (n1 : Int) = cnt
  case neg =>
    have q3 : ((n1 : Int) == cnt) = false := by rw [beq_eq_false_iff_ne]; omega
    have HNO := Lib.hid (show false = true ↔ LogOk D.data.toList P.data.toList cnt by rw [HIF.out]; exact ⟨fun h => (by cases h), fun h => absurd h.2.2 e3⟩)
    clear e3
    go_wp2
    go_ret
    exact ⟨_, rfl, HNO.out, B2⟩
  have q3 : ((n1 : Int) == cnt) = true := by rw [beq_iff_eq]; omega
  have HYES := Lib.hid (show LogOk D.data.toList P.data.toList cnt by rw [HIF.out]; exact ⟨E1.out, E2.out, e3⟩)
  clear e3
  go_wp2
  go_ret
  exact ⟨_, rfl, ⟨fun _ => HYES.out, fun _ => rfl⟩, B2⟩

theorem spec_IsValidLog (D P : ByteArray) (cnt : Int) (w : World) (hD : D.size ≤ 1048576) (hP : P.size ≤ 1048576) : Calls Tryd.prog 14 #[.agg #[.string D, .string P, .int .i64 cnt]] w (LogRes D P cnt w) := by
  have hb0 : Below w.heap.size w (w.alloc (.cells #[.string D, .string P, .int .i64 cnt] 31)) := (Below.refl _ _).alloc (Nat.le_refl _) _
  go_enter Tryd.func14, Tryd.ntmps14
  go_wp2_with fail
  refine (spec_l24Log D P cnt _ hD hP).mono ?_
  rintro e w1 ⟨b, rfl, hb, b1⟩
  have HB := Lib.hid hb
  clear hb
  go_wp2
  go_ret
  exact ⟨b, rfl, HB.out, hb0.trans (b1.mono (by simp))⟩
end Go.Proofs.YtjfhidaibpgpeaaDoor
