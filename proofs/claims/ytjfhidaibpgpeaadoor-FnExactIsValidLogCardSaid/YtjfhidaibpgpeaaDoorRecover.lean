/-
  The program's RecoverLog; whether two logs agree.
-/
import Derived.Test.YtjfhidaibpgpeaaDoorLogJ
namespace Go.Proofs.YtjfhidaibpgpeaaDoor
open Go.RowKit
set_option linter.unusedVariables false
set_option linter.unusedSimpArgs false
set_option maxRecDepth 100000

theorem starts_last {L : List UInt8} {n a : Nat} {es : List Int} (h : Opened L n a) (hl : es.length = n) (he : EndsOk L es) : ((0 : Int) :: es)[n]? = some (a : Int) := by
  cases n with
  | zero =>
    have := pos_one h.1 .zero
    subst this
    rfl
  | succ m =>
    rw [List.getElem?_cons_succ]
    obtain ⟨x, hx⟩ := some_at es (show m < es.length by omega)
    obtain ⟨p, rfl, hp⟩ := he m x hx
    rw [pos_one h.1 hp]
    exact hx
theorem ints_oneCell (es : List Int) : ∀ u ∈ ints es, u.oneCell' = true := by
  intro u hu
  obtain ⟨x, -, rfl⟩ := List.mem_map.1 hu
  rfl
theorem ints_consZ (es : List Int) : [Value.int .i64 0] ++ ints es = ints ((0 : Int) :: es) := rfl

set_option maxHeartbeats 4000000 in
theorem impl_RecoverLog (s : ByteArray) (w : World) (hs : s.size ≤ 1048576) (htab : Lib.TabIs Tryd.prog w "internal/strconv.uint64pow10" .u64 Lib.pow10Tab) (hm : MaxOk w) :
    Calls Tryd.prog 11 #[.string s] w (RecoverRes s w) := by
  have hb0 : Below w.heap.size w (w.alloc (.cells #[.string ⟨#[]⟩, .string ⟨#[]⟩, .int .i64 0] 31)) := (Below.refl _ _).alloc (Nat.le_refl _) _
  have t0 := Three.new w 31 (.string ⟨#[]⟩) (.string ⟨#[]⟩) (.int .i64 0)
  have HT := Lib.hid (show ∀ W, Below w.heap.size w W → Lib.TabIs Tryd.prog W "internal/strconv.uint64pow10" .u64 Lib.pow10Tab from fun W hb => Lib.tabBelow_of_tabIs htab W hb)
  have HM := Lib.hid (show ∀ W, Below w.heap.size w W → MaxOk W from fun W hb => hm.below hb)
  clear htab hm
  by_cases h3 : s.size ≤ 30000
  case neg =>
    have j1 : (30000 : Int) < (s.size : Int) := by omega
    have H3 := Lib.hid h3
    have r0 := t0.cell0
    have r1 := t0.cell1
    have r2 := t0.cell2
    have g0 := t0.free 0
    have g1 := t0.free 1
    have g2 := t0.free 2
    clear h3
    go_enter Tryd.func11, Tryd.ntmps11
    go_wp2_with fail
    generalize hWx : w.alloc (.cells #[.string ⟨#[]⟩, .string ⟨#[]⟩, .int .i64 0] 31) = wx at *
    clear hWx
    refine bodyPost_ret (v := .tuple #[.agg #[.string ⟨#[]⟩, .string ⟨#[]⟩, .int .i64 0], .int .i64 0, .bool false]) (by simp [results, go_sem, r0, r1, r2]) rfl ?_
    exact ⟨.inr ⟨H3.out, rfl⟩, hb0⟩
  have j1 : ¬ (30000 : Int) < (s.size : Int) := by omega
  go_enter Tryd.func11, Tryd.ntmps11
  go_wp2_with fail
  generalize hWx : w.alloc (.cells #[.string ⟨#[]⟩, .string ⟨#[]⟩, .int .i64 0] 31) = wx at *
  clear hWx
  refine (impl_read s _ (by omega) (HT.out _ hb0) (HM.out _ hb0)).mono ?_
  rintro e w1 ⟨A, cap, n, a, es, v, rfl, hop, hown, hel, hek, b1⟩
  have B1 := hb0.trans (b1.mono hb0.size)
  have t1 := t0.far b1
  obtain ⟨ha, ha2, hn60, -⟩ := pos_len hop.1
  rw [← size_data] at ha
  have HLAST := Lib.hid (starts_last hop hel hek)
  have HOP := Lib.hid hop
  obtain ⟨A1, c1, rfl, r1, -, -⟩ := hown.slice
  have hlit : (w1.alloc (.cells #[.int .i64 0] 3)).ownsRow w1.heap.size 3 1 (.slice (some ⟨w1.heap.size, 0, none⟩) 1 1) 1 [.int .i64 0] := by
    have h := World.ownsRow_lit (base := w1.heap.size) (e := 3) (size := 1) w1 #[.int .i64 0] 1 (Nat.le_refl _) (by unfold maxLen; omega) rfl
    simpa using h
  have bL : Below w1.heap.size w1 (w1.alloc (.cells #[.int .i64 0] 3)) := (Below.refl _ _).alloc (Nat.le_refl _) _
  have rL := r1.below bL
  have tL := t1.far bL
  have BL := B1.trans (bL.mono B1.size)
  have i0 : (0 : Int) ≤ (a : Int) := by omega
  have i1 : (a : Int) ≤ (s.size : Int) := by omega
  have n0 : (0 : Int) ≤ (n : Int) := by omega
  have n1 : (n : Int) < 1 + (n : Int) := by omega
  have n2 : n < 1 + n := by omega
  have hg := t1.lt
  clear hop hek r1
  go_wp2_with (at_builtin; refine wpList_append_src hlit bL.size rL (ints_oneCell es) (.tmp 17) (.tmp 18) 49 Tryd.underlying49 info_int (by omega) (by unfold maxLen; omega) ⟨rfl, rfl, rfl, rfl, rfl, by decide⟩ ?_; intro v3 w3 own3 b3; obtain ⟨g3, c3, rfl, -, -, -, -, -, hc3, -⟩ := (Own.of_row own3).open_ (by omega); have d3 : w3.cell? ⟨g3, n, none⟩ = some (.int .i64 a) := (hc3 n (by omega)).trans (by rw [ints_consZ]; exact ints_at _ HLAST.out); clear hc3; have t3 := tL.below b3 hg; have B3 := BL.trans (b3.mono B1.size); have r0 := t3.cell0; have r1 := t3.cell1; have r2 := t3.cell2; have g0 := t3.free 0; have g1 := t3.free 1; have g2 := t3.free 2)
  refine bodyPost_ret (v := .tuple #[.agg #[.string (s.extract 0 a), .string ⟨#[]⟩, .int .i64 n], .int .i64 a, .bool true]) (by simp [results, go_sem, (t3.setSelf (.string (s.extract 0 a)) (.string ⟨#[]⟩) (.int .i64 n)).cell0, (t3.setSelf (.string (s.extract 0 a)) (.string ⟨#[]⟩) (.int .i64 n)).cell1, (t3.setSelf (.string (s.extract 0 a)) (.string ⟨#[]⟩) (.int .i64 n)).cell2]) rfl ?_
  exact ⟨.inl ⟨h3, n, a, rfl, HOP.out⟩, below_store3 B3 (Nat.le_refl _) _ _ _⟩

/-! ### Two logs agree -/
set_option maxHeartbeats 1000000 in
theorem eqLog_same (D P : ByteArray) (n : Int) (w : World) : Calls Tryd.prog 12 #[.agg #[.string D, .string P, .int .i64 n], .agg #[.string D, .string P, .int .i64 n]] w fun e w' => e = .returned (.bool true) ∧ Below w.heap.size w w' := by
  go_enter Tryd.func12, Tryd.ntmps12
  go_wp2
  go_ret
  exact ⟨rfl, ((Below.refl _ _).alloc (Nat.le_refl _) _).alloc (by simp) _⟩
theorem recover_one {s : ByteArray} {w w' u u' : World} {x y : Ending} (h : RecoverRes s w x w') (h' : RecoverRes s u y u') : ∃ D n a b, x = .returned (.tuple #[.agg #[.string D, .string ⟨#[]⟩, .int .i64 n], .int .i64 a, .bool b]) ∧ y = .returned (.tuple #[.agg #[.string D, .string ⟨#[]⟩, .int .i64 n], .int .i64 a, .bool b]) := by
  rcases h.1 with ⟨h1, n, a, rfl, ho⟩ | ⟨h1, rfl⟩ <;> rcases h'.1 with ⟨h2, n', a', rfl, ho'⟩ | ⟨h2, rfl⟩
  · obtain ⟨rfl, rfl⟩ := opened_one ho ho'
    exact ⟨_, _, _, _, rfl, rfl⟩
  · exact absurd h1 h2
  · exact absurd h2 h1
  · exact ⟨_, _, _, _, rfl, rfl⟩
end Go.Proofs.YtjfhidaibpgpeaaDoor
