/-
  The reference opens a log.
-/
import Derived.Test.YtjfhidaibpgpeaaDoorLogS
import Derived.Test.YtjfhidaibpgpeaaDoorRowsSS
namespace Go.Proofs.YtjfhidaibpgpeaaDoor
open Go.RowKit
set_option linter.unusedVariables false
set_option linter.unusedSimpArgs false
set_option maxRecDepth 100000

theorem info_rec : (Tryd.prog.info? 27).map (fun i => (i.zero, i.size, i.bytes)) = some (some (.agg #[.string ⟨#[]⟩, .string ⟨#[]⟩]), 2, 32) := by kernel_rfl
theorem rows_far2 {w : World} {b b' s s' n n' : Nat} {e e' : TypeId} {v v' : Value} {xs xs' : List Value} (h : w.ownsRow b e s v n xs) (h' : w.ownsRow b' e' s' v' n' xs') (he : e ≠ e') : ∀ g, v.ownBlock = some g → v'.ownBlock ≠ some g := by
  intro g hg hg'
  rcases h.2 with ⟨rfl, _⟩ | ⟨g1, cap, cur, rfl, _, hh, _⟩
  · simp [Value.ownBlock] at hg
  rcases h'.2 with ⟨rfl, _⟩ | ⟨g2, cap', cur', rfl, _, hh', _⟩
  · simp [Value.ownBlock] at hg'
  simp only [Value.ownBlock, Option.some.injEq] at hg hg'
  subst hg hg'
  rw [hh] at hh'
  injection hh' with hh'
  injection hh' with h1 h2
  exact he h2

theorem rows_keep {w : World} {b b' s s' n n' : Nat} {e e' : TypeId} {v v' : Value} {xs xs' : List Value} (h : w.ownsRow b e s v n xs) (h' : w.ownsRow b' e' s' v' n' xs') (he : e ≠ e') : v.ownBlock = none ∨ v.ownBlock ≠ v'.ownBlock := by
  cases hv : v.ownBlock with
  | none => exact .inl rfl
  | some g => exact .inr (fun h2 => rows_far2 h h' he g hv h2.symm)
/-- What opening gives: a slice of as many records as were read, and where they end. -/
def OpenRes (L : List UInt8) (w : World) (x : Ending) (w' : World) : Prop :=
  ∃ (A : Option Addr) (cap n a : Nat), x = .returned (.tuple #[.slice A n cap, .int .i64 a]) ∧ Opened L n a ∧ Below w.heap.size w w'
theorem no_next_end {L : List UInt8} {n a : Nat} (h : Pos L n a) (ha : L.length ≤ a) : ∀ d, ¬ Next n (L.drop a) d := by
  intro d hd
  have := next_pos hd
  simp only [List.length_drop] at this
  omega
theorem no_next_full {L : List UInt8} {a : Nat} : ∀ d, ¬ Next 60 (L.drop a) d := by
  intro d hd
  have := (next_pos hd).2.2.2
  omega

set_option maxHeartbeats 4000000 in
theorem spec_l24Open (s : ByteArray) (w : World) (hs : s.size ≤ 1048576) : Calls Tryd.prog 24 #[.string s] w (OpenRes s.data.toList w) := by
  go_enter Tryd.func24, Tryd.ntmps24
  go_wp2
  go_loopw [4, 5] (fun v i wr => ∃ (n a : Nat) (xs : List Value), i = .int .i64 a ∧ wr.ownsRow w.heap.size 27 2 v n xs ∧ Pos s.data.toList n a ∧ Below w.heap.size w wr) (fun _ i _ => s.size - (intOf i).toNat)
  case atStart => exact ⟨0, 0, [], rfl, World.ownsRow_made _ _ _ (Nat.le_refl _) (by simp) rfl, .zero, (Below.refl _ _).alloc (Nat.le_refl _) _⟩
  case round =>
    obtain ⟨n, a, xs, rfl, hown, hpos, hb⟩ := hrel
    have hsz := hb.size
    obtain ⟨ha, ha2, hn60, hna⟩ := pos_len hpos
    rw [← size_data] at ha
    have HPOS := Lib.hid hpos
    obtain ⟨A0, c0, rfl, -, -, -⟩ := (Own.of_row hown).slice
    by_cases hlt : a < s.size
    case neg =>
      obtain rfl : a = s.size := by omega
      have HO := Lib.hid (show Opened s.data.toList n s.size from ⟨hpos, no_next_end hpos (Nat.le_refl _)⟩)
      clear hpos
      go_wp2
      go_ret2
      exact ⟨_, _, _, _, rfl, HO.out, hb⟩
    by_cases hn : n < 60
    case neg =>
      obtain rfl : n = 60 := by omega
      have HO := Lib.hid (show Opened s.data.toList 60 a from ⟨hpos, no_next_full⟩)
      clear hpos
      go_wp2
      go_ret2
      exact ⟨_, _, _, _, rfl, HO.out, hb⟩
    obtain ⟨U, hU⟩ : ∃ U : ByteArray, U = s.extract a s.size := ⟨_, rfl⟩
    have hUl : U.data.toList = s.data.toList.drop a := by rw [hU, extract_drop]
    have hUs : U.size ≤ s.size := by rw [size_data, size_data, hUl]; simp
    obtain ⟨T, hT⟩ : ∃ T : ByteArray, T = ⟨((parts 10 U.data.toList).headD []).toArray⟩ := ⟨_, rfl⟩
    have hT0 : (partsV 10 U)[0]? = some T := by rw [partsV_zero, hT]
    have hTl : T.data.toList = (parts 10 U.data.toList).headD [] := by rw [hT]
    have hTs : T.size ≤ U.size := by rw [size_data, size_data, hTl]; exact head_len 10 _
    have HYES := Lib.hid (show 2 ≤ (partsV 10 U).length → Dec n T.data.toList → Next n (s.data.toList.drop a) (T.size + 1) from fun h1 h2 => by
      rw [partsV_len] at h1
      rw [hTl] at h2
      have h := next_yes_parts h1 h2
      rwa [← hTl, hUl] at h)
    have HNO := Lib.hid (show ¬ (2 ≤ (partsV 10 U).length ∧ Dec n T.data.toList) → Opened s.data.toList n a from fun h => ⟨hpos, by
      rw [← hUl]
      exact next_no_parts (by rwa [← hTl, ← partsV_len])⟩)
    have hp0 := partsV_pos 10 U
    have hpm := partsV_most 10 U
    have HP0 := Lib.hid hT0
    have HU := Lib.hid hU
    have i0 : (0 : Int) ≤ (a : Int) := by omega
    have i1 : (a : Int) ≤ (s.size : Int) := by omega
    clear hT hT0 hTl hU hUl hpos
    go_wp2_with fail
    rw [← HU.out]
    refine (spec_l1Split U _ 10 rfl _ (by omega)).mono ?_
    rintro e w2 ⟨v2, rfl, o2, b2⟩
    obtain ⟨g2, c2, rfl, -, -, hg2, -, -, hc2, -⟩ := o2.open_ hp0
    have B2 := hb.trans (b2.mono hb.size)
    have own2 := row_below hown b2
    have row2 := o2.1
    have d2 : w2.cell? ⟨g2, 0, none⟩ = some (.string T) := (hc2 0 (by omega)).trans (strsV_at HP0.out)
    have p0 : (0 : Int) < ((partsV 10 U).length : Int) := by omega
    clear hc2
    go_wp2_with fail
    refine (spec_l24Read T n _ (by omega) (by omega)).mono ?_
    rintro e w3 ⟨⟨Q, R⟩, b, rfl, hbd, b3⟩
    have B3 := B2.trans (b3.mono B2.size)
    have own3 := row_below own2 b3
    have row3 := row_below row2 b3
    have hsz3 := B3.size
    have HBD := Lib.hid hbd
    clear hbd d2
    by_cases h2 : 2 ≤ (partsV 10 U).length
    case neg =>
      have j1 : ((partsV 10 U).length : Int) < 2 := by omega
      have HO := Lib.hid (HNO.out fun h => h2 h.1)
      have hbE := B3.alloc B3.size (.cells #[.string Q, .string R] 27)
      go_wp2
      go_ret2
      exact ⟨_, _, _, _, rfl, HO.out, hbE⟩
    have j1 : ¬ ((partsV 10 U).length : Int) < 2 := by omega
    cases b
    · have HO := Lib.hid (HNO.out fun h => by have := HBD.out.2 h.2; cases this)
      have hbE := B3.alloc B3.size (.cells #[.string Q, .string R] 27)
      go_wp2
      go_ret2
      exact ⟨_, _, _, _, rfl, HO.out, hbE⟩
    have HN := Lib.hid (HYES.out h2 (HBD.out.1 rfl))
    have tE := Two.new w3 27 (.string Q) (.string R)
    have own4 := own3.alloc (.cells #[.string Q, .string R] 27)
    have row4 := row3.alloc (.cells #[.string Q, .string R] 27)
    have B4 := B3.alloc B3.size (.cells #[.string Q, .string R] 27)
    have e0 := tE.cell0
    have e1 := tE.cell1
    have HFAR := Lib.hid (rows_far2 row4 own4 (by decide) g2 rfl)
    have ms1 : n + 1 ≤ maxLen := by unfold maxLen; omega
    have hcl := (row4.lt g2 rfl).2
    go_wp2_with (at_builtin; refine wpList_append_twoG own4 B4.size (.tmp 39) (.tmp 41) 46 Tryd.underlying46 info_rec (by omega) ms1 ⟨rfl, rfl, rfl, rfl, rfl, rfl, rfl⟩ (by simp) ?_; intro v6 w6 own6 hg6; have row6 := row4.kept hg6 (.inr (fun h => HFAR.out h.symm)); have d6 : w6.cell? ⟨g2, 0, none⟩ = some (.string T) := (row6.cellAt 0 (by omega)).trans (strsV_at HP0.out))
    go_roundw
    case rel => exact ⟨n + 1, a + (T.size + 1), _, by go_num, own6, .next HPOS.out HN.out, below_grown B4 hg6 B4.size own4 rfl (Nat.le_refl _)⟩
    case measure => simp [intOf]; omega
end Go.Proofs.YtjfhidaibpgpeaaDoor
