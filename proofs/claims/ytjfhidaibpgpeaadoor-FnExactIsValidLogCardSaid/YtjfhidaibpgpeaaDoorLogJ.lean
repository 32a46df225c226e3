/-
  The program reads all records of a log; it recovers one.
-/
import Derived.Test.YtjfhidaibpgpeaaDoorLogI
import Derived.Test.YtjfhidaibpgpeaaDoorBase
namespace Go.Proofs.YtjfhidaibpgpeaaDoor
open Go.RowKit
set_option linter.unusedVariables false
set_option linter.unusedSimpArgs false
set_option maxRecDepth 100000

/-- Where the records end. -/
def EndsOk (L : List UInt8) (es : List Int) : Prop := ∀ (j : Nat) (x : Int), es[j]? = some x → ∃ p : Nat, x = p ∧ Pos L (j + 1) p
theorem endsOk_nil (L : List UInt8) : EndsOk L [] := fun j x h => by simp at h
theorem endsOk_snoc {L : List UInt8} {es : List Int} {a : Nat} (h : EndsOk L es) (hp : Pos L (es.length + 1) a) : EndsOk L (es ++ [(a : Int)]) := by
  intro j x hx
  rcases Nat.lt_or_ge j es.length with hj | hj
  · rw [List.getElem?_append_left hj] at hx
    exact h j x hx
  · rw [List.getElem?_append_right hj] at hx
    have h0 : j - es.length = 0 := by
      rcases Nat.eq_zero_or_pos (j - es.length) with h0 | h0
      · exact h0
      · rw [List.getElem?_eq_none (by simp; omega)] at hx; cases hx
    rw [h0] at hx
    simp only [List.getElem?_cons_zero, Option.some.injEq] at hx
    exact ⟨a, hx.symm, by rw [show j = es.length by omega]; exact hp⟩
def ReadRes (L : List UInt8) (w : World) (x : Ending) (w' : World) : Prop :=
  ∃ (A : Option Addr) (cap n a : Nat) (es : List Int) (v : Value), x = .returned (.tuple #[.slice A n cap, v]) ∧ Opened L n a ∧ Own w' w.heap.size w'.heap.size 3 1 v n (ints es) ∧ es.length = n ∧ EndsOk L es ∧ Below w.heap.size w w'

set_option maxHeartbeats 4000000 in
theorem impl_read (s : ByteArray) (w : World) (hs : s.size ≤ 4194304) (htab : Lib.TabIs Tryd.prog w "internal/strconv.uint64pow10" .u64 Lib.pow10Tab) (hm : MaxOk w) :
    Calls Tryd.prog 25 #[.string s] w (ReadRes s.data.toList w) := by
  have HT := Lib.hid (show ∀ W, Below w.heap.size w W → Lib.TabIs Tryd.prog W "internal/strconv.uint64pow10" .u64 Lib.pow10Tab from fun W hb => Lib.tabBelow_of_tabIs htab W hb)
  have HM := Lib.hid (show ∀ W, Below w.heap.size w W → MaxOk W from fun W hb => hm.below hb)
  clear htab hm
  have B0 : Below w.heap.size w ((w.alloc (.cells #[] 27)).alloc (.cells #[] 3)) := ((Below.refl _ _).alloc (Nat.le_refl _) _).alloc (by simp) _
  have o1 : ((w.alloc (.cells #[] 27)).alloc (.cells #[] 3)).ownsRow w.heap.size 27 2 (.slice (some ⟨w.heap.size, 0, none⟩) 0 0) 0 [] := (World.ownsRow_made _ _ _ (Nat.le_refl _) (by simp) rfl).alloc _
  have o2 : ((w.alloc (.cells #[] 27)).alloc (.cells #[] 3)).ownsRow w.heap.size 3 1 (.slice (some ⟨w.heap.size + 1, 0, none⟩) 0 0) 0 [] := by
    have h := World.ownsRow_made (base := w.heap.size) (e := 3) (size := 1) (w.alloc (.cells #[] 27)) #[] 0 (by simp) (by simp) rfl
    simpa using h
  go_enter Tryd.func25, Tryd.ntmps25
  go_wp2
  go_loopw [4, 5, 6] (fun v ev i wr => ∃ (n a : Nat) (xs : List Value) (es : List Int), i = .int .i64 a ∧ wr.ownsRow w.heap.size 27 2 v n xs ∧ wr.ownsRow w.heap.size 3 1 ev n (ints es) ∧ es.length = n ∧ EndsOk s.data.toList es ∧ Pos s.data.toList n a ∧ Below w.heap.size w wr) (fun _ _ i _ => s.size - (intOf i).toNat)
  case atStart => exact ⟨0, 0, [], [], rfl, o1, o2, rfl, endsOk_nil _, .zero, B0⟩
  case round =>
    obtain ⟨n, a, xs, es, rfl, hown, hends, hel, hek, hpos, hb⟩ := hrel
    obtain ⟨ha, ha2, hn60, hna⟩ := pos_len hpos
    rw [← size_data] at ha
    have HPOS := Lib.hid hpos
    have HEK := Lib.hid hek
    have HEL := Lib.hid hel
    obtain ⟨A0, c0, rfl, -, -, -⟩ := (Own.of_row hown).slice
    obtain ⟨U, hU⟩ : ∃ U : ByteArray, U = s.extract a s.size := ⟨_, rfl⟩
    have hUl : U.data.toList = s.data.toList.drop a := by rw [hU, extract_drop]
    have hUs : U.size ≤ s.size := by rw [size_data, size_data, hUl]; simp
    have HU := Lib.hid hU
    have HUL := Lib.hid hUl
    have i0 : (0 : Int) ≤ (a : Int) := by omega
    have i1 : (a : Int) ≤ (s.size : Int) := by omega
    clear hU hUl hpos hek hel
    go_wp2_with fail
    rw [← HU.out]
    refine (impl_decode n U _ (by omega) (HT.out _ hb) (HM.out _ hb)).mono ?_
    rintro e w2 ⟨⟨Q, R⟩, d, b, rfl, hbd, b2⟩
    have B2 := hb.trans (b2.mono hb.size)
    have own2 := row_below hown b2
    have ends2 := row_below hends b2
    rcases hbd with ⟨rfl, hnx⟩ | ⟨rfl, hno⟩
    case inr =>
      rw [HUL.out] at hno
      have HO := Lib.hid (show Opened s.data.toList n a from ⟨HPOS.out, hno⟩)
      have hbE := B2.alloc B2.size (.cells #[.string Q, .string R] 27)
      have endsE := ends2.alloc (.cells #[.string Q, .string R] 27)
      clear hno
      go_wp2
      go_ret2
      exact ⟨_, _, n, a, es, _, rfl, HO.out, Own.of_row endsE, HEL.out, HEK.out, hbE⟩
    rw [HUL.out] at hnx
    have hnp := next_pos hnx
    rw [List.length_drop, ← size_data] at hnp
    have hpos2 := Pos.next HPOS.out hnx
    have HPOS2 := Lib.hid hpos2
    have hek2 := endsOk_snoc (L := s.data.toList) HEK.out (by rw [HEL.out]; exact hpos2)
    have HEK2 := Lib.hid hek2
    have tE := Two.new w2 27 (.string Q) (.string R)
    have own4 := own2.alloc (.cells #[.string Q, .string R] 27)
    have ends4 := ends2.alloc (.cells #[.string Q, .string R] 27)
    have B4 := B2.alloc B2.size (.cells #[.string Q, .string R] 27)
    have e0 := tE.cell0
    have e1 := tE.cell1
    have HF1 := Lib.hid (rows_keep ends4 own4 (by decide))
    have ms1 : n + 1 ≤ maxLen := by unfold maxLen; omega
    clear hnx hpos2 hek2
    go_wp2_with (first
      | (at_builtin; refine wpList_append_twoG own4 B4.size (.tmp 29) (.tmp 31) 46 Tryd.underlying46 info_rec (by omega) ms1 ⟨rfl, rfl, rfl, rfl, rfl, rfl, rfl⟩ (by simp) ?_; intro v6 w6 own6 hg6; have ends6 := ends4.kept hg6 HF1.out; have B6 := below_grown B4 hg6 B4.size own4 rfl (Nat.le_refl _))
      | (at_builtin; refine wpList_append_oneA ends6 B6.size (.tmp 33) (.tmp 35) 49 Tryd.underlying49 info_int (by omega) ms1 ⟨rfl, rfl, rfl, rfl, rfl, rfl⟩ (by simp) ?_; intro v7 w7 ends7 hg7 hat7))
    have own7 := own6.kept hg7 (rows_keep own6 ends6 (by decide))
    go_roundw
    case rel => exact ⟨n + 1, a + d, _, es ++ [((a + d : Nat) : Int)], by go_num, own7, by rw [ints_snoc]; exact ends7, by rw [List.length_append, HEL.out]; rfl, HEK2.out, HPOS2.out, below_grown B6 hg7 B6.size ends6 rfl (Nat.le_refl _)⟩
    case measure => simp [intOf]; omega
end Go.Proofs.YtjfhidaibpgpeaaDoor
