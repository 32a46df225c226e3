/-
  The reference's atoms: the atom of a notation, parsing.
-/
import Derived.Test.YtekidodfcanjaaaGreatDoorAtomG
namespace Go.Proofs.YtekidodfcanjaaaGreatDoor
open Go.RowKit
set_option linter.unusedVariables false
set_option maxRecDepth 100000

theorem kindL_short {s : List UInt8} (h : s.length < 3) : kindL s = (1, s) := by rw [kindL, if_pos (.inl h)]
theorem kindL_open {s : List UInt8} (h : s.head? ≠ some 123) : kindL s = (1, s) := by rw [kindL, if_pos (.inr (.inl h))]
theorem kindL_close {s : List UInt8} (h : s.getLast? ≠ some 125) : kindL s = (1, s) := by rw [kindL, if_pos (.inr (.inr h))]
theorem kindL_in {s : List UInt8} (h3 : ¬ s.length < 3) (h0 : s.head? = some 123) (h1 : s.getLast? = some 125) : kindL s = kindI s.tail.dropLast := by
  rw [kindL, if_neg]
  rintro (h | h | h)
  · exact h3 h
  · exact h h0
  · exact h h1
theorem head_at {s : ByteArray} (h : 0 < s.size) : s.data.toList.head? = some s[0] := by
  rw [List.head?_eq_getElem?, Array.getElem?_toList]
  exact Array.getElem?_eq_getElem (by simpa using h)
theorem last_at {s : ByteArray} (h : 0 < s.size) : s.data.toList.getLast? = some (s[s.size - 1]'(by omega)) := by
  rw [List.getLast?_eq_getElem?, Array.getElem?_toList]
  have hl : s.data.toList.length = s.size := by simp
  rw [hl]
  exact Array.getElem?_eq_getElem (by have : s.data.size = s.size := rfl; omega)
theorem byte_eq {c d : UInt8} (h : (c.toNat : Int) = (d.toNat : Int)) : c = d := UInt8.toNat_inj.1 (by omega)
theorem inner_data {s : ByteArray} (h : 2 ≤ s.size) : (s.extract 1 (s.size - 1)).data.toList = s.data.toList.tail.dropLast := by
  have hl : s.data.toList.length = s.size := by simp
  rw [List.dropLast_eq_take, List.length_tail, hl, ← List.drop_one, ByteArray.data_extract, Array.toList_extract, List.extract_eq_take_drop]
theorem tail_data (s : ByteArray) : (s.extract 1 s.size).data.toList = s.data.toList.tail := by
  rw [ByteArray.data_extract, Array.toList_extract, List.extract_eq_take_drop, ← List.drop_one]
  exact List.take_of_length_le (by simp)
theorem front_data (s : ByteArray) : (s.extract 0 (s.size - 1)).data.toList = s.data.toList.dropLast := by
  have hl : s.data.toList.length = s.size := by simp
  rw [List.dropLast_eq_take, hl, ByteArray.data_extract, Array.toList_extract, List.extract_eq_take_drop, List.drop_zero, Nat.sub_zero]
/-- What is left when the constants are out. -/
theorem kindI_rest {i : ByteArray} (hi : 0 < i.size) (n1 : ¬ i.toList = [45, 124]) (n2 : ¬ i.toList = [62]) (n3 : ¬ i.toList = [42, 45, 124]) (n4 : ¬ (i.toList = [46] ∨ i.toList = [33] ∨ i.toList = [63])) (n5 : ¬ (i.toList = [44] ∨ i.toList = [59] ∨ i.toList = [58])) :
    kindI i.data.toList = if i[0] = 38 then (5, i.data.toList.tail) else if i[0] = 94 ∧ i[i.size - 1]'(by omega) = 94 ∧ 2 < i.size then (4, i.data.toList.tail.dropLast) else if i[0] = 94 then (2, i.data.toList.tail) else if i[i.size - 1]'(by omega) = 94 then (3, i.data.toList.dropLast) else (0, []) := by
  rw [← toList_data] at n1 n2 n3 n4 n5
  rw [kindI, if_neg n1, if_neg n2, if_neg n3, if_neg n4, if_neg n5, head_at hi, last_at hi]
  have hl : i.data.toList.length = i.size := by simp
  simp only [Option.some.injEq, hl]
def KindRes (s : ByteArray) (w : World) (e : Ending) (w' : World) : Prop := ∃ (k : Int) (t : ByteArray), e = .returned (.agg #[.int .i64 k, .string t]) ∧ kindL s.data.toList = (k, t.data.toList) ∧ t.size ≤ s.size ∧ Below w.heap.size w w'
theorem kind_end {s : ByteArray} {w w' : World} {k : Int} {t : ByteArray} (hk : kindL s.data.toList = (k, t.data.toList)) (hs : t.size ≤ s.size) (hb : Below w.heap.size w w') : KindRes s w (.returned (.agg #[.int .i64 k, .string t])) w' := ⟨k, t, rfl, hk, hs, hb⟩

set_option maxHeartbeats 16000000 in
theorem spec_l5Kind (s : ByteArray) (w : World) (hs : s.size ≤ 1048576) : Calls Tryz.prog 126 #[.string s] w (KindRes s w) := by
  have hb : ∀ C, Below w.heap.size w (w.alloc (.cells C 129)) := fun C => (Below.refl _ _).alloc (Nat.le_refl _) _
  have HBL := Lib.hid hb
  clear hb
  by_cases h3 : s.size < 3
  · have HK := Lib.hid (kindL_short (s := s.data.toList) (by simpa using h3))
    go_enter Tryz.func126, Tryz.ntmps126
    go_wp2
    exact bodyPost_ret (v := .agg #[.int .i64 1, .string s]) (by simp [results, go_sem]) rfl (kind_end HK.out (Nat.le_refl _) (HBL.out _))
  have i0 : (0 : Int) ≤ (s.size : Int) - 1 := by omega
  have i1 : (s.size : Int) - 1 < (s.size : Int) := by omega
  have i2 : (0 : Int) < (s.size : Int) := by omega
  by_cases h0 : (s[0].toNat : Int) = 123
  case neg =>
    have HK := Lib.hid (kindL_open (s := s.data.toList) (by rw [head_at (by omega)]; intro e; exact h0 (by rw [Option.some.inj e]; rfl)))
    have m0 : ((s[0].toNat : Int) != 123) = true := by simpa using h0
    clear h0
    go_enter Tryz.func126, Tryz.ntmps126
    go_wp2
    exact bodyPost_ret (v := .agg #[.int .i64 1, .string s]) (by simp [results, go_sem]) rfl (kind_end HK.out (Nat.le_refl _) (HBL.out _))
  by_cases h1 : (s[s.size - 1].toNat : Int) = 125
  case neg =>
    have HK := Lib.hid (kindL_close (s := s.data.toList) (by rw [last_at (by omega)]; intro e; exact h1 (by rw [Option.some.inj e]; rfl)))
    have m0 : ((s[0].toNat : Int) != 123) = false := by simp [h0]
    have m1 : ((s[s.size - 1].toNat : Int) != 125) = true := by simpa using h1
    clear h0 h1
    go_enter Tryz.func126, Tryz.ntmps126
    go_wp2
    exact bodyPost_ret (v := .agg #[.int .i64 1, .string s]) (by simp [results, go_sem]) rfl (kind_end HK.out (Nat.le_refl _) (HBL.out _))
  have m0 : ((s[0].toNat : Int) != 123) = false := by simp [h0]
  have m1 : ((s[s.size - 1].toNat : Int) != 125) = false := by simp [h1]
  have hil : (s.extract 1 (s.size - 1)).size = s.size - 2 := by rw [ByteArray.size_extract]; omega
  have KL := Lib.hid (show kindL s.data.toList = kindI (s.extract 1 (s.size - 1)).data.toList by
    rw [inner_data (by omega)]
    exact kindL_in (by simpa using h3) (by rw [head_at (by omega), byte_eq (c := s[0]) (d := 123) h0]) (by rw [last_at (by omega), byte_eq (d := 125) h1]))
  have i3 : 1 ≤ (s.extract 1 (s.size - 1)).size := by omega
  have i7 : (s.extract 1 (s.size - 1)).size ≤ s.size := by omega
  clear hil h0 h1
  go_enter Tryz.func126, Tryz.ntmps126
  go_upto_region 5 with (fail)
  generalize s.extract 1 (s.size - 1) = i at *
  have i4 : (0 : Int) < (i.size : Int) := by omega
  have i5 : (0 : Int) ≤ (i.size : Int) - 1 := by omega
  have i6 : (i.size : Int) - 1 < (i.size : Int) := by omega
  by_cases b1 : i.toList = [45, 124]
  · have HK := Lib.hid (show kindI i.data.toList = (8, []) by rw [toList_data, b1]; decide)
    go_wp2
    exact bodyPost_ret (v := .agg #[.int .i64 8, .string ⟨#[]⟩]) (by simp [results, go_sem]) rfl (kind_end (KL.out.trans HK.out) (Nat.zero_le _) (HBL.out _))
  have q1 : (i.toList == [45, 124]) = false := by simpa using b1
  go_upto_region 7 with (fail)
  have N1 := Lib.hid b1
  clear b1 q1
  by_cases b2 : i.toList = [62]
  · have HK := Lib.hid (show kindI i.data.toList = (9, []) by rw [toList_data, b2]; decide)
    go_wp2
    exact bodyPost_ret (v := .agg #[.int .i64 9, .string ⟨#[]⟩]) (by simp [results, go_sem]) rfl (kind_end (KL.out.trans HK.out) (Nat.zero_le _) (HBL.out _))
  have q2 : (i.toList == [62]) = false := by simpa using b2
  go_upto_region 9 with (fail)
  have N2 := Lib.hid b2
  clear b2 q2
  by_cases b3 : i.toList = [42, 45, 124]
  · have HK := Lib.hid (show kindI i.data.toList = (10, []) by rw [toList_data, b3]; decide)
    go_wp2
    exact bodyPost_ret (v := .agg #[.int .i64 10, .string ⟨#[]⟩]) (by simp [results, go_sem]) rfl (kind_end (KL.out.trans HK.out) (Nat.zero_le _) (HBL.out _))
  have q3 : (i.toList == [42, 45, 124]) = false := by simpa using b3
  go_upto_region 11 with (fail)
  have N3 := Lib.hid b3
  clear b3 q3
  by_cases b46 : i.toList = [46]
  · have HK := Lib.hid (show kindI i.data.toList = (6, i.data.toList) by rw [toList_data, b46]; decide)
    go_wp2
    exact bodyPost_ret (v := .agg #[.int .i64 6, .string i]) (by simp [results, go_sem]) rfl (kind_end (KL.out.trans HK.out) i7 (HBL.out _))
  by_cases b33 : i.toList = [33]
  · have HK := Lib.hid (show kindI i.data.toList = (6, i.data.toList) by rw [toList_data, b33]; decide)
    go_wp2
    exact bodyPost_ret (v := .agg #[.int .i64 6, .string i]) (by simp [results, go_sem]) rfl (kind_end (KL.out.trans HK.out) i7 (HBL.out _))
  by_cases b63 : i.toList = [63]
  · have HK := Lib.hid (show kindI i.data.toList = (6, i.data.toList) by rw [toList_data, b63]; decide)
    go_wp2
    exact bodyPost_ret (v := .agg #[.int .i64 6, .string i]) (by simp [results, go_sem]) rfl (kind_end (KL.out.trans HK.out) i7 (HBL.out _))
  have q46 : (i.toList == [46]) = false := by simpa using b46
  have q33 : (i.toList == [33]) = false := by simpa using b33
  have q63 : (i.toList == [63]) = false := by simpa using b63
  go_upto_region 13 with (fail)
  have N4 := Lib.hid (show ¬ (i.toList = [46] ∨ i.toList = [33] ∨ i.toList = [63]) by simp only [not_or]; exact ⟨b46, b33, b63⟩)
  clear b46 b33 b63 q46 q33 q63
  by_cases b44 : i.toList = [44]
  · have HK := Lib.hid (show kindI i.data.toList = (7, i.data.toList) by rw [toList_data, b44]; decide)
    go_wp2
    exact bodyPost_ret (v := .agg #[.int .i64 7, .string i]) (by simp [results, go_sem]) rfl (kind_end (KL.out.trans HK.out) i7 (HBL.out _))
  by_cases b59 : i.toList = [59]
  · have HK := Lib.hid (show kindI i.data.toList = (7, i.data.toList) by rw [toList_data, b59]; decide)
    go_wp2
    exact bodyPost_ret (v := .agg #[.int .i64 7, .string i]) (by simp [results, go_sem]) rfl (kind_end (KL.out.trans HK.out) i7 (HBL.out _))
  by_cases b58 : i.toList = [58]
  · have HK := Lib.hid (show kindI i.data.toList = (7, i.data.toList) by rw [toList_data, b58]; decide)
    go_wp2
    exact bodyPost_ret (v := .agg #[.int .i64 7, .string i]) (by simp [results, go_sem]) rfl (kind_end (KL.out.trans HK.out) i7 (HBL.out _))
  have q44 : (i.toList == [44]) = false := by simpa using b44
  have q59 : (i.toList == [59]) = false := by simpa using b59
  have q58 : (i.toList == [58]) = false := by simpa using b58
  go_upto_region 15 with (fail)
  have N5 := Lib.hid (show ¬ (i.toList = [44] ∨ i.toList = [59] ∨ i.toList = [58]) by simp only [not_or]; exact ⟨b44, b59, b58⟩)
  clear b44 b59 b58 q44 q59 q58
  have KR := Lib.hid (kindI_rest (by omega) N1.out N2.out N3.out N4.out N5.out)
  by_cases c1 : (i[0].toNat : Int) = 38
  · have HK := Lib.hid (show kindI i.data.toList = (5, (i.extract 1 i.size).data.toList) by rw [KR.out, if_pos (byte_eq (d := 38) c1), tail_data])
    have hz : (i.extract 1 i.size).size ≤ s.size := by rw [ByteArray.size_extract]; omega
    go_wp2
    exact bodyPost_ret (v := .agg #[.int .i64 5, .string (i.extract 1 i.size)]) (by simp [results, go_sem]) rfl (kind_end (KL.out.trans HK.out) hz (HBL.out _))
  have d1 : ((i[0].toNat : Int) == 38) = false := by simpa using c1
  have M1 := Lib.hid (show i[0] ≠ 38 from fun e => c1 (by rw [e]; rfl))
  go_upto_region 17 with (fail)
  clear c1 d1
  by_cases c2 : (i[0].toNat : Int) = 94
  · have M2 := Lib.hid (byte_eq (d := 94) c2)
    by_cases c3 : (i[i.size - 1].toNat : Int) = 94
    · have M3 := Lib.hid (byte_eq (d := 94) c3)
      by_cases c4 : 2 < i.size
      · have HK := Lib.hid (show kindI i.data.toList = (4, (i.extract 1 (i.size - 1)).data.toList) by rw [KR.out, if_neg M1.out, if_pos ⟨M2.out, M3.out, c4⟩, inner_data (by omega)])
        have hz : (i.extract 1 (i.size - 1)).size ≤ s.size := by rw [ByteArray.size_extract]; omega
        have j1 : (1 : Int) ≤ (i.size : Int) - 1 := by omega
        go_wp2
        exact bodyPost_ret (v := .agg #[.int .i64 4, .string (i.extract 1 (i.size - 1))]) (by simp [results, go_sem]) rfl (kind_end (KL.out.trans HK.out) hz (HBL.out _))
      · have HK := Lib.hid (show kindI i.data.toList = (2, (i.extract 1 i.size).data.toList) by rw [KR.out, if_neg M1.out, if_neg (fun h => c4 h.2.2), if_pos M2.out, tail_data])
        have hz : (i.extract 1 i.size).size ≤ s.size := by rw [ByteArray.size_extract]; omega
        go_wp2
        exact bodyPost_ret (v := .agg #[.int .i64 2, .string (i.extract 1 i.size)]) (by simp [results, go_sem]) rfl (kind_end (KL.out.trans HK.out) hz (HBL.out _))
    · have d3 : ((i[i.size - 1].toNat : Int) == 94) = false := by simpa using c3
      have M3 := Lib.hid (show i[i.size - 1] ≠ 94 from fun e => c3 (by rw [e]; rfl))
      clear c3
      have HK := Lib.hid (show kindI i.data.toList = (2, (i.extract 1 i.size).data.toList) by rw [KR.out, if_neg M1.out, if_neg (fun h => M3.out h.2.1), if_pos M2.out, tail_data])
      have hz : (i.extract 1 i.size).size ≤ s.size := by rw [ByteArray.size_extract]; omega
      go_wp2
      exact bodyPost_ret (v := .agg #[.int .i64 2, .string (i.extract 1 i.size)]) (by simp [results, go_sem]) rfl (kind_end (KL.out.trans HK.out) hz (HBL.out _))
  · have d2 : ((i[0].toNat : Int) == 94) = false := by simpa using c2
    have M2 := Lib.hid (show i[0] ≠ 94 from fun e => c2 (by rw [e]; rfl))
    clear c2
    by_cases c3 : (i[i.size - 1].toNat : Int) = 94
    · have M3 := Lib.hid (byte_eq (d := 94) c3)
      have HK := Lib.hid (show kindI i.data.toList = (3, (i.extract 0 (i.size - 1)).data.toList) by rw [KR.out, if_neg M1.out, if_neg (fun h => M2.out h.1), if_neg M2.out, if_pos M3.out, front_data])
      have hz : (i.extract 0 (i.size - 1)).size ≤ s.size := by rw [ByteArray.size_extract]; omega
      go_wp2
      exact bodyPost_ret (v := .agg #[.int .i64 3, .string (i.extract 0 (i.size - 1))]) (by simp [results, go_sem]) rfl (kind_end (KL.out.trans HK.out) hz (HBL.out _))
    · have d3 : ((i[i.size - 1].toNat : Int) == 94) = false := by simpa using c3
      have M3 := Lib.hid (show i[i.size - 1] ≠ 94 from fun e => c3 (by rw [e]; rfl))
      clear c3
      have HK := Lib.hid (show kindI i.data.toList = (0, []) by rw [KR.out, if_neg M1.out, if_neg (fun h => M2.out h.1), if_neg M2.out, if_neg M3.out])
      go_wp2
      exact bodyPost_ret (v := .agg #[.int .i64 0, .string ⟨#[]⟩]) (by simp [results, go_sem]) rfl (kind_end (KL.out.trans HK.out) (Nat.zero_le _) (HBL.out _))
end Go.Proofs.YtekidodfcanjaaaGreatDoor
