/-
  The program's atoms: format and parsing.
-/
import Derived.Test.YtekidodfcanjaaaGreatDoorAtomI
import Derived.Test.YtekidodfcanjaaaGreatDoorTranS
import Derived.Shelf.Strings.SlTrimAscii
namespace Go.Proofs.YtekidodfcanjaaaGreatDoor
open Go.RowKit
set_option linter.unusedVariables false
set_option maxRecDepth 100000

theorem impl_FormatAtom (k : Int) (t : ByteArray) (w : World) (hs : t.size ≤ 1048576) :
    Calls Tryz.prog 136 #[.agg #[.int .i64 k, .string t]] w fun e w' => e = .returned (.tuple #[.string (if atomOk k t.data.toList then noteS k t else ⟨#[]⟩), .bool (atomOk k t.data.toList)]) ∧ Below w.heap.size w w' := by
  obtain ⟨W1, hW1⟩ : ∃ W1, W1 = w.alloc (.cells #[.int .i64 k, .string t] 129) := ⟨_, rfl⟩
  have hb1 : Below w.heap.size w W1 := by rw [hW1]; exact (Below.refl _ _).alloc (Nat.le_refl _) _
  have t1 : Two W1 w.heap.size 129 (.int .i64 k) (.string t) := by rw [hW1]; exact Two.new w _ _ _
  have c1 := t1.cell0
  have c2 := t1.cell1
  cases hg : atomOk k t.data.toList
  · have HG := Lib.hid hg
    clear hg
    go_enter Tryz.func136, Tryz.ntmps136
    go_wp2_with fail
    rw [← hW1]
    clear hW1
    refine (impl_IsValidAtom k t _ hs).mono ?_
    rw [HG.out]
    rintro e w1 ⟨rfl, b1⟩
    have B1 := hb1.trans (b1.mono hb1.size)
    go_wp2
    go_ret2
    exact ⟨rfl, B1⟩
  · have HG := Lib.hid hg
    clear hg
    go_enter Tryz.func136, Tryz.ntmps136
    go_wp2_with fail
    rw [← hW1]
    clear hW1
    refine (impl_IsValidAtom k t _ hs).mono ?_
    rw [HG.out]
    rintro e w1 ⟨rfl, b1⟩
    have B1 := hb1.trans (b1.mono hb1.size)
    have t2 := t1.far b1
    clear c1 c2
    have c1 := t2.cell0
    have c2 := t2.cell1
    go_wp2_with fail
    refine (impl_notation k t _ hs).mono ?_
    rintro e w2 ⟨rfl, b2⟩
    have B2 := B1.trans (b2.mono B1.size)
    go_wp2
    go_ret2
    exact ⟨rfl, B2⟩

theorem note_len {k : Int} {l : List UInt8} (h : atomOk k l = true) : (noteL k l).length ≤ 24 := by
  have h1 := atomOk_size h
  unfold noteL
  repeat' split
  all_goals simp
  all_goals omega
theorem atomB_long {s : ByteArray} (h : ¬ s.size ≤ 24) : atomB s = false := by
  cases ha : atomB s with
  | false => rfl
  | true =>
    obtain ⟨k, l, h1, h2⟩ := (atomL_iff _).1 ha
    have h3 := note_len h1
    have h4 : s.data.toList.length = s.size := by simp
    rw [h2] at h3
    omega
/-- What has been tried in vain. -/
def Vain (s : ByteArray) (tr : ByteArray) (i : Nat) : Prop := ∀ j : Nat, j < i → tryB s.data.toList ((j : Int) + 1) tr.data.toList = false ∧ tryB s.data.toList ((j : Int) + 1) [] = false
theorem vain_all {s tr : ByteArray} (ht : tr.data.toList = Lib.trimS s.data.toList cutset4) (h : Vain s tr 10) : atomB s = false := by
  unfold atomB atomL
  rw [List.any_eq_false]
  intro i hi
  have := h i (by simpa using hi)
  rw [← ht, this.1, this.2]
  simp
theorem try_hit {s : ByteArray} {k : Int} {t : ByteArray} (h : tryB s.data.toList k t.data.toList = true) : atomB s = true := (atomL_iff _).2 (tryB_noted h)
theorem try_parts {s : ByteArray} {k : Int} {t : ByteArray} : tryB s.data.toList k t.data.toList = (atomOk k t.data.toList && decide (noteS k t = s)) := by
  unfold tryB
  congr 1
  apply decide_eq_decide.2
  constructor
  · intro h
    apply ByteArray.ext
    simp [noteS, h]
  · intro h
    rw [← h]
    simp [noteS]
theorem impl_Trim (s : ByteArray) (w : World) (hs : s.size ≤ 1048576) : Calls Tryz.prog 135 #[.string s, .string ⟨#[123, 125, 94, 38]⟩] w fun e w' => (∃ tr : ByteArray, e = .returned (.string tr) ∧ tr.data.toList = Lib.trimS s.data.toList cutset4 ∧ tr.size ≤ s.size) ∧ Below w.heap.size w w' := by
  refine (Any.strings_Trim_laid Tryz.lays160 (by kernel_rfl) s ⟨#[123, 125, 94, 38]⟩ w (by omega) (by decide) (ascii_of_all (by decide))).mono ?_
  rintro e w' ⟨rfl, hb⟩
  refine ⟨⟨_, rfl, rfl, ?_⟩, hb⟩
  have h1 : ∀ l : List UInt8, (Lib.trimS l cutset4).length ≤ l.length := fun l => by
    unfold Lib.trimS Lib.trimLeftS Lib.trimRightS
    have a1 := (List.dropWhile_sublist (cutset4.contains ·) (l := (l.reverse.dropWhile (cutset4.contains ·)).reverse)).length_le
    have a2 := (List.dropWhile_sublist (cutset4.contains ·) (l := l.reverse)).length_le
    simp at a1 a2 ⊢
    omega
  have h2 := h1 s.data.toList
  have h4 : s.data.toList.length = s.size := by simp
  show (Lib.trimS s.data.toList cutset4).toArray.size ≤ _
  simp only [List.size_toArray]
  omega

/-- The candidate's text. -/
def cand (tr : ByteArray) (m : Nat) : ByteArray := if m = 0 then tr else ⟨#[]⟩
def VainK (s tr : ByteArray) (k : Int) (m : Nat) : Prop := ∀ j : Nat, j < m → j < 2 → tryB s.data.toList k (cand tr j).data.toList = false
theorem vain_next {s tr : ByteArray} {i : Nat} (h : Vain s tr i) (h2 : VainK s tr ((i : Int) + 1) 2) : Vain s tr (i + 1) := by
  intro j hj
  rcases Nat.lt_or_ge j i with h3 | h3
  · exact h j h3
  · obtain rfl : j = i := by omega
    exact ⟨h2 0 (by omega) (by omega), h2 1 (by omega) (by omega)⟩
theorem cand_at (tr : ByteArray) (k : Int) {m : Nat} (h : m < 2) : ([(k, tr), (k, (⟨#[]⟩ : ByteArray))] : List AtomD)[m]? = some (k, cand tr m) := by
  rcases (show m = 0 ∨ m = 1 by omega) with rfl | rfl <;> rfl
set_option maxHeartbeats 8000000 in
theorem impl_ParseAtom (s : ByteArray) (w : World) (hs : s.size ≤ 1048576) : Calls Tryz.prog 125 #[.string s] w (AtomRes s w) := by
  obtain ⟨W1, hW1⟩ : ∃ W1, W1 = w.alloc (.cells #[.int .i64 0, .string ⟨#[]⟩] 129) := ⟨_, rfl⟩
  have hb1 : Below w.heap.size w W1 := by rw [hW1]; exact (Below.refl _ _).alloc (Nat.le_refl _) _
  have t1 : Two W1 w.heap.size 129 (.int .i64 0) (.string ⟨#[]⟩) := by rw [hW1]; exact Two.new w _ _ _
  go_enter Tryz.func125, Tryz.ntmps125
  go_wp2_with fail
  rw [← hW1]
  clear hW1
  refine (impl_Trim s _ hs).mono ?_
  rintro e w1 ⟨⟨tr, rfl, htr, htz⟩, b1⟩
  have B1 := hb1.trans (b1.mono hb1.size)
  have t2 := t1.far b1
  have HTR := Lib.hid htr
  clear htr t1
  by_cases h24 : s.size ≤ 24
  case neg =>
    have HN := Lib.hid (atomB_long h24)
    have i1 : (24 : Int) < (s.size : Int) := by omega
    have d1 := t2.cell0
    have d2 := t2.cell1
    have f1 := t2.free
    have HB := Lib.hid (fun u v => (B1.setCell (p := ⟨w.heap.size, 0, none⟩) (Nat.le_refl _) u).setCell (p := ⟨w.heap.size, 1, none⟩) (Nat.le_refl _) v)
    go_wp2
    exact bodyPost_ret (v := .tuple #[.agg #[.int .i64 0, .string ⟨#[]⟩], .bool false]) (by simp [results, go_sem, d1, d2]) rfl ⟨0, ⟨#[]⟩, by rw [HN.out], fun h => (by rw [HN.out] at h; cases h), HB.out _ _⟩
  go_wp2
  go_loopw [5] (fun q wr => ∃ i : Nat, i ≤ 10 ∧ q = .int .i64 ((i : Int) + 1) ∧ Vain s tr i ∧ Two wr w.heap.size 129 (.int .i64 0) (.string ⟨#[]⟩) ∧ Below w.heap.size w wr) (fun q _ => 11 - (intOf q).toNat)
  case atStart => exact ⟨0, by omega, rfl, fun j hj => absurd hj (Nat.not_lt_zero _), t2, B1⟩
  case round =>
    obtain ⟨i, hi, rfl, hv, tw, hb⟩ := hrel
    have HV := Lib.hid hv
    clear hv t2
    by_cases hlt : i < 10
    · obtain ⟨wo, hwo⟩ : ∃ wo : World, wo = wr := ⟨_, rfl⟩
      subst hwo
      obtain ⟨K, hK⟩ : ∃ K : Int, K = (i : Int) + 1 := ⟨_, rfl⟩
      have hK1 : 1 ≤ K := by omega
      have hK2 : K ≤ 10 := by omega
      rw [← hK]
      have HK := Lib.hid hK
      clear hK
      have ba := (Below.refl wo.heap.size wo).alloc (Nat.le_refl _) (.cells #[.int .i64 K, .string tr, .int .i64 K, .string ⟨#[]⟩] 129)
      have rd : Reads (wo.alloc (.cells #[.int .i64 K, .string tr, .int .i64 K, .string ⟨#[]⟩] 129)) (wo.heap.size + 1) 2 (some ⟨wo.heap.size, 0, none⟩) 2 (flat2 (atomsP [(K, tr), (K, ⟨#[]⟩)])) :=
        ⟨rfl, fun _ => ⟨_, 0, rfl, by omega, fun j u hj => by rw [Nat.zero_add, World.cell?_alloc_mark]; simpa [flat2, atomsP] using hj⟩⟩
      have hb2 := hb.alloc hb.size (.cells #[.int .i64 K, .string tr, .int .i64 K, .string ⟨#[]⟩] 129)
      have tw2 := tw.far ba
      have hzz : wo.heap.size + 1 ≤ (wo.alloc (.cells #[.int .i64 K, .string tr, .int .i64 K, .string ⟨#[]⟩] 129)).heap.size := by simp
      go_wp2
      go_loopw [27] (fun q wr => ∃ m : Nat, m ≤ 2 ∧ q = .int .i64 m ∧ VainK s tr K m ∧ Reads wr (wo.heap.size + 1) 2 (some ⟨wo.heap.size, 0, none⟩) 2 (flat2 (atomsP [(K, tr), (K, ⟨#[]⟩)])) ∧ Two wr w.heap.size 129 (.int .i64 0) (.string ⟨#[]⟩) ∧ Below w.heap.size w wr ∧ wo.heap.size + 1 ≤ wr.heap.size) (fun q _ => 2 - (intOf q).toNat)
      case atStart => exact ⟨0, by omega, rfl, fun j hj => absurd hj (Nat.not_lt_zero _), rd, tw2, hb2, hzz⟩
      case round =>
        obtain ⟨m, hm, rfl, hvk, hrd, tw3, hb3, hz3⟩ := hrel
        have HVK := Lib.hid hvk
        clear hvk
        by_cases hm2 : m < 2
        · obtain ⟨b, off, hA, hb0, hc⟩ := hrd.2 (by omega)
          simp only [Option.some.injEq, Addr.mk.injEq, and_true] at hA
          obtain ⟨rfl, rfl⟩ := hA
          obtain ⟨c1, c2⟩ := flat2_reads (B := 0) hc (atomsP_at (cand_at tr K hm2))
          try simp only [Nat.zero_add] at c1 c2
          have hcz : (cand tr m).size ≤ 1048576 := by
            unfold cand
            split
            · omega
            · exact Nat.zero_le _
          have HT := Lib.hid (try_parts (s := s) (k := K) (t := cand tr m))
          have j0 : (0 : Int) ≤ (m : Int) := by omega
          have j1 : (m : Int) < 2 := by omega
          generalize hx : cand tr m = x at *
          have HX := Lib.hid hx
          clear hx hc
          have bb := (Below.refl wr.heap.size wr).alloc (Nat.le_refl _) (.cells #[.int .i64 K, .string x] 129)
          have ta := Two.new wr 129 (.int .i64 K) (.string x)
          go_wp2_with fail
          generalize hX3 : wr.alloc (.cells #[.int .i64 K, .string x] 129) = x3 at *
          clear hX3
          have hrd3 := hrd.keep (w' := x3) (fun p hp => bb.cell (by omega))
          have tw4 := tw3.far bb
          have hb4 := hb3.trans (bb.mono hb3.size)
          have hz4 := Nat.le_trans hz3 bb.size
          refine (impl_FormatAtom K x _ hcz).mono ?_
          rintro e w5 ⟨rfl, b5⟩
          have hrd5 := hrd3.keep (w' := w5) (fun p hp => b5.cell (by omega))
          have tw5 := tw4.far b5
          have ta5 := ta.far b5
          have hb5 := hb4.trans (b5.mono hb4.size)
          have hz5 := Nat.le_trans hz4 b5.size
          clear c1 c2 hrd hrd3 tw3 tw4
          cases hok : atomOk K x.data.toList
          · have HN := Lib.hid (show tryB s.data.toList K x.data.toList = false by rw [HT.out, hok]; rfl)
            clear hok
            try simp only [Bool.false_eq_true, if_false]
            go_wp2
            go_roundw
            case rel => exact ⟨m + 1, by omega, by go_num, fun j hj hj2 => by
              rcases Nat.lt_or_ge j m with h | h
              · exact HVK.out j h hj2
              · obtain rfl : j = m := by omega
                rw [HX.out]; exact HN.out, hrd5, tw5, hb5, hz5⟩
            case measure => simp [intOf]; omega
          · have HOK := Lib.hid hok
            clear hok
            try simp only [if_true]
            by_cases hq : noteS K x = s
            · have HY := Lib.hid (show tryB s.data.toList K x.data.toList = true by rw [HT.out, HOK.out, decide_eq_true hq]; rfl)
              have HQ := Lib.hid (show noteL K x.data.toList = s.data.toList by rw [← hq]; simp [noteS])
              have e1 : ((noteS K x).toList == s.toList) = true := by rw [str_beq, decide_eq_true hq]
              generalize noteS K x = ns at *
              clear hq
              have d1 := tw5.cell0
              have d2 := tw5.cell1
              have f1 := tw5.free
              have c1 := ta5.cell0
              have c2 := ta5.cell1
              have hne : w.heap.size < wr.heap.size := by have := hb3.size; have := tw.lt; omega
              have HB := Lib.hid (fun u v => (hb5.setCell (p := ⟨w.heap.size, 0, none⟩) (Nat.le_refl _) u).setCell (p := ⟨w.heap.size, 1, none⟩) (Nat.le_refl _) v)
              go_wp2
              exact bodyPost_ret (v := .tuple #[.agg #[.int .i64 K, .string x], .bool true]) (by simp [results, go_sem, d1, d2]) rfl ⟨K, x, by rw [try_hit HY.out], fun _ => ⟨HOK.out, HQ.out⟩, HB.out _ _⟩
            · have HN := Lib.hid (show tryB s.data.toList K x.data.toList = false by rw [HT.out, HOK.out, decide_eq_false hq]; rfl)
              have e1 := str_other hq
              generalize noteS K x = ns at *
              clear hq
              go_wp2
              go_roundw
              case rel => exact ⟨m + 1, by omega, by go_num, fun j hj hj2 => by
                rcases Nat.lt_or_ge j m with h | h
                · exact HVK.out j h hj2
                · obtain rfl : j = m := by omega
                  rw [HX.out]; exact HN.out, hrd5, tw5, hb5, hz5⟩
              case measure => simp [intOf]; omega
        · obtain rfl : m = 2 := by omega
          have HNX := Lib.hid (vain_next HV.out (by rw [← HK.out]; exact HVK.out))
          go_wp2
          go_roundw
          case rel => exact ⟨i + 1, by omega, by rw [HK.out]; go_num, HNX.out, tw3, hb3⟩
          case measure => have := HK.out; simp [intOf]; omega
    · obtain rfl : i = 10 := by omega
      have HN := Lib.hid (vain_all HTR.out HV.out)
      have d1 := tw.cell0
      have d2 := tw.cell1
      have f1 := tw.free
      have HB := Lib.hid (fun u v => (hb.setCell (p := ⟨w.heap.size, 0, none⟩) (Nat.le_refl _) u).setCell (p := ⟨w.heap.size, 1, none⟩) (Nat.le_refl _) v)
      go_wp2
      exact bodyPost_ret (v := .tuple #[.agg #[.int .i64 0, .string ⟨#[]⟩], .bool false]) (by simp [results, go_sem, d1, d2]) rfl ⟨0, ⟨#[]⟩, by rw [HN.out], fun h => (by rw [HN.out] at h; cases h), HB.out _ _⟩
end Go.Proofs.YtekidodfcanjaaaGreatDoor
