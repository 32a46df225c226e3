/-
  UnusedEntries, the reference's and the program's.
-/
import Derived.Test.YtoimkppjbabgeaaGreatDoorUseI
namespace Go.Proofs.YtoimkppjbabgeaaGreatDoor
open Go.RowKit
set_option linter.unusedVariables false
set_option linter.unusedSimpArgs false
set_option maxRecDepth 100000

theorem unused_no {l : List EntD} {zs : List Int} {w w' : World} (h : okD l zs = false) (hb : Below w.heap.size w w') : IntsRes (okD l zs) (unusedD l zs) w (.returned (.tuple #[.slice none 0 0, .bool false])) w' := by
  refine ⟨_, by rw [h], ?_, hb⟩
  have e : unusedD l zs = [] := by simp [unusedD, h]
  rw [e]
  exact Own.none_
theorem unused_yes {l : List EntD} {zs : List Int} {w w' : World} {v : Value} {B : Nat} (h : okD l zs = true) (ho : w'.ownsRow B 3 1 v (zerosT (usesD l zs) (usesD l zs).length).length (ints (zerosT (usesD l zs) (usesD l zs).length))) (hB : w.heap.size ≤ B) (hb : Below w.heap.size w w') : IntsRes (okD l zs) (unusedD l zs) w (.returned (.tuple #[v, .bool true])) w' := by
  have e1 : usesD l zs = useD l zs := by simp [usesD, h]
  have e : unusedD l zs = zerosT (usesD l zs) (usesD l zs).length := by rw [e1]; simp [unusedD, h]
  rw [e]
  exact ⟨v, by rw [h], ⟨ho.base hB, fun g hg => (ho.lt g hg).2⟩, hb⟩
theorem unusedD_len (l : List EntD) (zs : List Int) : (unusedD l zs).length ≤ 1048576 := by
  unfold unusedD
  split
  · rename_i h
    have h1 := usesD_len l zs
    have e1 : usesD l zs = useD l zs := by simp [usesD, h]
    rw [e1] at h1
    exact Nat.le_trans (zerosT_len _ _) h1
  · simp
theorem usesD_40 {l : List EntD} {zs : List Int} (h : okD l zs = true) : (usesD l zs).length ≤ 40 := by
  have h1 : dictB l = true := by simp only [okD, Bool.and_eq_true] at h; exact h.1
  have := dict_len h1
  simp only [usesD, h, if_true, useD, cntE_length]
  exact this

set_option maxHeartbeats 4000000 in
theorem impl_UnusedEntries (A B : Option Addr) (cap cb : Nat) (l : List EntD) (zs : List Int) (w : World) (hr : DictR w w.heap.size A l) (hn : l.length ≤ 1048576) (hs : ShortD l) (hmx : MaxOk w) (hz : Reads w w.heap.size 1 B zs.length (ints zs)) (hzn : zs.length ≤ 1048576) (hcb : zs.length ≤ cb) (hcm : cb ≤ maxLen) :
    Calls Tryz.prog 9 #[.agg #[.slice A l.length cap], .slice B zs.length cb] w (IntsRes (okD l zs) (unusedD l zs) w) := by
  obtain ⟨W1, hW1⟩ : ∃ W1, W1 = w.alloc (.cells #[.slice A l.length cap] 26) := ⟨_, rfl⟩
  have hb1 : Below w.heap.size w W1 := by rw [hW1]; exact (Below.refl _ _).alloc (Nat.le_refl _) _
  have bP : Box W1 w.heap.size 26 (.slice A l.length cap) := by rw [hW1]; exact Box.new w _ _
  have HM := Lib.hid (impl_isMatched A B cap cb l zs W1 ((hr.below hb1).more hb1.size) hn hs (hmx.below hb1) ((hz.below hb1).more hb1.size) hzn)
  have cP := bP.cell
  clear hs hmx
  cases hm : (dictB l && strokesB zs)
  · have HR := Lib.hid hm
    have HRO := Lib.hid (show okD l zs = false from hm)
    clear hm
    go_enter Tryz.func9, Tryz.ntmps9
    go_wp2_with fail
    rw [← hW1]
    clear hW1
    refine HM.out.mono ?_
    rw [HR.out]
    rintro e w3 ⟨rfl, b3⟩
    go_wp2
    go_ret2
    exact unused_no HRO.out (hb1.trans (b3.mono hb1.size))
  have HR := Lib.hid hm
  have HRO := Lib.hid (show okD l zs = true from hm)
  have h40 := usesD_40 (l := l) (zs := zs) hm
  have hY := Lib.hid (fun (w' : World) v B h1 h2 h3 => unused_yes (w := w) (w' := w') (v := v) (B := B) (l := l) (zs := zs) hm h1 h2 h3)
  clear hm
  go_enter Tryz.func9, Tryz.ntmps9
  go_wp2_with fail
  rw [← hW1]
  clear hW1
  refine HM.out.mono ?_
  rw [HR.out]
  rintro e w3 ⟨rfl, b3⟩
  have B3 := hb1.trans (b3.mono hb1.size)
  have bP3 := bP.far b3
  have ba := (Below.refl w3.heap.size w3).alloc (Nat.le_refl _) (.cells #[] 3)
  have own0 : (w3.alloc (.cells #[] 3)).ownsRow w3.heap.size 3 1 (.slice (some ⟨w3.heap.size, 0, none⟩) 0 0) 0 [] := World.ownsRow_made _ _ _ (Nat.le_refl _) (by simp) rfl
  have BA := B3.trans (ba.mono B3.size)
  have bPA := bP3.far ba
  have cPA := bPA.cell
  obtain ⟨wA, hwA⟩ : ∃ wA, wA = w3.alloc (.cells #[] 3) := ⟨_, rfl⟩
  have hsA : wA.heap.size = w3.heap.size + 1 := by rw [hwA]; simp
  have HSA := Lib.hid hsA
  rw [← hwA] at ba own0 BA bPA cPA
  have HEC := Lib.hid (impl_entryCounts A B cap cb l zs wA ((hr.below BA).more BA.size) HRO.out ((hz.below BA).more BA.size) hcb hcm)
  clear cP hsA bPA
  go_upto_region 4 with (fail)
  rw [← hwA]
  clear hwA
  go_wp2_with fail
  refine HEC.out.mono ?_
  rintro e w5 ⟨v5, rfl, o5, b5⟩
  have B5 := BA.trans (b5.mono BA.size)
  have own5 := row_below own0 b5
  have hap : ∀ g, v5.ownBlock = some g → (Value.slice (some ⟨w3.heap.size, 0, none⟩) 0 0).ownBlock ≠ some g := fun g hg h => by
    have h1 := (o5.1.lt g hg).1
    have h2 := HSA.out
    simp [Value.ownBlock] at h
    omega
  have hb3 : Below w3.heap.size w3 w5 := ba.trans (b5.mono (by have := HSA.out; omega))
  have BD := Lib.hid (fun k => zerosT_len (usesD l zs) k)
  generalize hcs : usesD l zs = cs at *
  have HCS := Lib.hid hcs
  have O5 := Lib.hid o5.1
  have HAP := Lib.hid hap
  clear hcs cPA hap own0 HEC
  obtain ⟨A5, k5, rfl, -, -, -⟩ := o5.slice
  go_wp2
  go_loopw [6, 18] (fun v i wr => ∃ k : Nat, k ≤ cs.length ∧ i = .int .i64 k ∧ wr.ownsRow w3.heap.size 3 1 v (zerosT cs k).length (ints (zerosT cs k)) ∧ wr.ownsRow wA.heap.size 3 1 (.slice A5 cs.length k5) cs.length (ints cs) ∧ (∀ g, (Value.slice A5 cs.length k5).ownBlock = some g → v.ownBlock ≠ some g) ∧ Below w3.heap.size w3 wr) (fun _ i _ => cs.length - (intOf i).toNat)
  case atStart => exact ⟨0, Nat.zero_le _, rfl, own5, O5.out, HAP.out, hb3⟩
  case round =>
    obtain ⟨k, hk, rfl, hown, hcnt, hap, hb⟩ := hrel
    have hzl := BD.out k
    have HP := Lib.hid hap
    clear hap
    by_cases hlt : k < cs.length
    · obtain ⟨x, hx⟩ := some_at cs hlt
      obtain ⟨b, cq, hA5, -, -, hb0, -, -, hc, -⟩ := (Own.of_row hcnt).open_ (by omega)
      have cx := (hc k (by omega)).trans (ints_at _ hx)
      simp only [Value.slice.injEq, true_and] at hA5
      obtain ⟨rfl, rfl⟩ := hA5
      have HX := Lib.hid hx
      have i0 : (0 : Int) ≤ (k : Int) := by omega
      have i1 : (k : Int) < (cs.length : Int) := by omega
      clear hx hc
      by_cases hx0 : x = 0
      · subst hx0
        have H1 := Lib.hid (zerosT_yes HX.out)
        have hne := HP.out b rfl
        go_wp2_with (at_builtin; refine wpList_append_oneA hown hb.size (.tmp 25) (.tmp 27) 27 Tryz.underlying27 info_int (by omega) (by unfold maxLen; omega) ⟨rfl, rfl, rfl, rfl, rfl, rfl⟩ rfl ?_; intro v10 w10 hown10 gr10 at10)
        go_roundw
        case rel => exact ⟨k + 1, by omega, by go_num, by rw [H1.out, List.length_append, ints_snoc]; exact hown10, hcnt.kept gr10 (.inr (fun h => hne h.symm)), fun g hg => by
          simp [Value.ownBlock] at hg
          subst hg
          exact apart_next hne hb0 at10, below_grown hb gr10 hb.size hown rfl (Nat.le_refl _)⟩
        case measure => simp [intOf]; omega
      · have H1 := Lib.hid (zerosT_no HX.out hx0)
        have e1 : (x == 0) = false := by simpa using hx0
        clear hx0
        go_wp2
        go_roundw
        case rel => exact ⟨k + 1, by omega, by go_num, by rw [H1.out]; exact hown, hcnt, HP.out, hb⟩
        case measure => simp [intOf]; omega
    · obtain rfl : k = cs.length := by omega
      go_wp2
      go_ret2
      exact hY.out _ _ _ hown B3.size (B3.trans (hb.mono B3.size))
end Go.Proofs.YtoimkppjbabgeaaGreatDoor
