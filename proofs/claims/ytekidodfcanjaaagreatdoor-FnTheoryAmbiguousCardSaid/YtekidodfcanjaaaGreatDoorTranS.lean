/-
  The reference's translations: parsing.
-/
import Derived.Test.YtekidodfcanjaaaGreatDoorAtomP
import Derived.Test.YtekidodfcanjaaaGreatDoorStrs
import Derived.Test.YtekidodfcanjaaaGreatDoorRowsSS
namespace Go.Proofs.YtekidodfcanjaaaGreatDoor
open Go.RowKit
set_option linter.unusedVariables false
set_option maxRecDepth 100000

theorem info_atom : (Tryz.prog.info? 129).map (fun i => (i.zero, i.size, i.bytes)) = some (some (.agg #[.int .i64 0, .string ⟨#[]⟩]), 2, 24) := by kernel_rfl
abbrev AtomD := Int × ByteArray
def atomsP (ls : List AtomD) : List (Value × Value) := ls.map fun a => (.int .i64 a.1, .string a.2)
theorem atomsP_length (ls : List AtomD) : (atomsP ls).length = ls.length := by simp [atomsP]
theorem atomsP_snoc (ls : List AtomD) (a : AtomD) : atomsP (ls ++ [a]) = atomsP ls ++ [(.int .i64 a.1, .string a.2)] := by simp [atomsP]
theorem atomsP_at {ls : List AtomD} {k : Nat} {a : AtomD} (h : ls[k]? = some a) : (atomsP ls)[k]? = some (.int .i64 a.1, .string a.2) := by simp [atomsP, h]
theorem atomOk_size {k : Int} {l : List UInt8} (h : atomOk k l = true) : l.length ≤ 20 := by
  unfold atomOk at h
  split at h
  · simp only [wordL, Bool.and_eq_true, decide_eq_true_eq] at h; exact h.1.2
  split at h
  · simp at h; rcases h with rfl | rfl | rfl <;> decide
  split at h
  · simp at h; rcases h with rfl | rfl | rfl <;> decide
  · simp at h; rw [h.2]; decide
def sumN (ls : List AtomD) : Nat := (ls.map fun a => (noteS a.1 a.2).size).sum
theorem sumN_take {ls : List AtomD} {k : Nat} {a : AtomD} (h : ls[k]? = some a) : sumN (ls.take (k + 1)) = sumN (ls.take k) + (noteS a.1 a.2).size := by
  unfold sumN
  rw [take_succ_of h, List.map_append, List.sum_append]
  simp
theorem sumN_le (ls : List AtomD) (j : Nat) (h : ∀ a ∈ ls, (noteS a.1 a.2).size ≤ 30) : sumN (ls.take j) ≤ 30 * j := by
  induction j with
  | zero => simp [sumN]
  | succ j ih =>
    cases hj : ls[j]? with
    | none => rw [List.take_of_length_le (by have := List.getElem?_eq_none_iff.1 hj; omega)]; rw [List.take_of_length_le (by have := List.getElem?_eq_none_iff.1 hj; omega)] at ih; omega
    | some a =>
      rw [sumN_take hj]
      have := h a (List.mem_of_getElem? hj)
      omega
def GoodAtoms (ls : List AtomD) : Prop := ∀ (j : Nat) (a : AtomD), ls[j]? = some a → atomOk a.1 a.2.data.toList = true

set_option maxHeartbeats 2000000 in
theorem spec_l5List (A : Option Addr) (cap : Nat) (ls : List AtomD) (w : World) (hr : Reads w w.heap.size 2 A ls.length (flat2 (atomsP ls))) (hn : ls.length ≤ 1048576) (hg : GoodAtoms ls) :
    Calls Tryz.prog 117 #[.slice A ls.length cap] w fun e w' => e = .returned (.bool (inB ls.length 1 10 && decide ((ls.length : Int) - 1 + sumN ls ≤ 60))) ∧ Below w.heap.size w w' := by
  cases hi : inB (ls.length : Int) 1 10
  · go_enter Tryz.func117, Tryz.ntmps117
    go_wp2_with (go_at_call 66; refine (spec_l1In _ _ _ _).mono ?_; rw [hi]; rintro e w' ⟨rfl, rfl⟩)
    go_ret
    exact ⟨rfl, Below.refl _ _⟩
  have hi2 := inB_iff.1 hi
  have HI := Lib.hid hi
  have HG := Lib.hid hg
  clear hg
  have hsz : ∀ a ∈ ls, (noteS a.1 a.2).size ≤ 30 := fun a ha => by
    obtain ⟨j, hj⟩ := List.mem_iff_getElem?.1 ha
    have h1 := atomOk_size (HG.out j a hj)
    have h2 := noteS_size a.1 a.2
    have h3 : a.2.data.toList.length = a.2.size := by simp
    omega
  have HZ := Lib.hid hsz
  clear hsz
  go_enter Tryz.func117, Tryz.ntmps117
  go_wp2_with (go_at_call 66; refine (spec_l1In _ _ _ _).mono ?_; rw [hi]; rintro e w' ⟨rfl, rfl⟩)
  clear hi
  go_loopw [3, 4] (fun s i wr => ∃ k : Nat, k ≤ ls.length ∧ i = .int .i64 k ∧ (∃ m : Nat, s = .int .i64 m ∧ m + 1 = ls.length + sumN (ls.take k)) ∧ Below w.heap.size w wr) (fun _ i _ => ls.length - (intOf i).toNat)
  case atStart => exact ⟨0, Nat.zero_le _, rfl, ⟨ls.length - 1, by go_num, by simp [sumN]; omega⟩, Below.refl _ _⟩
  case round =>
    obtain ⟨k, hk, rfl, ⟨m, rfl, hm⟩, hb⟩ := hrel
    have hle := sumN_le ls k HZ.out
    have hmb : m ≤ 400 := by omega
    have HM := Lib.hid hm
    clear hm hle
    by_cases hlt : k < ls.length
    · obtain ⟨b, off, rfl, hb0, hc⟩ := (hr.below hb).2 (by omega)
      obtain ⟨⟨q, t⟩, hx⟩ := some_at ls hlt
      obtain ⟨c1, c2⟩ := flat2_reads (B := 0) hc (atomsP_at hx)
      have hgk := HG.out k _ hx
      have hzk := HZ.out _ (List.mem_of_getElem? hx)
      simp only at hgk hzk c1 c2
      have htz : t.size ≤ 1048576 := by
        have h1 := atomOk_size hgk
        have h3 : t.data.toList.length = t.size := by simp
        omega
      have HT := Lib.hid (sumN_take hx)
      have HX := Lib.hid hx
      clear hx hc
      go_wp2_with fail
      refine (spec_l5Good q t _ htz).mono ?_
      rw [hgk]
      clear hgk
      rintro e w1 ⟨rfl, b1⟩
      have B1 := hb.trans (b1.mono hb.size)
      have d1 := (b1.cell (p := ⟨b, off + k * 2, none⟩) (by have := hb.size; show b < _; omega)).trans c1
      have d2 := (b1.cell (p := ⟨b, off + k * 2 + 1, none⟩) (by have := hb.size; show b < _; omega)).trans c2
      clear c1 c2
      go_wp2_with fail
      refine (spec_l5Format q t _ htz).mono ?_
      rintro e w2 ⟨rfl, b2⟩
      have B2 := B1.trans (b2.mono B1.size)
      generalize noteS q t = ns at *
      go_wp2
      go_roundw
      case rel => exact ⟨k + 1, by omega, by go_num, ⟨m + ns.size, by go_num, by rw [HT.out]; have := HM.out; omega⟩, B2⟩
      case measure => simp [intOf]; omega
    · obtain rfl : k = ls.length := by omega
      go_wp2
      go_ret
      refine ⟨ret_bool ?_, hb⟩
      have := HM.out
      rw [List.take_of_length_le (Nat.le_refl _)] at this
      rw [Bool.true_and]
      exact decide_eq_decide.2 (by omega)
theorem le_sum_mem {n : Nat} : ∀ {l : List Nat}, n ∈ l → n ≤ l.sum
  | [], h => by simp at h
  | m :: l, h => by
    rcases List.mem_cons.1 h with rfl | h
    · simp
    · have := le_sum_mem h
      simp; omega
theorem join_length (b : UInt8) : ∀ (ps : List (List UInt8)), ps ≠ [] → (joinB b ps).length + 1 = (ps.map List.length).sum + ps.length
  | [], h => absurd rfl h
  | [p], _ => by rw [joinB_one]; simp
  | p :: q :: ps, _ => by
    have ih := join_length b (q :: ps) (by simp)
    rw [joinB_cons]
    simp only [List.length_append, List.length_cons, List.map_cons, List.sum_cons] at ih ⊢
    omega
theorem parts_total (c : UInt8) (s : ByteArray) : s.size + 1 = ((partsV c s).map ByteArray.size).sum + (partsV c s).length := by
  have h := join_length c (parts c s.data.toList) (parts_ne _ _)
  rw [join_parts] at h
  have h1 : s.data.toList.length = s.size := by simp
  have h2 : (partsV c s).map ByteArray.size = (parts c s.data.toList).map List.length := by
    unfold partsV
    rw [List.map_map]
    apply List.map_congr_left
    intro l _
    simp [ByteArray.size]
  have h3 : (partsV c s).length = (parts c s.data.toList).length := by simp [partsV]
  rw [h2, h3]
  omega
/-- The atoms of the first parts. -/
def Atoms (ps : List ByteArray) (ls : List AtomD) : Prop := ∀ (j : Nat) (a : AtomD) x, ls[j]? = some a → ps[j]? = some x → atomOk a.1 a.2.data.toList = true ∧ noteL a.1 a.2.data.toList = x.data.toList
theorem atoms_good {ps : List ByteArray} {ls : List AtomD} (h : Atoms ps ls) (hl : ls.length ≤ ps.length) : GoodAtoms ls := fun j a ha => by
  obtain ⟨x, hx⟩ := some_at ps (show j < ps.length by have := (List.getElem?_eq_some_iff.1 ha).1; omega)
  exact (h j a x ha hx).1
theorem atoms_sum {ps : List ByteArray} {ls : List AtomD} (h : Atoms ps ls) (hl : ls.length = ps.length) : sumN ls = (ps.map ByteArray.size).sum := by
  have he : ls.map (fun a => (noteS a.1 a.2).size) = ps.map ByteArray.size := by
    apply List.ext_getElem?
    intro j
    rw [List.getElem?_map, List.getElem?_map]
    cases ha : ls[j]? with
    | none =>
      have := List.getElem?_eq_none_iff.1 ha
      rw [List.getElem?_eq_none (by omega)]
      rfl
    | some a =>
      obtain ⟨x, hx⟩ := some_at ps (show j < ps.length by have := (List.getElem?_eq_some_iff.1 ha).1; omega)
      rw [hx]
      have h2 := (h j a x ha hx).2
      have h3 : (noteS a.1 a.2).size = (noteL a.1 a.2.data.toList).length := by simp [noteS, ByteArray.size]
      have h4 : x.data.toList.length = x.size := by simp
      simp only [Option.map_some]
      rw [h3, h2, h4]
  unfold sumN
  rw [he]
def TranRes (s : ByteArray) (w : World) (e : Ending) (w' : World) : Prop := ∃ v, e = .returned (.tuple #[v, .bool (tranB s)]) ∧ Below w.heap.size w w'
theorem tran_end {s : ByteArray} {w w' : World} {v : Value} {b : Bool} (hb : b = tranB s) (h : Below w.heap.size w w') : TranRes s w (.returned (.tuple #[v, .bool b])) w' := ⟨v, by rw [hb], h⟩
set_option maxHeartbeats 4000000 in
theorem spec_l5Parse (s : ByteArray) (w : World) (hs : s.size ≤ 1048576) : Calls Tryz.prog 102 #[.string s] w (TranRes s w) := by
  by_cases h60 : s.size ≤ 60
  case neg =>
    have HN := Lib.hid (show tranB s = false by simp [tranB, h60])
    have i1 : (60 : Int) < (s.size : Int) := by omega
    go_enter Tryz.func102, Tryz.ntmps102
    go_wp2
    go_ret2
    exact tran_end HN.out.symm ((Below.refl _ _).alloc (Nat.le_refl _) _)
  have hb0 : Below w.heap.size w (w.alloc (.cells #[] 129)) := (Below.refl _ _).alloc (Nat.le_refl _) _
  have own0 : (w.alloc (.cells #[] 129)).ownsRow w.heap.size 129 2 (.slice (some ⟨w.heap.size, 0, none⟩) 0 0) 0 (flat2 (atomsP [])) := World.ownsRow_made _ _ _ (Nat.le_refl _) (by simp) rfl
  go_enter Tryz.func102, Tryz.ntmps102
  go_wp2_with fail
  generalize hX : w.alloc (.cells #[] 129) = x0 at *
  have HX0 := Lib.hid (show x0.heap.size = w.heap.size + 1 by rw [← hX]; simp)
  clear hX
  refine (spec_l1Split s 32 32 rfl _ (by omega)).mono ?_
  rintro e w1 ⟨v, rfl, op, b1⟩
  have htot := parts_total 32 s
  have hpl : (partsV 32 s).length ≤ 61 := by omega
  have hp1 : 1 ≤ (partsV 32 s).length := by rw [← countB_parts]; omega
  have HTOT := Lib.hid htot
  have HTY := Lib.hid (fun h => tran_yes (s := s) h60 h)
  have HTN := Lib.hid (fun (k : Nat) x h hx => tran_no (s := s) (k := k) (x := x) h hx)
  have HSZ := Lib.hid (show ∀ x ∈ partsV 32 s, x.size ≤ 61 from fun x hx => by
    have : x.size ≤ ((partsV 32 s).map ByteArray.size).sum := le_sum_mem (List.mem_map.2 ⟨x, hx, rfl⟩)
    omega)
  have B1 := hb0.trans (b1.mono hb0.size)
  have own1 := row_below own0 b1
  obtain ⟨g, c, hv, -, -, -, hc1, hc2, -, -⟩ := op.open_ hp1
  subst hv
  have rp := op.1
  obtain ⟨lo, hlo⟩ : ∃ lo, lo = x0.heap.size := ⟨_, rfl⟩
  rw [← hlo] at rp
  generalize partsV 32 s = ps at *
  clear htot own0 op hlo
  have hz1 : w.heap.size ≤ w1.heap.size := B1.size
  go_wp2
  go_loopw [4, 6] (fun v i wr => ∃ (k : Nat) (ls : List AtomD), k ≤ ps.length ∧ i = .int .i64 k ∧ ls.length = k ∧ wr.ownsRow w.heap.size 129 2 v ls.length (flat2 (atomsP ls)) ∧ Atoms ps ls ∧ (∀ j x, j < k → ps[j]? = some x → atomB x = true) ∧ wr.ownsRow lo 9 1 (.slice (some ⟨g, 0, none⟩) ps.length c) ps.length (strsV ps) ∧ Below w.heap.size w wr) (fun _ i _ => ps.length - (intOf i).toNat)
  case atStart => exact ⟨0, [], Nat.zero_le _, rfl, rfl, own1, fun j a x h => by simp at h, fun j x h => absurd h (Nat.not_lt_zero _), rp, B1⟩
  case round =>
    obtain ⟨k, ls, hk, rfl, hll, hown, hat, hall, hrp, hb⟩ := hrel
    have HAT := Lib.hid hat
    have HALL := Lib.hid hall
    have HLL := Lib.hid hll
    have hlk : ls.length ≤ 61 := by omega
    clear hat hall hll
    by_cases hlt : k < ps.length
    · obtain ⟨x, hx⟩ := some_at ps hlt
      have cx : wr.cell? ⟨g, k, none⟩ = some (.string x) := (hrp.cellAt k (by omega)).trans (strsV_at hx)
      have hxz := HSZ.out x (List.mem_of_getElem? hx)
      have HX := Lib.hid hx
      clear hx
      go_wp2_with fail
      refine (spec_ParseAtom x _ (by omega)).mono ?_
      rintro e w2 ⟨q, t, rfl, hq, b2⟩
      have HQ := Lib.hid hq
      clear hq
      have B2 := hb.trans (b2.mono hb.size)
      have own2 := row_below hown b2
      have rp2 := row_below hrp b2
      cases hb' : atomB x
      · have HN := Lib.hid (HTN.out k x HX.out hb')
        clear hb'
        go_wp2
        go_ret2
        exact tran_end HN.out.symm (((B2.alloc B2.size _)).alloc (by have := B2.size; simp; omega) _)
      · have HB := Lib.hid hb'
        clear hb'
        have own3 := own2.alloc (.cells #[.int .i64 q, .string t] 129)
        have B3 := B2.alloc B2.size (.cells #[.int .i64 q, .string t] 129)
        have rp3 := rp2.alloc (.cells #[.int .i64 q, .string t] 129)
        have c0 := (Two.new w2 129 (.int .i64 q) (.string t)).cell0
        have c1 := (Two.new w2 129 (.int .i64 q) (.string t)).cell1
        have hz4 := B3.size
        have HAP := Lib.hid (rows_apart rp3 own3 (by decide) g rfl)
        clear own2 rp2 hown hrp cx
        generalize hX : w2.alloc (.cells #[.int .i64 q, .string t] 129) = x3 at *
        go_wp2_with (at_builtin; refine wpList_append_twoG own3 hz4 (.tmp 33) (.tmp 35) 114 Tryz.underlying114 info_atom (by omega) (by unfold maxLen; omega) ⟨rfl, rfl, rfl, rfl, rfl, rfl, rfl⟩ rfl ?_; intro v4 w4 hown4 hg4)
        have hlen : ls.length = k := HLL.out
        go_roundw
        case rel =>
          refine ⟨k + 1, ls ++ [(q, t)], by omega, by go_num, by simp [hlen], by rw [List.length_append, atomsP_snoc, flat2_snoc]; exact hown4, fun j a y ha hy => ?_, fun j y hj hy => ?_, rp3.kept hg4 (.inr (fun h => HAP.out h.symm)), below_grown B3 hg4 hz4 own3 rfl (Nat.le_refl _)⟩
          · rcases Nat.lt_or_ge j ls.length with h | h
            · rw [List.getElem?_append_left h] at ha
              exact HAT.out j a y ha hy
            · rw [List.getElem?_append_right h] at ha
              have hj : j = ls.length := by
                have := (List.getElem?_eq_some_iff.1 ha).1
                simp at this
                omega
              subst hj
              simp at ha
              subst ha
              rw [hlen, HX.out] at hy
              rw [← Option.some.inj hy]
              exact HQ.out HB.out
          · rcases Nat.lt_or_ge j k with h | h
            · exact HALL.out j y h hy
            · obtain rfl : j = k := by omega
              rw [HX.out] at hy
              rw [← Option.some.inj hy]
              exact HB.out
        case measure => simp [intOf]; omega
    · obtain rfl : k = ps.length := by omega
      have hg := atoms_good HAT.out (by have := HLL.out; omega)
      have hsum := atoms_sum HAT.out HLL.out
      obtain ⟨A', c', rfl, ra, -, -⟩ := (Own.of_row hown).slice
      have HE := Lib.hid (HTY.out fun j x hj => HALL.out j x (List.getElem?_eq_some_iff.1 hj).1 hj)
      have HR := Lib.hid (show (inB (ls.length : Int) 1 10 && decide ((ls.length : Int) - 1 + sumN ls ≤ 60)) = tranB s by
        rw [HE.out]
        have h1 := HTOT.out
        have h2 := HLL.out
        unfold inB
        rw [Bool.eq_iff_iff]
        simp only [Bool.and_eq_true, decide_eq_true_eq]
        omega)
      have HG := Lib.hid hg
      clear hsum hg
      go_wp2_with fail
      refine (spec_l5List A' c' ls _ ra (by omega) HG.out).mono ?_
      rw [HR.out]
      rintro e w3 ⟨rfl, b3⟩
      have B3 := hb.trans (b3.mono hb.size)
      cases hv : tranB s
      · have HV := Lib.hid hv
        clear hv
        go_wp2
        go_ret2
        exact tran_end HV.out.symm (B3.alloc B3.size _)
      · have HV := Lib.hid hv
        clear hv
        go_wp2
        go_ret2
        exact tran_end HV.out.symm B3
end Go.Proofs.YtekidodfcanjaaaGreatDoor
