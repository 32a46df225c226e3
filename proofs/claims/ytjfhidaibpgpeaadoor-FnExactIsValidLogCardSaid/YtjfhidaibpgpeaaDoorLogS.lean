/-
  The reference reads the records of a log.
-/
import Derived.Test.YtjfhidaibpgpeaaDoorSeal
import Derived.Test.YtjfhidaibpgpeaaDoorStrs
import Derived.Test.YtjfhidaibpgpeaaDoorBase
import Derived.StillTailTactics
import Derived.Deep.RegionHeld3
namespace Go.Proofs.YtjfhidaibpgpeaaDoor
open Go.RowKit
set_option linter.unusedVariables false
set_option maxRecDepth 100000
set_option linter.unusedSimpArgs false

theorem partsV_zero (c : UInt8) (s : ByteArray) : (partsV c s)[0]? = some ⟨((parts c s.data.toList).headD []).toArray⟩ := by
  unfold partsV
  cases h : parts c s.data.toList with
  | nil => exact absurd h (parts_ne _ _)
  | cons p ps => rfl
theorem partsV_pos (c : UInt8) (s : ByteArray) : 0 < (partsV c s).length := by
  unfold partsV
  rw [List.length_map]
  exact List.length_pos_iff.2 (parts_ne _ _)
theorem partsV_len (c : UInt8) (s : ByteArray) : (partsV c s).length = (parts c s.data.toList).length := by simp [partsV]
theorem partsV_most (c : UInt8) (s : ByteArray) : (partsV c s).length ≤ s.size + 1 := by
  have h1 := parts_count c s.data.toList
  have h2 : s.data.toList.count c ≤ s.data.toList.length := List.count_le_length
  have h3 : s.data.toList.length = s.size := rfl
  rw [partsV_len]
  omega
theorem head_len (c : UInt8) (l : List UInt8) : ((parts c l).headD []).length ≤ l.length := by
  by_cases h : c ∈ l
  · obtain ⟨p, r, rfl, hp⟩ := split_first h
    rw [parts_cut r hp]
    simp
  · rw [parts_nosep h]
    simp

def ReadT (k : Nat) (L : List UInt8) (w : World) (x : Ending) (w' : World) : Prop :=
  ∃ (e : RecD) (b : Bool), x = .returned (.tuple #[.agg #[.string e.1, .string e.2], .bool b]) ∧ (b = true ↔ Dec k L) ∧ Below w.heap.size w w'
theorem readT_no {k : Nat} {L : List UInt8} {w w' : World} (h : ¬ Dec k L) (hb : Below w.heap.size w w') : ReadT k L w (.returned (.tuple #[.agg #[.string ⟨#[]⟩, .string ⟨#[]⟩], .bool false])) w' :=
  ⟨(⟨#[]⟩, ⟨#[]⟩), false, rfl, ⟨fun h' => (by cases h'), fun h' => absurd h' h⟩, hb⟩
theorem below_drew2 {w w' : World} (hb : Below w.heap.size w w') (m : Nat) : Below w.heap.size w (w'.drewN m) := below_drewN hb m
theorem drew_below (w : World) (m : Nat) : Below w.heap.size w (w.drewN m) := below_drewN (Below.refl _ _) m

theorem bytes_data (s : ByteArray) : (⟨s.data.toList.toArray⟩ : ByteArray) = s := by cases s; simp
theorem data_ext {a b : ByteArray} (h : a.data.toList = b.data.toList) : a = b := by rw [← bytes_data a, ← bytes_data b, h]
theorem extract_take (s : ByteArray) (n : Nat) : (s.extract 0 n).data.toList = s.data.toList.take n := by
  rw [ByteArray.data_extract]
  simp
theorem extract_drop (s : ByteArray) (n : Nat) : (s.extract n s.size).data.toList = s.data.toList.drop n := by
  rw [ByteArray.data_extract]
  simp only [Array.toList_extract, List.extract_eq_take_drop]
  exact List.take_of_length_le (by rw [List.length_drop]; exact Nat.le_refl _)
theorem size_data (s : ByteArray) : s.size = s.data.toList.length := rfl
theorem newline_eq (a b : List UInt8) : (⟨(a ++ [10]).toArray⟩ : ByteArray) = ⟨(b ++ [10]).toArray⟩ ↔ a = b := by
  constructor
  · intro h
    have := congrArg (fun x : ByteArray => x.data.toList) h
    simpa using this
  · rintro rfl; rfl
theorem add_newline (s : ByteArray) : s ++ ⟨#[10]⟩ = ⟨(s.data.toList ++ [10]).toArray⟩ := by
  obtain ⟨⟨l⟩⟩ := s
  exact bytes_add l [10]

theorem below_store2 {w w2 : World} (B2 : Below w.heap.size w w2) {g : Nat} (hg : w.heap.size ≤ g) (u v : Value) : Below w.heap.size w ((w2.setCell ⟨g, 0, none⟩ u).setCell ⟨g, 1, none⟩ v) :=
  (((Only.of_below (lo := w.heap.size) (hi := g + 1) B2).setCell (p := ⟨g, 0, none⟩) hg (by show g < g + 1; omega) u).setCell (p := ⟨g, 1, none⟩) hg (by show g < g + 1; omega) v).below (Nat.le_refl _) (Nat.le_refl _)

set_option maxHeartbeats 4000000 in
theorem spec_l24Read (s : ByteArray) (k : Nat) (w : World) (hs : s.size ≤ 1048576) (hk : k ≤ 59) :
    Calls Tryd.prog 38 #[.string s, .int .i64 k] w (ReadT k s.data.toList w) := by
  obtain ⟨D, hD⟩ : ∃ D, D = Lib.decDigits k := ⟨_, rfl⟩
  have hd : D.length ≤ 2 := by rw [hD]; exact dec_pow 1 k (by omega)
  have HN := Lib.hid (fun w => num_at k D hD k rfl w (by omega))
  obtain ⟨T, hT⟩ : ∃ T : ByteArray, T = ⟨(headP s.data.toList).toArray⟩ := ⟨_, rfl⟩
  have hT0 : (partsV 35 s)[0]? = some T := by rw [partsV_zero, hT]; rfl
  have hTl : T.data.toList = headP s.data.toList := by rw [hT]
  have hTs : T.size ≤ s.size := by rw [size_data, hTl]; exact head_len 35 s.data.toList
  obtain ⟨AH, hAH⟩ : ∃ AH : ByteArray, AH = ⟨D.toArray⟩ ++ ⟨#[32]⟩ := ⟨_, rfl⟩
  have hAl : AH.data.toList = aheadP k := by rw [hAH, show (⟨D.toArray⟩ : ByteArray) ++ ⟨#[32]⟩ = ⟨(D ++ [32]).toArray⟩ from bytes_add D [32], hD]; rfl
  have hAs : AH.size = D.length + 1 := by rw [size_data, hAl, aheadP, ← hD]; simp
  have HNA := Lib.hid (show ¬ (D.length + 1 ≤ T.size ∧ T.extract 0 (D.length + 1) = AH) → ¬ Dec k s.data.toList from fun h hdec => h (by
    obtain ⟨h1, h2⟩ := dec_ahead hdec
    rw [← hTl] at h1 h2
    have hl : (aheadP k).length = D.length + 1 := by rw [aheadP, ← hD]; simp
    rw [hl] at h1 h2
    exact ⟨h1, data_ext (by rw [extract_take, h2, hAl])⟩))
  obtain ⟨R, hR⟩ : ∃ R : ByteArray, R = T.extract (D.length + 1) T.size := ⟨_, rfl⟩
  have hRl : R.data.toList = (headP s.data.toList).drop ((Lib.decDigits k).length + 1) := by rw [hR, extract_drop, hTl, hD]
  have hRs : R.size ≤ T.size := by rw [size_data, size_data, hRl, hTl]; simp
  obtain ⟨Q, hQ⟩ : ∃ Q : ByteArray, Q = ⟨(askP k s.data.toList).toArray⟩ := ⟨_, rfl⟩
  have hQ0 : (partsV 62 R)[0]? = some Q := by rw [partsV_zero, hQ, hRl]; rfl
  have hQl : Q.data.toList = askP k s.data.toList := by rw [hQ]
  have hQs : Q.size ≤ R.size := by rw [size_data, size_data, hQl, hRl]; exact head_len 62 _
  have HNK := Lib.hid (show Q.size = R.size → ¬ Dec k s.data.toList from fun h hdec => dec_ask hdec (by rw [← hQl, ← hRl]; exact h))
  obtain ⟨RP, hRP⟩ : ∃ RP : ByteArray, RP = R.extract (Q.size + 1) R.size := ⟨_, rfl⟩
  have hRPs : RP.size ≤ R.size := by rw [hRP, size_data, size_data, extract_drop]; simp
  have hrec : specRec k s.data.toList = (Q, RP) := by
    unfold specRec
    rw [← hQ, ← hRl]
    refine Prod.ext rfl (data_ext ?_)
    rw [hRP, extract_drop, hQ]
    simp [ByteArray.size]
  have HDS := Lib.hid (show Dec k s.data.toList ↔ k ≤ 59 ∧ recB (Q, RP) = true ∧ lineR k (Q, RP) = s.data.toList by rw [← hrec]; exact dec_spec _ _)
  have hp0 := partsV_pos 35 s
  have hpm := partsV_most 35 s
  have hq0 := partsV_pos 62 R
  have hqm := partsV_most 62 R
  have HP0 := Lib.hid hT0
  have HQ0 := Lib.hid hQ0
  have HAH := Lib.hid hAH
  have HR := Lib.hid hR
  have HRP := Lib.hid hRP
  have y1 : ¬ (9223372036854775807 < D.length + 1) := by omega
  have y2 : ¬ (9223372036854775806 < D.length) := by omega
  clear hT hT0 hD hTl hAl hR hRl hQ hQ0 hQl hRP hrec hAH
  have hb0 : Below w.heap.size w (w.alloc (.cells #[.string ⟨#[]⟩, .string ⟨#[]⟩] 27)) := (Below.refl _ _).alloc (Nat.le_refl _) _
  have t0 := Two.new w 27 (.string ⟨#[]⟩) (.string ⟨#[]⟩)
  go_enter Tryd.func38, Tryd.ntmps38
  go_wp2_with fail
  generalize hWx : w.alloc (.cells #[.string ⟨#[]⟩, .string ⟨#[]⟩] 27) = wx at *
  clear hWx
  refine (HN.out _).mono ?_
  rintro e w1 ⟨rfl, m1, rfl⟩
  have b1 : Below wx.heap.size wx (wx.drewN m1) := drew_below wx m1
  generalize hW1 : wx.drewN m1 = w1 at *
  clear hW1
  go_wp2_with fail
  rw [← HAH.out]
  refine (spec_l1Split s _ 35 rfl _ (by omega)).mono ?_
  rintro e w2 ⟨v2, rfl, o2, b2⟩
  obtain ⟨g2, c2, rfl, -, -, hg2, -, -, hc2, -⟩ := o2.open_ hp0
  have tR2 := (t0.far b1).far b2
  have g0 := tR2.free 0
  have g1 := tR2.free 1
  have r0 := tR2.cell0
  have r1 := tR2.cell1
  have B2 : Below w.heap.size w w2 := (hb0.trans (b1.mono hb0.size)).trans (b2.mono (Nat.le_trans hb0.size b1.size))
  have d2 : w2.cell? ⟨g2, 0, none⟩ = some (.string T) := (hc2 0 (by omega)).trans (strsV_at HP0.out)
  have p0 : (0 : Int) < ((partsV 35 s).length : Int) := by omega
  clear hc2
  by_cases h1 : D.length + 1 ≤ T.size
  case neg =>
    have j1 : (T.size : Int) < (D.length : Int) + 1 := by omega
    have HNO := Lib.hid (HNA.out fun h => h1 h.1)
    go_wp2
    refine bodyPost_ret (v := .tuple #[.agg #[.string ⟨#[]⟩, .string ⟨#[]⟩], .bool false]) (by simp [results, go_sem, ((tR2.set0 (.string ⟨#[]⟩)).set1 (.string ⟨#[]⟩)).cell0, ((tR2.set0 (.string ⟨#[]⟩)).set1 (.string ⟨#[]⟩)).cell1]) rfl ?_
    exact readT_no HNO.out (below_store2 B2 (Nat.le_refl _) _ _)
  have j1 : ¬ (T.size : Int) < (D.length : Int) + 1 := by omega
  have j2 : (D.length : Int) + 1 ≤ (T.size : Int) := by omega
  have j3 : (0 : Int) ≤ (D.length : Int) + 1 := by omega
  by_cases hpre : T.extract 0 (D.length + 1) = AH
  case neg =>
    have hne := str_other hpre
    have HNO := Lib.hid (HNA.out fun h => hpre h.2)
    clear hpre
    go_wp2
    refine bodyPost_ret (v := .tuple #[.agg #[.string ⟨#[]⟩, .string ⟨#[]⟩], .bool false]) (by simp [results, go_sem, ((tR2.set0 (.string ⟨#[]⟩)).set1 (.string ⟨#[]⟩)).cell0, ((tR2.set0 (.string ⟨#[]⟩)).set1 (.string ⟨#[]⟩)).cell1]) rfl ?_
    exact readT_no HNO.out (below_store2 B2 (Nat.le_refl _) _ _)
  have HPR := Lib.hid hpre
  have HR2 := Lib.hid (show T.extract (D.length + 1) T.size = R from HR.out.symm)
  go_wp2_with fail
  rw [HR2.out]
  refine (spec_l1Split R _ 62 rfl _ (by omega)).mono ?_
  rintro e w3 ⟨v3, rfl, o3, b3⟩
  obtain ⟨g3, c3, rfl, -, -, hg3, -, -, hc3, -⟩ := o3.open_ hq0
  have B3 := B2.trans (b3.mono B2.size)
  have tR3 := tR2.far b3
  have d3 : w3.cell? ⟨g3, 0, none⟩ = some (.string Q) := (hc3 0 (by omega)).trans (strsV_at HQ0.out)
  have p1 : (0 : Int) < ((partsV 62 R).length : Int) := by omega
  clear hc3 d2 hpre g0 g1 r0 r1
  have g0 := tR3.free 0
  have g1 := tR3.free 1
  have r0 := tR3.cell0
  have r1 := tR3.cell1
  by_cases hqr : Q.size = R.size
  · have e1 : ((Q.size : Int) == (R.size : Int)) = true := by rw [hqr]; simp
    have HNO := Lib.hid (HNK.out hqr)
    clear hqr
    go_wp2
    refine bodyPost_ret (v := .tuple #[.agg #[.string ⟨#[]⟩, .string ⟨#[]⟩], .bool false]) (by simp [results, go_sem, ((tR3.set0 (.string ⟨#[]⟩)).set1 (.string ⟨#[]⟩)).cell0, ((tR3.set0 (.string ⟨#[]⟩)).set1 (.string ⟨#[]⟩)).cell1]) rfl ?_
    exact readT_no HNO.out (below_store2 B3 (Nat.le_refl _) _ _)
  have e1 : ((Q.size : Int) == (R.size : Int)) = false := by rw [beq_eq_false_iff_ne]; omega
  have k1 : (Q.size : Int) + 1 ≤ (R.size : Int) := by omega
  have k0 : (0 : Int) ≤ (Q.size : Int) + 1 := by omega
  have HRP2 := Lib.hid (show R.extract (Q.size + 1) R.size = RP from HRP.out.symm)
  clear hqr
  have hbE : Below w3.heap.size w3 (w3.alloc (.cells #[.string Q, .string RP] 27)) := (Below.refl _ _).alloc (Nat.le_refl _) _
  have tE := Two.new w3 27 (.string Q) (.string RP)
  have tR4 := tR3.far hbE
  have B4 := B3.trans (hbE.mono B3.size)
  have hgE : w.heap.size < w3.heap.size := tR3.lt
  go_wp2
  rw [HRP2.out]
  generalize hWE : w3.alloc (.cells #[.string Q, .string RP] 27) = wE at *
  clear hWE
  have hSE := tE.cells
  have HNE := Lib.hid (show w.heap.size ≠ w3.heap.size by omega)
  have HG := Lib.hid (fun W => spec_l24Good Q RP W (by omega) (by omega))
  have y7 : ¬ (9223372036854775806 < s.size) := by omega
  have y8 : ¬ (9223372036854775807 < s.size + 1) := by omega
  obtain ⟨X, hX⟩ : ∃ X : ByteArray, X = ⟨(lineR k (Q, RP) ++ [10]).toArray⟩ := ⟨_, rfl⟩
  have HLN := Lib.hid (fun W => (show Calls Tryd.prog 19 #[.int .i64 k, .agg #[.string Q, .string RP]] W fun e w' => e = .returned (.string X) ∧ Below W.heap.size W w' by rw [hX]; exact spec_l24Line k Q RP W hk (by omega) (by omega)))
  have HXE := Lib.hid (show X = s ++ ⟨#[10]⟩ ↔ lineR k (Q, RP) = s.data.toList by rw [hX, add_newline, newline_eq])
  clear hX g0 g1 r0 r1 hbE
  cases hrb : recB (Q, RP)
  · have HRB := Lib.hid hrb
    have HNO := Lib.hid (show (false = true ↔ Dec k s.data.toList) by rw [HDS.out, hrb]; simp)
    clear hrb
    first | refine wp_region_noPanic ?_ | skip
    refine wp_region_held_drew (S := fun w' => w'.cell? ⟨w3.heap.size, 0, none⟩ = some (.string Q) ∧ w'.cell? ⟨w3.heap.size, 1, none⟩ = some (.string RP)) (by kernel_rfl) (by first | exact hSE | exact hS5 | exact hS6 | exact hSF | assumption) (fun hHeld => ?_)
    (refine wpAnyH_take (i := 0) (v := ?_) rfl (by kernel_rfl) (by kernel_rfl) (by kernel_rfl) (fun _ _ _ h => h) (Or.inl ⟨by rfl, ?_⟩) (by assumption) ?_; rotate_left; focus (intro w hSw; (try dsimp only at hSw); go_simp; try with_reducible rfl))
    (try simp only [List.getElem_toArray, List.getElem_cons_succ, List.getElem_cons_zero, Act.put, List.setIfInBounds_toArray, List.set_cons_zero, List.set_cons_succ])
    (refine wpAnyH_take (i := 1) (v := ?_) rfl (by kernel_rfl) (by kernel_rfl) (by kernel_rfl) (fun _ _ _ h => h) (Or.inl ⟨by rfl, ?_⟩) (by assumption) ?_; rotate_left; focus (intro w hSw; (try dsimp only at hSw); go_simp; try with_reducible rfl))
    (try simp only [List.getElem_toArray, List.getElem_cons_succ, List.getElem_cons_zero, Act.put, List.setIfInBounds_toArray, List.set_cons_zero, List.set_cons_succ])
    refine wpAnyH_ready (rs := [2]) (by kernel_rfl) (by simp) ?_
    refine AllReadyH.cons rfl (fun K hK => ?_) AllReadyH.nil
    go_simp
    (with_reducible refine (HG.out _).mono ?_); rw [HRB.out]; rintro e w5 ⟨rfl, b5'⟩; have b5 : Below wE.heap.size wE w5 := ((Below.refl wE.heap.size wE).drew).trans b5'; have tE5 := tE.far b5; have tR5 := tR4.far b5; have hS5 := tE5.cells; have hSF := (tE5.setTwo HNE.out (.string Q) (.string RP)).cells; have g0 := tR5.free 0; have g1 := tR5.free 1; have r0 := tR5.cell0; have r1 := tR5.cell1
    refine hK.out _ _ (by first | exact hSE | exact hS5 | exact hS6 | exact hSF | assumption) (fun hHeld => ?_)
    clear hK K
    (try simp only [List.getElem_toArray, List.getElem_cons_succ, List.getElem_cons_zero, Act.put, List.setIfInBounds_toArray, List.set_cons_zero, List.set_cons_succ])
    (refine wpAnyH_take (i := 3) (v := ?_) rfl (by kernel_rfl) (by kernel_rfl) (by kernel_rfl) (fun _ _ _ h => h) (Or.inl ⟨by rfl, ?_⟩) (by assumption) ?_; rotate_left; focus (intro w hSw; (try dsimp only at hSw); go_simp; try with_reducible rfl))
    (try simp only [List.getElem_toArray, List.getElem_cons_succ, List.getElem_cons_zero, Act.put, List.setIfInBounds_toArray, List.set_cons_zero, List.set_cons_succ])
    refine wpAnyH_take (i := 4) rfl (by kernel_rfl) (by kernel_rfl) (by kernel_rfl) (fun _ _ _ h => h) (Or.inr ⟨by kernel_rfl, rfl⟩) (by assumption) ?_
    (try simp only [List.getElem_toArray, List.getElem_cons_succ, List.getElem_cons_zero, Act.put, List.setIfInBounds_toArray, List.set_cons_zero, List.set_cons_succ])
    refine wpAnyH_take (i := 5) rfl (by kernel_rfl) (by kernel_rfl) (by kernel_rfl) (fun _ _ _ h => h) (Or.inr ⟨by kernel_rfl, rfl⟩) (by assumption) ?_
    (try simp only [List.getElem_toArray, List.getElem_cons_succ, List.getElem_cons_zero, Act.put, List.setIfInBounds_toArray, List.set_cons_zero, List.set_cons_succ])
    refine wpAnyH_take (i := 6) rfl (by kernel_rfl) (by kernel_rfl) (by kernel_rfl) (fun _ _ _ h => h) (Or.inr ⟨by kernel_rfl, rfl⟩) (by assumption) ?_
    (try simp only [List.getElem_toArray, List.getElem_cons_succ, List.getElem_cons_zero, Act.put, List.setIfInBounds_toArray, List.set_cons_zero, List.set_cons_succ])
    refine wpAnyH_take (i := 7) rfl (by kernel_rfl) (by kernel_rfl) (by kernel_rfl) (fun _ _ _ h => h) (Or.inr ⟨by kernel_rfl, rfl⟩) (by assumption) ?_
    (try simp only [List.getElem_toArray, List.getElem_cons_succ, List.getElem_cons_zero, Act.put, List.setIfInBounds_toArray, List.set_cons_zero, List.set_cons_succ])
    refine wpAnyH_take (i := 8) rfl (by kernel_rfl) (by kernel_rfl) (by kernel_rfl) (fun _ _ _ h => h) (Or.inr ⟨by kernel_rfl, rfl⟩) (by assumption) ?_
    (try simp only [List.getElem_toArray, List.getElem_cons_succ, List.getElem_cons_zero, Act.put, List.setIfInBounds_toArray, List.set_cons_zero, List.set_cons_succ])
    refine wpAnyH_take (i := 9) rfl (by kernel_rfl) (by kernel_rfl) (by kernel_rfl) (fun _ _ _ h => h) (Or.inr ⟨by kernel_rfl, rfl⟩) (by assumption) ?_
    (try simp only [List.getElem_toArray, List.getElem_cons_succ, List.getElem_cons_zero, Act.put, List.setIfInBounds_toArray, List.set_cons_zero, List.set_cons_succ])
    (refine wpAnyH_take (i := 10) (v := ?_) rfl (by kernel_rfl) (by kernel_rfl) (by kernel_rfl) (fun _ _ _ h => h) (Or.inl ⟨by rfl, ?_⟩) (by assumption) ?_; rotate_left; focus (intro w hSw; (try dsimp only at hSw); go_simp; try with_reducible rfl))
    (try simp only [List.getElem_toArray, List.getElem_cons_succ, List.getElem_cons_zero, Act.put, List.setIfInBounds_toArray, List.set_cons_zero, List.set_cons_succ])
    refine wpAnyH_ready (rs := [11]) (by kernel_rfl) (by simp) ?_
    refine AllReadyH.cons rfl (fun K hK => ?_) AllReadyH.nil
    go_simp
    skip
    refine hK.out _ _ (by first | exact hSE | exact hS5 | exact hS6 | exact hSF | assumption) (fun hHeld => ?_)
    clear hK K
    (try simp only [List.getElem_toArray, List.getElem_cons_succ, List.getElem_cons_zero, Act.put, List.setIfInBounds_toArray, List.set_cons_zero, List.set_cons_succ])
    (refine wpAnyH_take (i := 12) (v := ?_) rfl (by kernel_rfl) (by kernel_rfl) (by kernel_rfl) (fun _ _ _ h => h) (Or.inl ⟨by rfl, ?_⟩) (by assumption) ?_; rotate_left; focus (intro w hSw; (try dsimp only at hSw); go_simp; try with_reducible rfl))
    (try simp only [List.getElem_toArray, List.getElem_cons_succ, List.getElem_cons_zero, Act.put, List.setIfInBounds_toArray, List.set_cons_zero, List.set_cons_succ])
    refine wpAnyH_done (by kernel_rfl) ?_ _
    first | refine NoPanic.normal ?_ | skip
    clear hHeld
    go_wp2
    refine bodyPost_ret (v := .tuple #[.agg #[.string Q, .string RP], .bool false]) (by simp [results, go_sem, (tR5.setSelf (.string Q) (.string RP)).cell0, (tR5.setSelf (.string Q) (.string RP)).cell1]) rfl ?_
    exact ⟨(Q, RP), false, rfl, HNO.out, below_store2 (B4.trans (b5.mono B4.size)) (Nat.le_refl _) _ _⟩
  have HRB := Lib.hid hrb
  by_cases hxe : X = s ++ ⟨#[10]⟩
  · have HYES := Lib.hid (show Dec k s.data.toList by rw [HDS.out, HRB.out, ← HXE.out]; exact ⟨hk, rfl, hxe⟩)
    subst hxe
    clear hrb
    first | refine wp_region_noPanic ?_ | skip
    refine wp_region_held_drew (S := fun w' => w'.cell? ⟨w3.heap.size, 0, none⟩ = some (.string Q) ∧ w'.cell? ⟨w3.heap.size, 1, none⟩ = some (.string RP)) (by kernel_rfl) (by first | exact hSE | exact hS5 | exact hS6 | exact hSF | assumption) (fun hHeld => ?_)
    (refine wpAnyH_take (i := 0) (v := ?_) rfl (by kernel_rfl) (by kernel_rfl) (by kernel_rfl) (fun _ _ _ h => h) (Or.inl ⟨by rfl, ?_⟩) (by assumption) ?_; rotate_left; focus (intro w hSw; (try dsimp only at hSw); go_simp; try with_reducible rfl))
    (try simp only [List.getElem_toArray, List.getElem_cons_succ, List.getElem_cons_zero, Act.put, List.setIfInBounds_toArray, List.set_cons_zero, List.set_cons_succ])
    (refine wpAnyH_take (i := 1) (v := ?_) rfl (by kernel_rfl) (by kernel_rfl) (by kernel_rfl) (fun _ _ _ h => h) (Or.inl ⟨by rfl, ?_⟩) (by assumption) ?_; rotate_left; focus (intro w hSw; (try dsimp only at hSw); go_simp; try with_reducible rfl))
    (try simp only [List.getElem_toArray, List.getElem_cons_succ, List.getElem_cons_zero, Act.put, List.setIfInBounds_toArray, List.set_cons_zero, List.set_cons_succ])
    refine wpAnyH_ready (rs := [2]) (by kernel_rfl) (by simp) ?_
    refine AllReadyH.cons rfl (fun K hK => ?_) AllReadyH.nil
    go_simp
    (with_reducible refine (HG.out _).mono ?_); rw [HRB.out]; rintro e w5 ⟨rfl, b5'⟩; have b5 : Below wE.heap.size wE w5 := ((Below.refl wE.heap.size wE).drew).trans b5'; have tE5 := tE.far b5; have tR5 := tR4.far b5; have hS5 := tE5.cells
    refine hK.out _ _ (by first | exact hSE | exact hS5 | exact hS6 | exact hSF | assumption) (fun hHeld => ?_)
    clear hK K
    (try simp only [List.getElem_toArray, List.getElem_cons_succ, List.getElem_cons_zero, Act.put, List.setIfInBounds_toArray, List.set_cons_zero, List.set_cons_succ])
    (refine wpAnyH_take (i := 3) (v := ?_) rfl (by kernel_rfl) (by kernel_rfl) (by kernel_rfl) (fun _ _ _ h => h) (Or.inl ⟨by rfl, ?_⟩) (by assumption) ?_; rotate_left; focus (intro w hSw; (try dsimp only at hSw); go_simp; try with_reducible rfl))
    (try simp only [List.getElem_toArray, List.getElem_cons_succ, List.getElem_cons_zero, Act.put, List.setIfInBounds_toArray, List.set_cons_zero, List.set_cons_succ])
    (refine wpAnyH_take (i := 4) (v := ?_) rfl (by kernel_rfl) (by kernel_rfl) (by kernel_rfl) (fun _ _ _ h => h) (Or.inl ⟨by rfl, ?_⟩) (by assumption) ?_; rotate_left; focus (intro w hSw; (try dsimp only at hSw); go_simp; try with_reducible rfl))
    (try simp only [List.getElem_toArray, List.getElem_cons_succ, List.getElem_cons_zero, Act.put, List.setIfInBounds_toArray, List.set_cons_zero, List.set_cons_succ])
    (refine wpAnyH_take (i := 5) (v := ?_) rfl (by kernel_rfl) (by kernel_rfl) (by kernel_rfl) (fun _ _ _ h => h) (Or.inl ⟨by rfl, ?_⟩) (by assumption) ?_; rotate_left; focus (intro w hSw; (try dsimp only at hSw); go_simp; try with_reducible rfl))
    (try simp only [List.getElem_toArray, List.getElem_cons_succ, List.getElem_cons_zero, Act.put, List.setIfInBounds_toArray, List.set_cons_zero, List.set_cons_succ])
    (refine wpAnyH_take (i := 7) (v := ?_) rfl (by kernel_rfl) (by kernel_rfl) (by kernel_rfl) (fun _ _ _ h => h) (Or.inl ⟨by rfl, ?_⟩) (by assumption) ?_; rotate_left; focus (intro w hSw; (try dsimp only at hSw); go_simp; try with_reducible rfl))
    (try simp only [List.getElem_toArray, List.getElem_cons_succ, List.getElem_cons_zero, Act.put, List.setIfInBounds_toArray, List.set_cons_zero, List.set_cons_succ])
    (refine wpAnyH_take (i := 8) (v := ?_) rfl (by kernel_rfl) (by kernel_rfl) (by kernel_rfl) (fun _ _ _ h => h) (Or.inl ⟨by rfl, ?_⟩) (by assumption) ?_; rotate_left; focus (intro w hSw; (try dsimp only at hSw); go_simp; try with_reducible rfl))
    (try simp only [List.getElem_toArray, List.getElem_cons_succ, List.getElem_cons_zero, Act.put, List.setIfInBounds_toArray, List.set_cons_zero, List.set_cons_succ])
    refine wpAnyH_ready (rs := [6]) (by kernel_rfl) (by simp) ?_
    refine AllReadyH.cons rfl (fun K hK => ?_) AllReadyH.nil
    go_simp
    (with_reducible refine (HLN.out _).mono ?_); rintro e w6 ⟨rfl, b6⟩; have B56 := b5.trans (b6.mono b5.size); have tE6 := tE5.far b6; have tR6 := tR5.far b6; have hS6 := tE6.cells; have hSF := (tE6.setTwo HNE.out (.string Q) (.string RP)).cells; have g0 := tR6.free 0; have g1 := tR6.free 1; have r0 := tR6.cell0; have r1 := tR6.cell1
    refine hK.out _ _ (by first | exact hSE | exact hS5 | exact hS6 | exact hSF | assumption) (fun hHeld => ?_)
    clear hK K
    (try simp only [List.getElem_toArray, List.getElem_cons_succ, List.getElem_cons_zero, Act.put, List.setIfInBounds_toArray, List.set_cons_zero, List.set_cons_succ])
    (refine wpAnyH_take (i := 9) (v := ?_) rfl (by kernel_rfl) (by kernel_rfl) (by kernel_rfl) (fun _ _ _ h => h) (Or.inl ⟨by rfl, ?_⟩) (by assumption) ?_; rotate_left; focus (intro w hSw; (try dsimp only at hSw); go_simp; try with_reducible rfl))
    (try simp only [List.getElem_toArray, List.getElem_cons_succ, List.getElem_cons_zero, Act.put, List.setIfInBounds_toArray, List.set_cons_zero, List.set_cons_succ])
    (refine wpAnyH_take (i := 10) (v := ?_) rfl (by kernel_rfl) (by kernel_rfl) (by kernel_rfl) (fun _ _ _ h => h) (Or.inl ⟨by rfl, ?_⟩) (by assumption) ?_; rotate_left; focus (intro w hSw; (try dsimp only at hSw); go_simp; try with_reducible rfl))
    (try simp only [List.getElem_toArray, List.getElem_cons_succ, List.getElem_cons_zero, Act.put, List.setIfInBounds_toArray, List.set_cons_zero, List.set_cons_succ])
    refine wpAnyH_ready (rs := [11]) (by kernel_rfl) (by simp) ?_
    refine AllReadyH.cons rfl (fun K hK => ?_) AllReadyH.nil
    go_simp
    skip
    refine hK.out _ _ (by first | exact hSE | exact hS5 | exact hS6 | exact hSF | assumption) (fun hHeld => ?_)
    clear hK K
    (try simp only [List.getElem_toArray, List.getElem_cons_succ, List.getElem_cons_zero, Act.put, List.setIfInBounds_toArray, List.set_cons_zero, List.set_cons_succ])
    (refine wpAnyH_take (i := 12) (v := ?_) rfl (by kernel_rfl) (by kernel_rfl) (by kernel_rfl) (fun _ _ _ h => h) (Or.inl ⟨by rfl, ?_⟩) (by assumption) ?_; rotate_left; focus (intro w hSw; (try dsimp only at hSw); go_simp; try with_reducible rfl))
    (try simp only [List.getElem_toArray, List.getElem_cons_succ, List.getElem_cons_zero, Act.put, List.setIfInBounds_toArray, List.set_cons_zero, List.set_cons_succ])
    refine wpAnyH_done (by kernel_rfl) ?_ _
    first | refine NoPanic.normal ?_ | skip
    clear hHeld
    go_wp2
    refine bodyPost_ret (v := .tuple #[.agg #[.string Q, .string RP], .bool true]) (by simp [results, go_sem, (tR6.setSelf (.string Q) (.string RP)).cell0, (tR6.setSelf (.string Q) (.string RP)).cell1]) rfl ?_
    exact ⟨(Q, RP), true, rfl, ⟨fun _ => HYES.out, fun _ => rfl⟩, below_store2 (B4.trans (B56.mono B4.size)) (Nat.le_refl _) _ _⟩
  · have hne := str_other hxe
    have HNO := Lib.hid (show (false = true ↔ Dec k s.data.toList) by rw [HDS.out, ← HXE.out]; simp [hxe])
    clear hrb hxe
    first | refine wp_region_noPanic ?_ | skip
    refine wp_region_held_drew (S := fun w' => w'.cell? ⟨w3.heap.size, 0, none⟩ = some (.string Q) ∧ w'.cell? ⟨w3.heap.size, 1, none⟩ = some (.string RP)) (by kernel_rfl) (by first | exact hSE | exact hS5 | exact hS6 | exact hSF | assumption) (fun hHeld => ?_)
    (refine wpAnyH_take (i := 0) (v := ?_) rfl (by kernel_rfl) (by kernel_rfl) (by kernel_rfl) (fun _ _ _ h => h) (Or.inl ⟨by rfl, ?_⟩) (by assumption) ?_; rotate_left; focus (intro w hSw; (try dsimp only at hSw); go_simp; try with_reducible rfl))
    (try simp only [List.getElem_toArray, List.getElem_cons_succ, List.getElem_cons_zero, Act.put, List.setIfInBounds_toArray, List.set_cons_zero, List.set_cons_succ])
    (refine wpAnyH_take (i := 1) (v := ?_) rfl (by kernel_rfl) (by kernel_rfl) (by kernel_rfl) (fun _ _ _ h => h) (Or.inl ⟨by rfl, ?_⟩) (by assumption) ?_; rotate_left; focus (intro w hSw; (try dsimp only at hSw); go_simp; try with_reducible rfl))
    (try simp only [List.getElem_toArray, List.getElem_cons_succ, List.getElem_cons_zero, Act.put, List.setIfInBounds_toArray, List.set_cons_zero, List.set_cons_succ])
    refine wpAnyH_ready (rs := [2]) (by kernel_rfl) (by simp) ?_
    refine AllReadyH.cons rfl (fun K hK => ?_) AllReadyH.nil
    go_simp
    (with_reducible refine (HG.out _).mono ?_); rw [HRB.out]; rintro e w5 ⟨rfl, b5'⟩; have b5 : Below wE.heap.size wE w5 := ((Below.refl wE.heap.size wE).drew).trans b5'; have tE5 := tE.far b5; have tR5 := tR4.far b5; have hS5 := tE5.cells
    refine hK.out _ _ (by first | exact hSE | exact hS5 | exact hS6 | exact hSF | assumption) (fun hHeld => ?_)
    clear hK K
    (try simp only [List.getElem_toArray, List.getElem_cons_succ, List.getElem_cons_zero, Act.put, List.setIfInBounds_toArray, List.set_cons_zero, List.set_cons_succ])
    (refine wpAnyH_take (i := 3) (v := ?_) rfl (by kernel_rfl) (by kernel_rfl) (by kernel_rfl) (fun _ _ _ h => h) (Or.inl ⟨by rfl, ?_⟩) (by assumption) ?_; rotate_left; focus (intro w hSw; (try dsimp only at hSw); go_simp; try with_reducible rfl))
    (try simp only [List.getElem_toArray, List.getElem_cons_succ, List.getElem_cons_zero, Act.put, List.setIfInBounds_toArray, List.set_cons_zero, List.set_cons_succ])
    (refine wpAnyH_take (i := 4) (v := ?_) rfl (by kernel_rfl) (by kernel_rfl) (by kernel_rfl) (fun _ _ _ h => h) (Or.inl ⟨by rfl, ?_⟩) (by assumption) ?_; rotate_left; focus (intro w hSw; (try dsimp only at hSw); go_simp; try with_reducible rfl))
    (try simp only [List.getElem_toArray, List.getElem_cons_succ, List.getElem_cons_zero, Act.put, List.setIfInBounds_toArray, List.set_cons_zero, List.set_cons_succ])
    (refine wpAnyH_take (i := 5) (v := ?_) rfl (by kernel_rfl) (by kernel_rfl) (by kernel_rfl) (fun _ _ _ h => h) (Or.inl ⟨by rfl, ?_⟩) (by assumption) ?_; rotate_left; focus (intro w hSw; (try dsimp only at hSw); go_simp; try with_reducible rfl))
    (try simp only [List.getElem_toArray, List.getElem_cons_succ, List.getElem_cons_zero, Act.put, List.setIfInBounds_toArray, List.set_cons_zero, List.set_cons_succ])
    (refine wpAnyH_take (i := 7) (v := ?_) rfl (by kernel_rfl) (by kernel_rfl) (by kernel_rfl) (fun _ _ _ h => h) (Or.inl ⟨by rfl, ?_⟩) (by assumption) ?_; rotate_left; focus (intro w hSw; (try dsimp only at hSw); go_simp; try with_reducible rfl))
    (try simp only [List.getElem_toArray, List.getElem_cons_succ, List.getElem_cons_zero, Act.put, List.setIfInBounds_toArray, List.set_cons_zero, List.set_cons_succ])
    (refine wpAnyH_take (i := 8) (v := ?_) rfl (by kernel_rfl) (by kernel_rfl) (by kernel_rfl) (fun _ _ _ h => h) (Or.inl ⟨by rfl, ?_⟩) (by assumption) ?_; rotate_left; focus (intro w hSw; (try dsimp only at hSw); go_simp; try with_reducible rfl))
    (try simp only [List.getElem_toArray, List.getElem_cons_succ, List.getElem_cons_zero, Act.put, List.setIfInBounds_toArray, List.set_cons_zero, List.set_cons_succ])
    refine wpAnyH_ready (rs := [6]) (by kernel_rfl) (by simp) ?_
    refine AllReadyH.cons rfl (fun K hK => ?_) AllReadyH.nil
    go_simp
    (with_reducible refine (HLN.out _).mono ?_); rintro e w6 ⟨rfl, b6⟩; have B56 := b5.trans (b6.mono b5.size); have tE6 := tE5.far b6; have tR6 := tR5.far b6; have hS6 := tE6.cells; have hSF := (tE6.setTwo HNE.out (.string Q) (.string RP)).cells; have g0 := tR6.free 0; have g1 := tR6.free 1; have r0 := tR6.cell0; have r1 := tR6.cell1
    refine hK.out _ _ (by first | exact hSE | exact hS5 | exact hS6 | exact hSF | assumption) (fun hHeld => ?_)
    clear hK K
    (try simp only [List.getElem_toArray, List.getElem_cons_succ, List.getElem_cons_zero, Act.put, List.setIfInBounds_toArray, List.set_cons_zero, List.set_cons_succ])
    (refine wpAnyH_take (i := 9) (v := ?_) rfl (by kernel_rfl) (by kernel_rfl) (by kernel_rfl) (fun _ _ _ h => h) (Or.inl ⟨by rfl, ?_⟩) (by assumption) ?_; rotate_left; focus (intro w hSw; (try dsimp only at hSw); go_simp; try with_reducible rfl))
    (try simp only [List.getElem_toArray, List.getElem_cons_succ, List.getElem_cons_zero, Act.put, List.setIfInBounds_toArray, List.set_cons_zero, List.set_cons_succ])
    (refine wpAnyH_take (i := 10) (v := ?_) rfl (by kernel_rfl) (by kernel_rfl) (by kernel_rfl) (fun _ _ _ h => h) (Or.inl ⟨by rfl, ?_⟩) (by assumption) ?_; rotate_left; focus (intro w hSw; (try dsimp only at hSw); go_simp; try with_reducible rfl))
    (try simp only [List.getElem_toArray, List.getElem_cons_succ, List.getElem_cons_zero, Act.put, List.setIfInBounds_toArray, List.set_cons_zero, List.set_cons_succ])
    refine wpAnyH_ready (rs := [11]) (by kernel_rfl) (by simp) ?_
    refine AllReadyH.cons rfl (fun K hK => ?_) AllReadyH.nil
    go_simp
    skip
    refine hK.out _ _ (by first | exact hSE | exact hS5 | exact hS6 | exact hSF | assumption) (fun hHeld => ?_)
    clear hK K
    (try simp only [List.getElem_toArray, List.getElem_cons_succ, List.getElem_cons_zero, Act.put, List.setIfInBounds_toArray, List.set_cons_zero, List.set_cons_succ])
    (refine wpAnyH_take (i := 12) (v := ?_) rfl (by kernel_rfl) (by kernel_rfl) (by kernel_rfl) (fun _ _ _ h => h) (Or.inl ⟨by rfl, ?_⟩) (by assumption) ?_; rotate_left; focus (intro w hSw; (try dsimp only at hSw); go_simp; try with_reducible rfl))
    (try simp only [List.getElem_toArray, List.getElem_cons_succ, List.getElem_cons_zero, Act.put, List.setIfInBounds_toArray, List.set_cons_zero, List.set_cons_succ])
    refine wpAnyH_done (by kernel_rfl) ?_ _
    first | refine NoPanic.normal ?_ | skip
    clear hHeld
    go_wp2
    refine bodyPost_ret (v := .tuple #[.agg #[.string Q, .string RP], .bool false]) (by simp [results, go_sem, (tR6.setSelf (.string Q) (.string RP)).cell0, (tR6.setSelf (.string Q) (.string RP)).cell1]) rfl ?_
    exact ⟨(Q, RP), false, rfl, HNO.out, below_store2 (B4.trans (B56.mono B4.size)) (Nat.le_refl _) _ _⟩
end Go.Proofs.YtjfhidaibpgpeaaDoor
