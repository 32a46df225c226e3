/-
  The program's ParseCues.
-/
import Derived.Test.YtjdnmknegpikcaaDoorCuesParS
import Derived.Test.YtjdnmknegpikcaaDoorTimeJ
import Derived.Test.YtjdnmknegpikcaaDoorImplFormat
namespace Go.Proofs.YtjdnmknegpikcaaDoor
open Go.RowKit
set_option linter.unusedVariables false
set_option linter.unusedSimpArgs false
set_option maxRecDepth 100000

def cutF (X : ByteArray) : ByteArray := ⟨(Lib.cut X.data.toList arrowL).1.toArray⟩
def cutG (X : ByteArray) : ByteArray := ⟨(Lib.cut X.data.toList arrowL).2.1.toArray⟩
def cutH (X : ByteArray) : Bool := (Lib.cut X.data.toList arrowL).2.2
theorem cut_fst_le (s sep : List UInt8) : (Lib.cut s sep).1.length ≤ s.length := by
  unfold Lib.cut
  split
  · simp only [List.length_take]; omega
  · exact Nat.le_refl _
theorem cut_snd_le (s sep : List UInt8) : (Lib.cut s sep).2.1.length ≤ s.length := by
  unfold Lib.cut
  split
  · simp only [List.length_drop]; omega
  · simp
theorem cutF_size (X : ByteArray) : (cutF X).size ≤ X.size := cut_fst_le _ _
theorem cutG_size (X : ByteArray) : (cutG X).size ≤ X.size := cut_snd_le _ _
theorem impl_CutA (X : ByteArray) (w : World) (hs : X.size ≤ 4194304) (hm : MaxOk w) :
    Calls Tryd.prog 39 #[.string X, .string ⟨#[32, 45, 45, 62, 32]⟩] w fun e w' => e = .returned (.tuple #[.string (cutF X), .string (cutG X), .bool (cutH X)]) ∧ Below w.heap.size w w' := by
  obtain ⟨m, hm⟩ := hm
  refine (Tryd.strings_Cut X ⟨#[32, 45, 45, 62, 32]⟩ m w (by omega) hm).mono ?_
  rintro e w1 ⟨rfl, n, rfl⟩
  exact ⟨rfl, below_drewN (Below.refl _ _) n⟩
theorem within_fits {l : List CueD} {M : Nat} (h : Within l M) : Fits l := fun c hc => by
  have := h c hc
  omega
theorem text_lines30 {m : List CueD} (hv : validB m = true) : m.length ≤ 30 := by
  simp only [validB, Bool.and_eq_true, decide_eq_true_eq] at hv
  exact hv.1

set_option maxHeartbeats 8000000 in
theorem impl_ParseCues (s : ByteArray) (w : World) (hs : s.size ≤ 1048576) (htab : Lib.TabIs Tryd.prog w "internal/strconv.uint64pow10" .u64 Lib.pow10Tab) (herr : ErrOk w) (hm : MaxOk w) : Calls Tryd.prog 13 #[.string s] w (ParseC s w) := by
  have HT := Lib.hid (show ∀ W, Below w.heap.size w W → Lib.TabIs Tryd.prog W "internal/strconv.uint64pow10" .u64 Lib.pow10Tab from fun W hb => Lib.tabBelow_of_tabIs htab W hb)
  have HE := Lib.hid (show ∀ W, Below w.heap.size w W → ErrOk W from fun W hb => herr.below hb)
  have HM := Lib.hid (show ∀ W, Below w.heap.size w W → MaxOk W from fun W hb => hm.below hb)
  obtain ⟨L, hL⟩ : ∃ L, L = partsV 10 s := ⟨_, rfl⟩
  have hLm : L.length ≤ s.size + 1 := by rw [hL]; exact partsV_mostC 10 s
  have HL := Lib.hid hL
  have HSP := Lib.hid (show Calls Tryd.prog 38 #[.string s, .string ⟨#[10]⟩] w (NewStrs L w) by rw [hL]; exact impl_Split s 10 w (by omega) hm)
  clear hL htab herr hm
  go_enter Tryd.func13, Tryd.ntmps13
  go_wp2_with fail
  refine HSP.out.mono ?_
  rintro e w1 ⟨v1, rfl, o1, b1⟩
  obtain ⟨A1, c1, rfl, r1, -, -⟩ := o1.slice
  have hb0 : Below w1.heap.size w1 (w1.alloc (.cells #[] 59)) := (Below.refl _ _).alloc (Nat.le_refl _) _
  have own0 : (w1.alloc (.cells #[] 59)).ownsRow w1.heap.size 59 3 (.slice (some ⟨w1.heap.size, 0, none⟩) 0 0) 0 [] := World.ownsRow_made _ _ _ (Nat.le_refl _) (by simp) rfl
  clear o1
  by_cases h121 : L.length ≤ 121
  case neg =>
    have k0 : (121 : Int) < (L.length : Int) := by omega
    have HNO := Lib.hid (show ∀ m, validB m = true → textL m ≠ s.data.toList from fun m hv ht => by
      have h1 := (readC_at hv ht).1
      have h2 := text_lines30 hv
      rw [← HL.out] at h1
      omega)
    clear h121
    go_wp2
    go_ret2
    exact parseC_no HNO.out (b1.trans (hb0.mono b1.size))
  have k0 : ¬ (121 : Int) < (L.length : Int) := by omega
  go_wp2
  go_loopw [5, 6] (fun v i wr => ∃ (j : Nat) (l' : List CueD), i = .int .i64 (4 * (j : Int)) ∧ l'.length = j ∧ j ≤ L.length ∧ wr.ownsRow w1.heap.size 59 3 v j (cuesV l') ∧ ReadC s l' j ∧ Within l' s.size ∧ Below w1.heap.size w1 wr) (fun _ i _ => L.length + 4 - (intOf i).toNat)
  case atStart => exact ⟨0, [], rfl, rfl, Nat.zero_le _, own0, readC_zero s, fun c hc => by simp at hc, hb0⟩
  case round =>
    obtain ⟨j, l', rfl, hll, hjl, hown, hread, hwin, hb⟩ := hrel
    have HLL := Lib.hid hll
    have HRD := Lib.hid hread
    have HWI := Lib.hid hwin
    clear hread hwin hll
    have hsz := hb.size
    have w4 : IntKind.i64.wrap (4 * (j : Int) + 4) = 4 * (j : Int) + 4 := IntWalk.i64_in _ (by omega)
    by_cases hlt : 4 * j + 4 < L.length
    case neg =>
      have k1 : ¬ 4 * (j : Int) + 4 < (L.length : Int) := by omega
      have HEND := Lib.hid (fun m hv ht => readC_end (m := m) HRD.out hv ht (by rw [← HL.out]; exact hlt))
      have hll := HLL.out
      obtain ⟨A2, c2, rfl, r2, -, -⟩ := (Own.of_row hown).slice
      have hsh := within_short HWI.out (by unfold maxLen; omega)
      have HSH := Lib.hid hsh
      subst hll
      clear hsh
      have BW := b1.trans (hb.mono b1.size)
      have HFC := Lib.hid (impl_FormatCues A2 c2 l' wr r2 (by omega) HSH.out (within_fits HWI.out) (HT.out _ BW))
      cases hv : validB l'
      · have HNO := Lib.hid (show ∀ m, validB m = true → textL m ≠ s.data.toList from fun m hv' ht => by
          rw [← HEND.out m hv' ht, hv] at hv'
          cases hv')
        go_wp2_with fail
        refine HFC.out.mono ?_
        rw [hv]
        rintro e w3 ⟨rfl, b3⟩
        go_wp2
        go_ret2
        exact parseC_no HNO.out (BW.trans (b3.mono BW.size))
      · have HV := Lib.hid hv
        obtain ⟨TX, hTX⟩ : ∃ TX : ByteArray, TX = formB l' := ⟨_, rfl⟩
        have HTX := Lib.hid (show TX = ⟨(textL l').toArray⟩ by rw [hTX]; simp [formB, hv, textB])
        go_wp2_with fail
        refine HFC.out.mono ?_
        rw [hv, ← hTX]
        clear hTX hv
        rintro e w3 ⟨rfl, b3⟩
        have own3 := row_below hown b3
        have B3 := BW.trans (b3.mono BW.size)
        by_cases hts : TX = s
        · have HYES := Lib.hid (show CuesOk s l' true from .inl ⟨rfl, HV.out, by rw [← hts, HTX.out]⟩)
          subst hts
          go_wp2
          go_ret2
          exact ⟨l', _, true, rfl, HYES.out, ⟨own3.base b1.size, fun g hg => (own3.lt g hg).2⟩, B3⟩
        · have hne := str_other hts
          have HNO := Lib.hid (show ∀ m, validB m = true → textL m ≠ s.data.toList from fun m hv' ht => by
            refine hts ?_
            rw [HTX.out]
            exact textB_eq_iff.2 (by rw [HEND.out m hv' ht]; exact ht))
          clear hts
          go_wp2
          go_ret2
          exact parseC_no HNO.out B3
    have k1 : 4 * (j : Int) + 4 < (L.length : Int) := by omega
    obtain ⟨bl, off, rfl, hbl, hc⟩ := (r1.below hb).2 (by omega)
    obtain ⟨T, hT⟩ := some_at L (show 4 * j + 1 < L.length by omega)
    obtain ⟨X, hX⟩ := some_at L (show 4 * j + 2 < L.length by omega)
    have d1 : wr.cell? ⟨bl, off + (4 * j + 1), none⟩ = some (.string T) := hc _ _ (strsV_at hT)
    have d2 : wr.cell? ⟨bl, off + (4 * j + 2), none⟩ = some (.string X) := hc _ _ (strsV_at hX)
    have hTs : T.size ≤ s.size := line_size (by rw [← HL.out]; exact hT)
    have hXs : X.size ≤ s.size := line_size (by rw [← HL.out]; exact hX)
    have HLN := Lib.hid (fun (m : List CueD) hv ht => readC_line (m := m) (j := j) (T := T) (by rw [← HL.out]; exact hlt) (by rw [← HL.out]; exact hT) hv ht)
    have HNX := Lib.hid (fun (z1 z2 : Int) hz => readC_next (z1 := z1) (z2 := z2) HRD.out (by rw [← HL.out]; exact hlt) (by rw [← HL.out]; exact hT) (by rw [← HL.out]; exact hX) hz)
    have w1' : IntKind.i64.wrap (4 * (j : Int) + 1) = 4 * (j : Int) + 1 := IntWalk.i64_in _ (by omega)
    have w2' : IntKind.i64.wrap (4 * (j : Int) + 2) = 4 * (j : Int) + 2 := IntWalk.i64_in _ (by omega)
    have n1 : (4 * (j : Int) + 1).toNat = 4 * j + 1 := by omega
    have n2 : (4 * (j : Int) + 2).toNat = 4 * j + 2 := by omega
    have p1 : (0 : Int) ≤ 4 * (j : Int) + 1 := by omega
    have p2 : (0 : Int) ≤ 4 * (j : Int) + 2 := by omega
    have q1 : 4 * (j : Int) + 1 < (L.length : Int) := by omega
    have q2 : 4 * (j : Int) + 2 < (L.length : Int) := by omega
    clear hT hX hc
    obtain ⟨F, hF⟩ : ∃ F, F = cutF T := ⟨_, rfl⟩
    obtain ⟨G, hG⟩ : ∃ G, G = cutG T := ⟨_, rfl⟩
    have hFs : F.size ≤ T.size := by rw [hF]; exact cutF_size T
    have hGs : G.size ≤ T.size := by rw [hG]; exact cutG_size T
    have HFG := Lib.hid (show ∀ (c : CueD) (a b : Nat), c.1 = a → c.2.1 = b → a ≤ 99999999 → T.data.toList = timesL c → F.data.toList = timeOf a ∧ G.data.toList = timeOf b from fun c a b ha hb' ha9 hl => by
      have h1 := times_cut ha hb' ha9
      rw [← hl] at h1
      rw [hF, hG]
      refine ⟨?_, ?_⟩
      · show (Lib.cut T.data.toList arrowL).1 = _
        rw [h1]
      · show (Lib.cut T.data.toList arrowL).2.1 = _
        rw [h1])
    have BW := b1.trans (hb.mono b1.size)
    have HCU := Lib.hid (show Calls Tryd.prog 39 #[.string T, .string ⟨#[32, 45, 45, 62, 32]⟩] wr fun e w' => e = .returned (.tuple #[.string F, .string G, .bool (cutH T)]) ∧ Below wr.heap.size wr w' by rw [hF, hG]; exact impl_CutA T wr (by omega) (HM.out _ BW))
    clear hF hG
    go_wp2_with fail
    refine HCU.out.mono ?_
    rintro e w4' ⟨rfl, b4⟩
    have B4 := hb.trans (b4.mono hb.size)
    have own4 := row_below hown b4
    have BW4 := b1.trans (B4.mono b1.size)
    go_wp2_with fail
    refine (impl_ParseTime F _ (by omega) (HT.out _ BW4) (HE.out _ BW4)).mono ?_
    rintro e w5 ⟨z1, f1, rfl, hz1, b5⟩
    have B5 := B4.trans (b5.mono B4.size)
    have own5 := row_below own4 b5
    have HZ1 := Lib.hid hz1
    have BW5 := b1.trans (B5.mono b1.size)
    go_wp2_with fail
    refine (impl_ParseTime G _ (by omega) (HT.out _ BW5) (HE.out _ BW5)).mono ?_
    rintro e w6 ⟨z2, f2, rfl, hz2, b6⟩
    have B6 := B5.trans (b6.mono B5.size)
    have own6 := row_below own5 b6
    have HZ2 := Lib.hid hz2
    have d2' : w6.cell? ⟨bl, off + (4 * j + 2), none⟩ = some (.string X) := ((b4.trans ((b5.trans (b6.mono b5.size)).mono b4.size)).cell (p := ⟨bl, off + (4 * j + 2), none⟩) (Nat.lt_of_lt_of_le hbl (by omega))).trans d2
    have HBO := Lib.hid (And.intro (timeOk_bd hz1) (timeOk_bd hz2))
    clear hz1 hz2 d1 d2
    have HRN := Lib.hid (HNX.out z1 z2 (fun c a b ha hb' ha9 hb9 hl => by
      obtain ⟨g1, g2⟩ := HFG.out c a b ha hb' ha9 hl
      have e1 := (timeOk_of HZ1.out ha9 g1.symm).1
      have e2 := (timeOk_of HZ2.out hb9 g2.symm).1
      exact ⟨by omega, by omega⟩))
    have HWN := Lib.hid (within_snoc HWI.out HBO.out.1 HBO.out.2 hXs)
    have ms1 : j + 1 ≤ maxLen := by unfold maxLen; omega
    go_wp2_with (at_builtin; refine wpList_append_threeC own6 B6.size (.tmp 49) (.tmp 58) 27 Tryd.underlying27 info_cue3 (by omega) ms1 ⟨rfl, rfl, rfl, rfl, rfl, rfl, rfl, rfl⟩ (by simp) ?_; intro v7 w7 own7 hg7)
    go_roundw
    case rel => exact ⟨j + 1, l' ++ [(z1, z2, X)], by go_num, by rw [List.length_append, HLL.out]; rfl, by omega, by rw [cuesV_snoc']; exact own7, HRN.out, HWN.out, below_grown B6 hg7 B6.size own6 rfl (Nat.le_refl _)⟩
    case measure => simp [intOf]; omega
end Go.Proofs.YtjdnmknegpikcaaDoor
