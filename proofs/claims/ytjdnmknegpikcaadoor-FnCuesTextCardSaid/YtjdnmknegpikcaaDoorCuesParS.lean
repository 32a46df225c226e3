/-
  The reference's ParseCues.
-/
import Derived.Test.YtjdnmknegpikcaaDoorCuesParPl
import Derived.Test.YtjdnmknegpikcaaDoorTimeS
import Derived.Test.YtjdnmknegpikcaaDoorSpecFormat
import Derived.Test.YtjdnmknegpikcaaDoorStrs
namespace Go.Proofs.YtjdnmknegpikcaaDoor
open Go.RowKit
set_option linter.unusedVariables false
set_option linter.unusedSimpArgs false
set_option maxRecDepth 100000

theorem info_cue3 : (Tryd.prog.info? 59).map (fun i => (i.zero, i.size, i.bytes)) = some (some (.agg #[.int .i64 0, .int .i64 0, .string ⟨#[]⟩]), 3, 32) := by kernel_rfl
def ParseC (s : ByteArray) (w : World) (x : Ending) (w' : World) : Prop :=
  ∃ (l : List CueD) (v : Value) (b : Bool), x = .returned (.tuple #[v, .bool b]) ∧ CuesOk s l b ∧ Own w' w.heap.size w'.heap.size 59 3 v l.length (cuesV l) ∧ Below w.heap.size w w'
theorem parseC_no {s : ByteArray} {w w' : World} (h : ∀ m, validB m = true → textL m ≠ s.data.toList) (hb : Below w.heap.size w w') : ParseC s w (.returned (.tuple #[.slice none 0 0, .bool false])) w' :=
  ⟨[], _, false, rfl, .inr ⟨rfl, rfl, h⟩, Own.none_, hb⟩
def Within (l : List CueD) (M : Nat) : Prop := ∀ c ∈ l, (0 ≤ c.1 ∧ c.1 ≤ 99999999) ∧ (0 ≤ c.2.1 ∧ c.2.1 ≤ 99999999) ∧ c.2.2.size ≤ M
theorem within_snoc {l : List CueD} {M : Nat} (h : Within l M) {z1 z2 : Int} {X : ByteArray} (h1 : 0 ≤ z1 ∧ z1 ≤ 99999999) (h2 : 0 ≤ z2 ∧ z2 ≤ 99999999) (hX : X.size ≤ M) : Within (l ++ [(z1, z2, X)]) M := by
  intro c hc
  rcases List.mem_append.1 hc with hc | hc
  · exact h c hc
  · rw [List.mem_singleton] at hc
    subst hc
    exact ⟨h1, h2, hX⟩
theorem cuesV_snoc' (l : List CueD) (z1 z2 : Int) (X : ByteArray) : cuesV (l ++ [(z1, z2, X)]) = cuesV l ++ [.int .i64 z1, .int .i64 z2, .string X] := by simp [cuesV, cueV]
theorem line_size {s : ByteArray} {j : Nat} {T : ByteArray} (h : (partsV 10 s)[j]? = some T) : T.size ≤ s.size := by
  unfold partsV at h
  rw [List.getElem?_map] at h
  cases hp : (parts 10 s.data.toList)[j]? with
  | none => rw [hp] at h; cases h
  | some l =>
    rw [hp] at h
    simp only [Option.map_some, Option.some.injEq] at h
    subst h
    have hl : l ∈ parts 10 s.data.toList := List.mem_of_getElem? hp
    have hj := congrArg List.length (join_parts 10 s.data.toList)
    have : ∀ (ps : List (List UInt8)), l ∈ ps → l.length ≤ (joinB 10 ps).length := by
      intro ps
      induction ps with
      | nil => intro h; simp at h
      | cons p ps ih =>
        intro h
        cases ps with
        | nil =>
          rw [List.mem_singleton] at h
          subst h
          rw [joinB_one]
          exact Nat.le_refl _
        | cons q ps =>
          rw [joinB_cons, List.length_append, List.length_cons]
          rcases List.mem_cons.1 h with rfl | h
          · omega
          · have := ih h
            omega
    have h1 := this _ hl
    have h2 : s.data.toList.length = s.size := rfl
    show l.length ≤ _
    omega
theorem partsV_mostC (c : UInt8) (s : ByteArray) : (partsV c s).length ≤ s.size + 1 := by
  have h1 := parts_count c s.data.toList
  have h2 : s.data.toList.count c ≤ s.data.toList.length := List.count_le_length
  have h3 : s.data.toList.length = s.size := rfl
  unfold partsV
  rw [List.length_map]
  omega
theorem within_short {l : List CueD} {M : Nat} (h : Within l M) (hM : M ≤ maxLen) : ∀ c ∈ l, c.2.2.size ≤ maxLen := fun c hc => Nat.le_trans (h c hc).2.2 hM
theorem textB_eq_iff {l : List CueD} {s : ByteArray} : (⟨(textL l).toArray⟩ : ByteArray) = s ↔ textL l = s.data.toList := by
  constructor
  · intro h
    rw [← h]
  · intro h
    rw [h]
section
variable {P : Program}
theorem wpList_append_threeC {wr : World} {v : Value} {n : Nat} {xs : List Value} {base : Nat} {e : TypeId} (hown : wr.ownsRow base e 3 v n xs) (hbase : base ≤ wr.heap.size)
    (s x : Operand) (t : TypeId) {z : Value} {bytes : Nat} (ht : P.underlying t = some (.slice e)) (hi : (P.info? e).map (fun i => (i.zero, i.size, i.bytes)) = some (some z, 3, bytes))
    (hbytes : (n + 1) * bytes ≤ 140737488355328) (hb : n + 1 ≤ maxLen)
    {ops : Array Oper} {rest : List Oper} {o : Oper} {a : Act} {Q : Exit → Act → World → Prop} {y0 y1 y2 : Value} {g : Nat}
    (hh : o.guard = none ∧ o.op = .call { callee := .builtin .append, args := #[s, x], argTypes := #[t, t] } ∧ a.eval s = v ∧ a.eval x = .slice (some ⟨g, 0, none⟩) 1 1 ∧ y0.oneCell' = true ∧ y1.oneCell' = true ∧ y2.oneCell' = true ∧ z.cells.size = 3)
    (hg : g = wr.heap.size)
    (h : ∀ v' w', w'.ownsRow base e 3 v' (n + 1) (xs ++ [y0, y1, y2]) → wr.grownBy w' v.ownBlock → wpList P ops Q rest (a.put o.dst v') w') :
    wpList P ops Q (o :: rest) a (wr.alloc (.cells #[y0, y1, y2] e)) :=
  wpList_append_cellsG hown hbase s x t ht hi hbytes hb ⟨hh.1, hh.2.1, hh.2.2.1, hh.2.2.2.1, by simp [hh.2.2.2.2.1, hh.2.2.2.2.2.1, hh.2.2.2.2.2.2.1], hh.2.2.2.2.2.2.2, rfl, by decide⟩ hg h
end

set_option maxHeartbeats 8000000 in
theorem spec_ParseCues (s : ByteArray) (w : World) (hs : s.size ≤ 1048576) : Calls Tryd.prog 20 #[.string s] w (ParseC s w) := by
  by_cases h6 : s.size ≤ 6000
  case neg =>
    have j1 : (6000 : Int) < (s.size : Int) := by omega
    have HNO := Lib.hid (show ∀ m, validB m = true → textL m ≠ s.data.toList from fun m hv ht => by
      have := text_short hv
      rw [ht] at this
      exact h6 this)
    clear h6
    go_enter Tryd.func20, Tryd.ntmps20
    go_wp2
    go_ret2
    exact parseC_no HNO.out (Below.refl _ _)
  have j1 : ¬ (6000 : Int) < (s.size : Int) := by omega
  obtain ⟨L, hL⟩ : ∃ L, L = partsV 10 s := ⟨_, rfl⟩
  have hLm : L.length ≤ s.size + 1 := by rw [hL]; exact partsV_mostC 10 s
  have HL := Lib.hid hL
  have HSP := Lib.hid (fun W => (show Calls Tryd.prog 42 #[.string s, .int .u8 10] W (NewStrs L W) by rw [hL]; exact spec_l1Split s _ 10 rfl W (by omega)))
  clear hL
  go_enter Tryd.func20, Tryd.ntmps20
  go_wp2_with fail
  refine (HSP.out _).mono ?_
  rintro e w1 ⟨v1, rfl, o1, b1⟩
  obtain ⟨A1, c1, rfl, r1, -, -⟩ := o1.slice
  have hb0 : Below w1.heap.size w1 (w1.alloc (.cells #[] 59)) := (Below.refl _ _).alloc (Nat.le_refl _) _
  have own0 : (w1.alloc (.cells #[] 59)).ownsRow w1.heap.size 59 3 (.slice (some ⟨w1.heap.size, 0, none⟩) 0 0) 0 [] := World.ownsRow_made _ _ _ (Nat.le_refl _) (by simp) rfl
  clear o1
  go_wp2
  go_loopw [5, 6] (fun v i wr => ∃ (j : Nat) (l' : List CueD), i = .int .i64 (4 * (j : Int)) ∧ l'.length = j ∧ j ≤ L.length ∧ wr.ownsRow w1.heap.size 59 3 v j (cuesV l') ∧ ReadC s l' j ∧ Within l' s.size ∧ Below w1.heap.size w1 wr) (fun _ i _ => L.length + 4 - (intOf i).toNat)
  case atStart => exact ⟨0, [], rfl, rfl, Nat.zero_le _, own0, readC_zero s, fun c hc => by simp at hc, hb0⟩
  case round =>
    obtain ⟨j, l', rfl, hll, hjl, hown, hread, hwin, hb⟩ := hrel
    have HLL := Lib.hid hll
    have HRD := Lib.hid hread
    have HWI := Lib.hid hwin
    clear hread hwin hll
    have hsz := hb.size
    have w4 : IntKind.i64.wrap (4 * (j : Int) + 4) = 4 * (j : Int) + 4 := IntWalk.i64_in _ (by omega)
    by_cases hlt : 4 * j + 4 < L.length
    case neg =>
      have k1 : ¬ 4 * (j : Int) + 4 < (L.length : Int) := by omega
      have HEND := Lib.hid (fun m hv ht => readC_end (m := m) HRD.out hv ht (by rw [← HL.out]; exact hlt))
      have hll := HLL.out
      obtain ⟨A2, c2, rfl, r2, -, -⟩ := (Own.of_row hown).slice
      have hsh := within_short HWI.out (by unfold maxLen; omega)
      have HSH := Lib.hid hsh
      subst hll
      clear hsh
      cases hv : validB l'
      · have HNO := Lib.hid (show ∀ m, validB m = true → textL m ≠ s.data.toList from fun m hv' ht => by
          rw [← HEND.out m hv' ht, hv] at hv'
          cases hv')
        go_wp2_with fail
        refine (spec_IsValidCues A2 c2 l' _ r2 (by omega) HSH.out).mono ?_
        rw [hv]
        rintro e w3 ⟨rfl, b3⟩
        go_wp2
        go_ret2
        exact parseC_no HNO.out (b1.trans ((hb.trans (b3.mono hsz)).mono b1.size))
      · have HV := Lib.hid hv
        go_wp2_with fail
        refine (spec_IsValidCues A2 c2 l' _ r2 (by omega) HSH.out).mono ?_
        rw [hv]
        rintro e w3 ⟨rfl, b3⟩
        have own3 := row_below hown b3
        have B3 := hb.trans (b3.mono hsz)
        have r3 := r2.below b3
        obtain ⟨TX, hTX⟩ : ∃ TX : ByteArray, TX = textB l' := ⟨_, rfl⟩
        have HTX := Lib.hid hTX
        go_wp2_with fail
        refine (spec_l20Format A2 c2 l' _ (r3.more b3.size) HV.out).mono ?_
        rw [← hTX]
        clear hTX hv
        rintro e w4' ⟨rfl, b4⟩
        have own4 := row_below own3 b4
        have B4 := B3.trans (b4.mono B3.size)
        by_cases hts : TX = s
        · have HYES := Lib.hid (show CuesOk s l' true from .inl ⟨rfl, HV.out, by rw [← hts, HTX.out]; rfl⟩)
          subst hts
          go_wp2
          go_ret2
          exact ⟨l', _, true, rfl, HYES.out, ⟨own4.base b1.size, fun g hg => (own4.lt g hg).2⟩, b1.trans (B4.mono b1.size)⟩
        · have hne := str_other hts
          have HNO := Lib.hid (show ∀ m, validB m = true → textL m ≠ s.data.toList from fun m hv' ht => by
            refine hts ?_
            rw [HTX.out]
            exact textB_eq_iff.2 (by rw [HEND.out m hv' ht]; exact ht))
          clear hts
          go_wp2
          go_ret2
          exact parseC_no HNO.out (b1.trans (B4.mono b1.size))
    have k1 : 4 * (j : Int) + 4 < (L.length : Int) := by omega
    obtain ⟨bl, off, rfl, hbl, hc⟩ := (r1.below hb).2 (by omega)
    obtain ⟨T, hT⟩ := some_at L (show 4 * j + 1 < L.length by omega)
    obtain ⟨X, hX⟩ := some_at L (show 4 * j + 2 < L.length by omega)
    have d1 : wr.cell? ⟨bl, off + (4 * j + 1), none⟩ = some (.string T) := hc _ _ (strsV_at hT)
    have d2 : wr.cell? ⟨bl, off + (4 * j + 2), none⟩ = some (.string X) := hc _ _ (strsV_at hX)
    have hTs : T.size ≤ s.size := line_size (by rw [← HL.out]; exact hT)
    have hXs : X.size ≤ s.size := line_size (by rw [← HL.out]; exact hX)
    have HLN := Lib.hid (fun (m : List CueD) hv ht => readC_line (m := m) (j := j) (T := T) (by rw [← HL.out]; exact hlt) (by rw [← HL.out]; exact hT) hv ht)
    have HNX := Lib.hid (fun (z1 z2 : Int) hz => readC_next (z1 := z1) (z2 := z2) HRD.out (by rw [← HL.out]; exact hlt) (by rw [← HL.out]; exact hT) (by rw [← HL.out]; exact hX) hz)
    have w1' : IntKind.i64.wrap (4 * (j : Int) + 1) = 4 * (j : Int) + 1 := IntWalk.i64_in _ (by omega)
    have w2' : IntKind.i64.wrap (4 * (j : Int) + 2) = 4 * (j : Int) + 2 := IntWalk.i64_in _ (by omega)
    have n1 : (4 * (j : Int) + 1).toNat = 4 * j + 1 := by omega
    have n2 : (4 * (j : Int) + 2).toNat = 4 * j + 2 := by omega
    have p1 : (0 : Int) ≤ 4 * (j : Int) + 1 := by omega
    have p2 : (0 : Int) ≤ 4 * (j : Int) + 2 := by omega
    have q1 : 4 * (j : Int) + 1 < (L.length : Int) := by omega
    have q2 : 4 * (j : Int) + 2 < (L.length : Int) := by omega
    clear hT hX hc
    by_cases h29 : T.size = 29
    case neg =>
      have e1 : ((T.size : Int) != 29) = true := by simp; omega
      have HNO := Lib.hid (show ∀ m, validB m = true → textL m ≠ s.data.toList from fun m hv ht => by
        obtain ⟨c, a, b, ha, hb', ha9, hb9, hl⟩ := HLN.out m hv ht
        have h1 := times_len ha hb' ha9 hb9
        rw [← hl] at h1
        exact h29 h1)
      clear h29
      go_wp2
      go_ret2
      exact parseC_no HNO.out (b1.trans (hb.mono b1.size))
    have e1 : ((T.size : Int) != 29) = false := by simp; omega
    have m1 : (12 : Int) ≤ (T.size : Int) := by omega
    have m2 : (17 : Int) ≤ (T.size : Int) := by omega
    have x1 : (T.extract 0 12).data.toList = T.data.toList.take 12 := by rw [ext_dataT]; rfl
    have x2 : (T.extract 17 T.size).data.toList = T.data.toList.drop 17 := by
      rw [ext_dataT]
      exact List.take_of_length_le (by rw [List.length_drop]; exact Nat.le_refl _)
    have HP1 := Lib.hid (fun W => (show Calls Tryd.prog 6 #[.string (T.extract 0 12)] W (ParseTS (T.data.toList.take 12) W) by
      rw [← x1]
      exact spec_ParseTime _ W (by
        have : (T.extract 0 12).size = (T.extract 0 12).data.toList.length := rfl
        rw [this, x1, List.length_take]; omega)))
    have HP2 := Lib.hid (fun W => (show Calls Tryd.prog 6 #[.string (T.extract 17 T.size)] W (ParseTS (T.data.toList.drop 17) W) by
      rw [← x2]
      exact spec_ParseTime _ W (by
        have : (T.extract 17 T.size).size = (T.extract 17 T.size).data.toList.length := rfl
        have h3 : T.data.toList.length = T.size := rfl
        rw [this, x2, List.length_drop]; omega)))
    clear x1 x2 h29
    go_wp2_with fail
    refine (HP1.out _).mono ?_
    rintro e w5 ⟨z1, f1, rfl, hz1, b5⟩
    have B5 := hb.trans (b5.mono hb.size)
    have own5 := row_below hown b5
    have HZ1 := Lib.hid hz1
    go_wp2_with fail
    refine (HP2.out _).mono ?_
    rintro e w6 ⟨z2, f2, rfl, hz2, b6⟩
    have B6 := B5.trans (b6.mono B5.size)
    have own6 := row_below own5 b6
    have HZ2 := Lib.hid hz2
    have d2' : w6.cell? ⟨bl, off + (4 * j + 2), none⟩ = some (.string X) := ((b5.trans (b6.mono b5.size)).cell (p := ⟨bl, off + (4 * j + 2), none⟩) (Nat.lt_of_lt_of_le hbl (by omega))).trans d2
    have HOK := Lib.hid (show ∀ m, validB m = true → textL m = s.data.toList → f1 = true ∧ f2 = true from fun m hv ht => by
      obtain ⟨c, a, b, ha, hb', ha9, hb9, hl⟩ := HLN.out m hv ht
      exact ⟨(timeOk_of HZ1.out ha9 (by rw [hl, times_take ha ha9])).2, (timeOk_of HZ2.out hb9 (by rw [hl, times_drop ha hb' ha9])).2⟩)
    have HBO := Lib.hid (And.intro (timeOk_bd hz1) (timeOk_bd hz2))
    clear hz1 hz2 d1 d2
    cases f1
    · have HNO := Lib.hid (show ∀ m, validB m = true → textL m ≠ s.data.toList from fun m hv ht => by have := (HOK.out m hv ht).1; cases this)
      go_wp2
      go_ret2
      exact parseC_no HNO.out (b1.trans (B6.mono b1.size))
    cases f2
    · have HNO := Lib.hid (show ∀ m, validB m = true → textL m ≠ s.data.toList from fun m hv ht => by have := (HOK.out m hv ht).2; cases this)
      go_wp2
      go_ret2
      exact parseC_no HNO.out (b1.trans (B6.mono b1.size))
    have HRN := Lib.hid (HNX.out z1 z2 (fun c a b ha hb' ha9 hb9 hl => by
      have e1 := (timeOk_of HZ1.out ha9 (by rw [hl, times_take ha ha9])).1
      have e2 := (timeOk_of HZ2.out hb9 (by rw [hl, times_drop ha hb' ha9])).1
      exact ⟨by omega, by omega⟩))
    have HWN := Lib.hid (within_snoc HWI.out HBO.out.1 HBO.out.2 hXs)
    have ms1 : j + 1 ≤ maxLen := by unfold maxLen; omega
    go_wp2_with (at_builtin; refine wpList_append_threeC own6 B6.size (.tmp 51) (.tmp 60) 27 Tryd.underlying27 info_cue3 (by omega) ms1 ⟨rfl, rfl, rfl, rfl, rfl, rfl, rfl, rfl⟩ (by simp) ?_; intro v7 w7 own7 hg7)
    go_roundw
    case rel => exact ⟨j + 1, l' ++ [(z1, z2, X)], by go_num, by rw [List.length_append, HLL.out]; rfl, by omega, by rw [cuesV_snoc']; exact own7, HRN.out, HWN.out, below_grown B6 hg7 B6.size own6 rfl (Nat.le_refl _)⟩
    case measure => simp [intOf]; omega
end Go.Proofs.YtjdnmknegpikcaaDoor
