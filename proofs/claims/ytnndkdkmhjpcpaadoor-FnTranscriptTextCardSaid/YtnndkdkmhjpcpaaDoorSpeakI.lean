/-
  The program's SpeakerWords.
-/
import Derived.Test.YtnndkdkmhjpcpaaDoorSpeakS
import Derived.Test.YtnndkdkmhjpcpaaDoorConcI
import Derived.Test.YtnndkdkmhjpcpaaDoorShelf
import Derived.Lib.AppendIntMem
namespace Go.Proofs.YtnndkdkmhjpcpaaDoor
open Go.RowKit
set_option linter.unusedVariables false
set_option linter.unusedSimpArgs false
set_option maxRecDepth 100000

/-! ### slices.Sort, slices.Compact, slices.Index at rows of the call's own -/
def bytesL (l : List ByteArray) : List (List UInt8) := l.map (·.data.toList)
def backL (l : List (List UInt8)) : List ByteArray := l.map fun b => ⟨b.toArray⟩
theorem strs_enc (l : List ByteArray) : strsV l = (bytesL l).map Proofs.encStr := (Lib.map_encStr l).symm
theorem back_bytes (l : List (List UInt8)) : bytesL (backL l) = l := by simp [bytesL, backL, Function.comp_def]
theorem bytes_back (l : List ByteArray) : backL (bytesL l) = l := by simp [bytesL, backL, Function.comp_def]
theorem comp_le (ds : Array (List UInt8)) : ∀ m, (Lib.compactUpTo ds m).length ≤ m
  | 0 => by simp [Lib.compactUpTo]
  | m + 1 => by
    have := comp_le ds m
    rw [Lib.compactUpTo_succ, List.length_append]
    split <;> simp <;> omega
theorem compact_le (zs : List (List UInt8)) : (Lib.compact zs).length ≤ zs.length := by
  have := comp_le zs.toArray zs.length
  simpa [Lib.compact] using this
theorem strsV_app (a b : List ByteArray) : strsV (a ++ b) = strsV a ++ strsV b := by simp [strsV]
theorem only_put {α : Type} [Inhabited α] (enc : α → Value) (w : World) (g q off : Nat) (d : Array α) : Only g (g + 1) w (Go.Sort.putRow enc (Go.Sort.ahead w q) g off d) :=
  ⟨rfl, rfl, rfl, by simp [Go.Sort.putRow, Go.Sort.mapBlock, Go.Sort.ahead], fun k hk hd => by simp [Go.Sort.putRow, Go.Sort.mapBlock, Go.Sort.ahead, Array.getElem?_modify, show g ≠ k by omega]⟩
theorem sort_own {lo g n c : Nat} (l : List ByteArray) (w : World) (h : w.ownsRow lo 9 1 (.slice (some ⟨g, 0, none⟩) n c) n (strsV l)) (hn : n ≤ 1048576) :
    Calls Tryd.prog 51 #[.slice (some ⟨g, 0, none⟩) n c] w fun e w' => e = .returned (.tuple #[]) ∧ w'.ownsRow lo 9 1 (.slice (some ⟨g, 0, none⟩) n c) n (strsV (backL ((bytesL l).mergeSort fun x y => decide (x ≤ y)))) ∧ Only g (g + 1) w w' := by
  rw [strs_enc] at h
  obtain ⟨g', cap, hv, h1, h2, h3, h4, h5, hH⟩ := Lib.holds_of_ownsRow h (by intro e; cases e)
  injection hv with hv _ hc
  injection hv with hv
  injection hv with hv _ _
  subst hv hc
  subst h5
  refine (Tryd.slices_Sort_string g 0 c (bytesL l) w hH h2 (by omega)).mono ?_
  rintro e w' ⟨rfl, q, os, rfl⟩
  have hs : ((bytesL l).mergeSort fun x y => decide (x ≤ y)).length = (bytesL l).length := List.length_mergeSort _
  have ho := Lib.ownsRow_putRow (q := q) h hs (Nat.le_refl _)
  rw [List.take_of_length_le (by omega)] at ho
  have hg := Lib.ownsRow_grow ho 0 os
  refine ⟨rfl, ?_, (only_put _ w g q 0 _).trans (Only.of_below (Lib.below_grow _ _ (Nat.le_refl _) 0 os))⟩
  rw [strs_enc, back_bytes]
  exact hg
theorem compact_own {lo g n c : Nat} (l : List ByteArray) (w : World) (h : w.ownsRow lo 9 1 (.slice (some ⟨g, 0, none⟩) n c) n (strsV l)) (hn : n ≤ 1048576) :
    Calls Tryd.prog 52 #[.slice (some ⟨g, 0, none⟩) n c] w fun e w' => e = .returned (.slice (some ⟨g, 0, none⟩) (Lib.compact (bytesL l)).length c) ∧ w'.ownsRow lo 9 1 (.slice (some ⟨g, 0, none⟩) (Lib.compact (bytesL l)).length c) (Lib.compact (bytesL l)).length (strsV (backL (Lib.compact (bytesL l)))) ∧ Only g (g + 1) w w' := by
  rw [strs_enc] at h
  obtain ⟨g', cap, hv, h1, h2, h3, h4, h5, hH⟩ := Lib.holds_of_ownsRow h (by intro e; cases e)
  injection hv with hv _ hc
  injection hv with hv
  injection hv with hv _ _
  subst hv hc
  subst h5
  refine (Tryd.slices_Compact_string g 0 c (bytesL l) w hH (by omega) h3).mono ?_
  rintro e w' ⟨rfl, q, rfl⟩
  have hl : (Lib.compact (bytesL l)).length ≤ (bytesL l).length := compact_le _
  have hs : (Lib.compact (bytesL l) ++ List.replicate ((bytesL l).length - (Lib.compact (bytesL l)).length) []).length = (bytesL l).length := by simp; omega
  have ho := Lib.ownsRow_putRow (q := q) h hs hl
  rw [List.take_left'] at ho
  · refine ⟨rfl, ?_, only_put _ w g q 0 _⟩
    rw [strs_enc, back_bytes]
    exact ho
  · rfl
theorem names_back (l : List TurnD) : backL (Lib.compact (bytesL (backL ((bytesL (l.map (·.1))).mergeSort fun x y => decide (x ≤ y))))) = namesL l := by
  rw [back_bytes]
  have h := names_sorted l
  unfold bytesL
  rw [h]
  exact bytes_back _
theorem says_zero (ns : List ByteArray) (l : List TurnD) : saysL ns (l.take 0) = List.replicate ns.length 0 := by
  simp [saysL, saidL]
  induction ns with
  | nil => rfl
  | cons a ns ih => simp [List.replicate_succ, ih]

set_option maxHeartbeats 8000000 in
theorem impl_SpeakerWords (A : Option Addr) (cap : Nat) (l : List TurnD) (w : World) (hr : Reads w w.heap.size 2 A l.length (turnsV l)) (hn : l.length ≤ 1048576) (ht : ShortT l) (hmx : MaxOk w) :
    Calls Tryd.prog 15 #[.agg #[.slice A l.length cap]] w (SpeakRes l w) := by
  have HT := Lib.hid ht
  have HM := Lib.hid hmx
  clear ht hmx
  obtain ⟨W1, hW1⟩ : ∃ W1, W1 = w.alloc (.cells #[.slice A l.length cap] 26) := ⟨_, rfl⟩
  have hb1 : Below w.heap.size w W1 := by rw [hW1]; exact (Below.refl _ _).alloc (Nat.le_refl _) _
  have bP : Box W1 w.heap.size 26 (.slice A l.length cap) := by rw [hW1]; exact Box.new w _ _
  cases hv : transB l
  · have HV := Lib.hid hv
    go_enter Tryd.func15, Tryd.ntmps15
    go_wp2_with fail
    rw [← hW1]
    clear hW1
    refine (impl_IsValidTranscript A cap l _ ((hr.below hb1).more hb1.size) (by omega) HT.out (HM.out.below hb1)).mono ?_
    rw [hv]
    clear hv
    rintro e w3 ⟨rfl, b3⟩
    go_wp2
    go_ret3
    exact speak_no HV.out (hb1.trans (b3.mono hb1.size))
  have HV := Lib.hid hv
  go_enter Tryd.func15, Tryd.ntmps15
  go_wp2_with fail
  rw [← hW1]
  clear hW1
  refine (impl_IsValidTranscript A cap l _ ((hr.below hb1).more hb1.size) (by omega) HT.out (HM.out.below hb1)).mono ?_
  rw [hv]
  clear hv
  rintro e w3 ⟨rfl, b3⟩
  have bP3 := bP.far b3
  have B3 := hb1.trans (b3.mono hb1.size)
  clear bP
  have h30 := trans_len HV.out
  have s3 : w.heap.size + 1 ≤ w3.heap.size := bP3.lt
  have on0 : (w3.alloc (.cells #[] 9)).ownsRow (w.heap.size + 1) 9 1 (.slice (some ⟨w3.heap.size, 0, none⟩) 0 0) 0 [] := World.ownsRow_made _ _ _ s3 (by simp) rfl
  have bP4 := bP3.alloc (.cells #[] 9)
  have cP4 := bP4.cell
  have B4 := B3.alloc B3.size (.cells #[] 9)
  clear bP3 B3 b3 hb1
  go_wp2
  go_loopw [5, 18] (fun v i wr => ∃ k : Nat, k ≤ l.length ∧ i = .int .i64 k ∧ (∃ g c, v = .slice (some ⟨g, 0, none⟩) k c ∧ k ≤ c ∧ c ≤ maxLen) ∧ wr.ownsRow (w.heap.size + 1) 9 1 v k (strsV ((l.take k).map (·.1))) ∧ Box wr w.heap.size 26 (.slice A l.length cap) ∧ Below w.heap.size w wr) (fun _ i _ => l.length - (intOf i).toNat)
  case atStart => exact ⟨0, Nat.zero_le _, rfl, ⟨_, 0, rfl, Nat.le_refl _, by simp⟩, on0, bP4, B4⟩
  case round =>
    clear on0 bP4 B4 cP4
    obtain ⟨k, hk, rfl, ⟨g, c, rfl, hkc, hcm⟩, own, bP, hb⟩ := hrel
    have cP := bP.cell
    have sz : w.heap.size + 1 ≤ wr.heap.size := bP.lt
    by_cases hlt : k < l.length
    · obtain ⟨b, off, hA, hb0, hc⟩ := (hr.below hb).2 (by omega)
      subst hA
      obtain ⟨⟨sp, tx⟩, hx⟩ := some_at l hlt
      obtain ⟨c1, c2⟩ := Reads.turn hc hx
      simp only at c1 c2
      have HTK := Lib.hid (take_succ_of hx)
      have i0 : (0 : Int) ≤ (k : Int) := by omega
      have i1 : (k : Int) < (l.length : Int) := by omega
      have ownA := own.alloc (.cells #[.string sp, .string tx] 77)
      have bPA := bP.alloc (.cells #[.string sp, .string tx] 77)
      have BA := hb.alloc hb.size (.cells #[.string sp, .string tx] 77)
      have szA : w.heap.size + 1 ≤ (wr.alloc (.cells #[.string sp, .string tx] 77)).heap.size := bPA.lt
      clear hx hc
      go_wp2_with (at_builtin; refine wpList_append_oneA ownA szA (.tmp 22) (.tmp 25) 36 Tryd.underlying36 info_string (by omega) (by unfold maxLen; omega) ⟨rfl, rfl, rfl, rfl, rfl, rfl⟩ (by simp) ?_; intro v5 w5 own5 gr5 at5)
      obtain ⟨g5, c5, rfl, -, -, h5, h6⟩ := row_some own5 (by omega)
      go_roundw
      case rel =>
        refine ⟨k + 1, by omega, by go_num, ⟨g5, c5, rfl, h5, h6⟩, ?_, bPA.grown gr5 (bPA.ne_own ownA (by decide)), BA.grown gr5 BA.size (fun x hx => by have := (ownA.lt x hx).1; omega)⟩
        rw [HTK.out, List.map_append, strsV_app]
        exact own5
      case measure => simp [intOf]; omega
    · obtain rfl : k = l.length := by omega
      rw [List.take_length] at own
      go_wp2_with fail
      refine (sort_own _ _ own (by omega)).mono ?_
      rintro e w5 ⟨rfl, own5, ho5⟩
      have hg := own.lt g rfl
      have bP5 := bP.only ho5 (.inl (by omega))
      have B5 := hb.trans (ho5.below (B := w.heap.size) (by omega) hb.size)
      clear own bP hb cP ho5
      go_wp2_with fail
      refine (compact_own _ _ own5 (by omega)).mono ?_
      rw [names_back]
      rintro e w6 ⟨rfl, own6, ho6⟩
      have hg5 := own5.lt g rfl
      have bP6 := bP5.only ho6 (.inl (by omega))
      have B6 := B5.trans (ho6.below (B := w.heap.size) (by omega) B5.size)
      have hlen : (Lib.compact (bytesL (backL ((bytesL (l.map (·.1))).mergeSort fun x y => decide (x ≤ y))))).length = (namesL l).length := by have := congrArg List.length (names_back l); simpa [backL] using this
      rw [hlen] at own6
      rw [hlen]
      have hnl : (namesL l).length ≤ 30 := Nat.le_trans (names_len l) h30
      have hgn2 := (own6.lt g rfl).2
      have hnc : (namesL l).length ≤ c := by have := names_len l; omega
      have hcm2 := hcm
      obtain ⟨gn, rfl⟩ : ∃ x, x = g := ⟨_, rfl⟩
      obtain ⟨cn, rfl⟩ : ∃ x, x = c := ⟨_, rfl⟩
      have cP6 := bP6.cell
      have HNM := Lib.hid hlen
      have HIX := Lib.hid (fun (k : Nat) c (h : l[k]? = some c) => idx_name h)
      have HSN := Lib.hid (fun (k p : Nat) c (h : l[k]? = some c) (hp : (namesL l)[p]? = some c.1) => says_next h (srt_names l).nodup hp)
      have HSZ := Lib.hid (says_zero (namesL l) l)
      have HSL := Lib.hid (fun k => says_len (namesL l) (l.take k))
      have HSA := Lib.hid (fun (k p : Nat) s (hp : (namesL l)[p]? = some s) => says_at (l := l.take k) hp)
      have HFN := Lib.hid (show spkN l = namesL l by rw [spkN, HV.out]; rfl)
      have HFC := Lib.hid (show spkC l = saysL (namesL l) (l.take l.length) by rw [spkC, HV.out, List.take_length]; rfl)
      clear own5 bP5 B5 ho6 hlen hkc hcm
      generalize hns : namesL l = ns at *
      clear hns
      have hmk := run_make_rowN (P := Tryd.prog) 37 3 Tryd.underlying37 info_int .i64 .i64 ns.length ns.length (Nat.le_refl _) (by omega) (by omega)
      have oc7 : (w6.alloc (.cells (madeCells #[Value.int .i64 0] ns.length) 3)).ownsRow (w.heap.size + 1) 3 1 (.slice (some ⟨w6.heap.size, 0, none⟩) ns.length ns.length) ns.length (ints (saysL ns (l.take 0))) := by
        have h := World.ownsRow_lit (base := w.heap.size + 1) (e := 3) (size := 1) w6 (madeCells #[Value.int .i64 0] ns.length) ns.length (by have := bP6.lt; omega) (by unfold maxLen; omega) (by simp [madeCells])
        have e : ints (saysL ns (l.take 0)) = (madeCells #[Value.int .i64 0] ns.length).toList := by rw [HSZ.out, toList_madeCells_one]; simp [ints]
        rw [e]
        exact h
      have on7 := own6.alloc (.cells (madeCells #[Value.int .i64 0] ns.length) 3)
      have bP7 := bP6.alloc (.cells (madeCells #[Value.int .i64 0] ns.length) 3)
      have B7 := B6.alloc B6.size (.cells (madeCells #[Value.int .i64 0] ns.length) 3)
      have cP7 := bP7.cell
      have hgn3 : gn ≠ w6.heap.size := by omega
      clear own6 bP6 B6 cP6
      go_wp2
      clear hmk
      go_loopw [38] (fun i wr => ∃ k : Nat, k ≤ l.length ∧ i = .int .i64 k ∧ wr.ownsRow (w.heap.size + 1) 9 1 (.slice (some ⟨gn, 0, none⟩) ns.length cn) ns.length (strsV ns) ∧ wr.ownsRow (w.heap.size + 1) 3 1 (.slice (some ⟨w6.heap.size, 0, none⟩) ns.length ns.length) ns.length (ints (saysL ns (l.take k))) ∧ Below w.heap.size w wr) (fun i _ => l.length - (intOf i).toNat)
      case atStart => exact ⟨0, Nat.zero_le _, rfl, on7, oc7, B7⟩
      case round =>
        clear on7 oc7 bP7 B7 cP7
        obtain ⟨k, hk, rfl, own, cwn, hb⟩ := hrel
        have hgn0 := own.lt gn rfl
        have hgc0 := cwn.lt w6.heap.size rfl
        by_cases hlt : k < l.length
        · obtain ⟨b, off, hA, hb0, hc⟩ := (hr.below hb).2 (by omega)
          subst hA
          obtain ⟨⟨sp, tx⟩, hx⟩ := some_at l hlt
          obtain ⟨c1, c2⟩ := Reads.turn hc hx
          have htx := turn_text HV.out hx
          simp only at htx c1 c2
          have hts := (HT.out _ (List.mem_of_getElem? hx)).2
          simp only at hts
          obtain ⟨hwl, -⟩ := text_len htx
          have HTX := Lib.hid htx
          obtain ⟨p, hpi, hpp⟩ := HIX.out k _ hx
          have hsn := HSN.out k p _ hx hpp
          simp only at hpi hpp hsn
          have hsl := said_le HV.out sp k hk
          have hp : p < ns.length := (List.getElem?_eq_some_iff.1 hpp).1
          have hcx := (cwn.cellAt p (by omega)).trans (ints_at _ (HSA.out k p sp hpp))
          have i0 : (0 : Int) ≤ (k : Int) := by omega
          have i1 : (k : Int) < (l.length : Int) := by omega
          obtain ⟨sd, hsd⟩ : ∃ sd, sd = saidL (l.take k) sp := ⟨_, rfl⟩
          rw [← hsd] at hcx hsl hsn
          have hsl2 : sd ≤ 1200 := by omega
          generalize hwn : (wordsV tx).length = wn at *
          have HWN := Lib.hid hwn
          have HPI := Lib.hid hpi
          have HSN2 := Lib.hid hsn
          clear hwn hsd hsl hpi hpp hsn hx hc htx
          have HIDX := Lib.hid (fun (W' : World) (h : W'.ownsRow (w.heap.size + 1) 9 1 (.slice (some ⟨gn, 0, none⟩) ns.length cn) ns.length (strsV ns)) => Tryd.slices_Index_string gn 0 ns.length cn ns sp W' (Nat.le_refl _) (by omega) (fun j hj => by
            rw [Nat.zero_add]
            refine (h.cellAt j (by omega)).trans ?_
            simp [strsV, List.getElem?_eq_getElem hj]))
          obtain ⟨W2, hW2⟩ : ∃ W2, W2 = wr.alloc (.cells #[.string sp, .string tx] 77) := ⟨_, rfl⟩
          have tw : Two W2 wr.heap.size 77 (.string sp) (.string tx) := by rw [hW2]; exact Two.new wr _ _ _
          have own2 : W2.ownsRow (w.heap.size + 1) 9 1 (.slice (some ⟨gn, 0, none⟩) ns.length cn) ns.length (strsV ns) := by rw [hW2]; exact own.alloc _
          have cwn2 : W2.ownsRow (w.heap.size + 1) 3 1 (.slice (some ⟨w6.heap.size, 0, none⟩) ns.length ns.length) ns.length (ints (saysL ns (l.take k))) := by rw [hW2]; exact cwn.alloc _
          have B2 : Below w.heap.size w W2 := by rw [hW2]; exact hb.alloc hb.size _
          have sz2 : W2.heap.size = wr.heap.size + 1 := by rw [hW2]; simp
          have hcx2 : W2.cell? ⟨w6.heap.size, p, none⟩ = some (.int .i64 (sd : Int)) := by rw [hW2, World.cell?_alloc_lt _ _ _ hgc0.2]; exact hcx
          have hgw2 : w6.heap.size < W2.heap.size := by omega
          obtain ⟨gt, hgt⟩ : ∃ gt, gt = wr.heap.size := ⟨_, rfl⟩
          rw [← hgt] at tw sz2
          have z1 : IntKind.i64.wrap ((sd : Int) + (wn : Int)) = (sd : Int) + (wn : Int) := IntWalk.i64_in _ (by omega)
          have pp : (p : Int) < (ns.length : Int) := by omega
          have p0 : (0 : Int) ≤ (p : Int) := by omega
          have ngt : gt ≠ w6.heap.size := by omega
          have HM2 := Lib.hid (show MaxOk W2.drew from HM.out.below B2.drew)
          have hf2 := cwn2.frozenAt p
          clear hcx
          go_upto_region 15 with fail
          rw [← hW2, ← hgt]
          have HW2 := Lib.hid hW2
          have HGT := Lib.hid hgt
          clear hW2 hgt own cwn hb
          have hS2 : W2.cell? ⟨gt, 0, none⟩ = some (.string sp) ∧ W2.cell? ⟨gt, 1, none⟩ = some (.string tx) := tw.cells
          have hSD : W2.drew.cell? ⟨gt, 0, none⟩ = some (.string sp) ∧ W2.drew.cell? ⟨gt, 1, none⟩ = some (.string tx) := tw.cells
          have HTW := Lib.hid tw
          have HCX := Lib.hid hcx2
          have HF2 := Lib.hid hf2
          clear tw hcx2 hf2 c1 c2
          first | refine wp_region_noPanic ?_ | skip
          refine wp_region_held_drew (S := fun w' => w'.cell? ⟨gt, 0, none⟩ = some (.string sp) ∧ w'.cell? ⟨gt, 1, none⟩ = some (.string tx)) (by kernel_rfl) (by exact hSD) (fun hHeld => ?_)
          (refine wpAnyH_take (i := 0) (v := ?_) rfl (by kernel_rfl) (by kernel_rfl) (by kernel_rfl) (fun _ _ _ h => h) (Or.inl ⟨by rfl, ?_⟩) (by assumption) ?_; rotate_left; focus (intro w hSw; (try dsimp only at hSw); go_simp; try with_reducible rfl))
          (try simp only [List.getElem_toArray, List.getElem_cons_succ, List.getElem_cons_zero, Act.put, List.setIfInBounds_toArray, List.set_cons_zero, List.set_cons_succ])
          (refine wpAnyH_take (i := 1) (v := ?_) rfl (by kernel_rfl) (by kernel_rfl) (by kernel_rfl) (fun _ _ _ h => h) (Or.inl ⟨by rfl, ?_⟩) (by assumption) ?_; rotate_left; focus (intro w hSw; (try dsimp only at hSw); go_simp; try with_reducible rfl))
          (try simp only [List.getElem_toArray, List.getElem_cons_succ, List.getElem_cons_zero, Act.put, List.setIfInBounds_toArray, List.set_cons_zero, List.set_cons_succ])
          (refine wpAnyH_take (i := 2) (v := ?_) rfl (by kernel_rfl) (by kernel_rfl) (by kernel_rfl) (fun _ _ _ h => h) (Or.inl ⟨by rfl, ?_⟩) (by assumption) ?_; rotate_left; focus (intro w hSw; (try dsimp only at hSw); go_simp; try with_reducible rfl))
          (try simp only [List.getElem_toArray, List.getElem_cons_succ, List.getElem_cons_zero, Act.put, List.setIfInBounds_toArray, List.set_cons_zero, List.set_cons_succ])
          (refine wpAnyH_take (i := 3) (v := ?_) rfl (by kernel_rfl) (by kernel_rfl) (by kernel_rfl) (fun _ _ _ h => h) (Or.inl ⟨by rfl, ?_⟩) (by assumption) ?_; rotate_left; focus (intro w hSw; (try dsimp only at hSw); go_simp; try with_reducible rfl))
          (try simp only [List.getElem_toArray, List.getElem_cons_succ, List.getElem_cons_zero, Act.put, List.setIfInBounds_toArray, List.set_cons_zero, List.set_cons_succ])
          (refine wpAnyH_take (i := 7) (v := ?_) rfl (by kernel_rfl) (by kernel_rfl) (by kernel_rfl) (fun _ _ _ h => h) (Or.inl ⟨by rfl, ?_⟩) (by assumption) ?_; rotate_left; focus (intro w hSw; (try dsimp only at hSw); go_simp; try with_reducible rfl))
          (try simp only [List.getElem_toArray, List.getElem_cons_succ, List.getElem_cons_zero, Act.put, List.setIfInBounds_toArray, List.set_cons_zero, List.set_cons_succ])
          refine wpAnyH_ready (rs := [4]) (by kernel_rfl) (by simp) ?_
          refine AllReadyH.cons rfl (fun K hK => ?_) AllReadyH.nil
          go_simp
          refine (HIDX.out W2.drew own2).mono ?_
          rintro e w7 ⟨rfl, rfl⟩
          rw [List.take_length, HPI.out]
          refine hK.out _ _ (hSD) (fun hHeld => ?_)
          clear hK K
          (try simp only [List.getElem_toArray, List.getElem_cons_succ, List.getElem_cons_zero, Act.put, List.setIfInBounds_toArray, List.set_cons_zero, List.set_cons_succ])
          (refine wpAnyH_take (i := 5) (v := ?_) rfl (by kernel_rfl) (by kernel_rfl) (by kernel_rfl) (fun _ _ _ h => h) (Or.inl ⟨by rfl, ?_⟩) (by assumption) ?_; rotate_left; focus (intro w hSw; (try dsimp only at hSw); go_simp; try with_reducible rfl))
          (try simp only [List.getElem_toArray, List.getElem_cons_succ, List.getElem_cons_zero, Act.put, List.setIfInBounds_toArray, List.set_cons_zero, List.set_cons_succ])
          refine wpAnyH_ready (rs := [6, 8]) (by kernel_rfl) (by simp) ?_
          refine AllReadyH.cons rfl (fun K hK => ?_) (AllReadyH.cons rfl (fun K hK => ?_) AllReadyH.nil)
          · have cx7 : W2.drew.cell? ⟨w6.heap.size, p, none⟩ = some (.int .i64 (sd : Int)) := HCX.out
            go_simp
            refine hK.out _ _ (hSD) (fun hHeld => ?_)
            clear hK K
            (try simp only [List.getElem_toArray, List.getElem_cons_succ, List.getElem_cons_zero, Act.put, List.setIfInBounds_toArray, List.set_cons_zero, List.set_cons_succ])
            clear cx7
            refine wpAnyH_ready (rs := [8]) (by kernel_rfl) (by simp) ?_
            refine AllReadyH.cons rfl (fun K hK => ?_) AllReadyH.nil
            go_simp
            refine (impl_words sp tx _ hts HTX.out HM2.out).mono ?_
            rintro e w8 ⟨vl, rfl, ol, b8⟩
            obtain ⟨Al, kl, hvl, -, -, -⟩ := ol.slice
            rw [HWN.out] at hvl
            subst hvl
            have b8' : Below W2.heap.size W2 w8 := (Below.refl W2.heap.size W2).drew.trans b8
            have hS8 : w8.cell? ⟨gt, 0, none⟩ = some (.string sp) ∧ w8.cell? ⟨gt, 1, none⟩ = some (.string tx) := ⟨(b8'.cell (by show gt < _; omega)).trans hS2.1, (b8'.cell (by show gt < _; omega)).trans hS2.2⟩
            have cx8 : w8.cell? ⟨w6.heap.size, p, none⟩ = some (.int .i64 (sd : Int)) := (b8'.cell hgw2).trans HCX.out
            have fz8 : w8.frozen? ⟨w6.heap.size, p, none⟩ = false := (b8'.frozen hgw2).trans HF2.out
            refine hK.out _ _ (hS8) (fun hHeld => ?_)
            clear hK K
            (try simp only [List.getElem_toArray, List.getElem_cons_succ, List.getElem_cons_zero, Act.put, List.setIfInBounds_toArray, List.set_cons_zero, List.set_cons_succ])
            (refine wpAnyH_take (i := 9) (v := ?_) rfl (by kernel_rfl) (by kernel_rfl) (by kernel_rfl) (fun _ _ _ h => h) (Or.inl ⟨by rfl, ?_⟩) (by assumption) ?_; rotate_left; focus (intro w hSw; (try dsimp only at hSw); go_simp; try with_reducible rfl))
            (try simp only [List.getElem_toArray, List.getElem_cons_succ, List.getElem_cons_zero, Act.put, List.setIfInBounds_toArray, List.set_cons_zero, List.set_cons_succ])
            (refine wpAnyH_take (i := 10) (v := ?_) rfl (by kernel_rfl) (by kernel_rfl) (by kernel_rfl) (fun _ _ _ h => h) (Or.inl ⟨by rfl, ?_⟩) (by assumption) ?_; rotate_left; focus (intro w hSw; (try dsimp only at hSw); go_simp; try with_reducible rfl))
            (try simp only [List.getElem_toArray, List.getElem_cons_succ, List.getElem_cons_zero, Act.put, List.setIfInBounds_toArray, List.set_cons_zero, List.set_cons_succ])
            (refine wpAnyH_take (i := 11) (v := ?_) rfl (by kernel_rfl) (by kernel_rfl) (by kernel_rfl) (fun _ _ _ h => h) (Or.inl ⟨by rfl, ?_⟩) (by assumption) ?_; rotate_left; focus (intro w hSw; (try dsimp only at hSw); go_simp; try with_reducible rfl))
            (try simp only [List.getElem_toArray, List.getElem_cons_succ, List.getElem_cons_zero, Act.put, List.setIfInBounds_toArray, List.set_cons_zero, List.set_cons_succ])
            refine wpAnyH_ready (rs := [12]) (by kernel_rfl) (by simp) ?_
            refine AllReadyH.cons rfl (fun K hK => ?_) AllReadyH.nil
            go_simp
            refine hK.out _ _ (⟨(World.cell?_setCell_other _ _ _ _ (fun e => ngt (congrArg Addr.block e).symm)).trans hS8.1, (World.cell?_setCell_other _ _ _ _ (fun e => ngt (congrArg Addr.block e).symm)).trans hS8.2⟩) (fun hHeld => ?_)
            clear hK K
            (try simp only [List.getElem_toArray, List.getElem_cons_succ, List.getElem_cons_zero, Act.put, List.setIfInBounds_toArray, List.set_cons_zero, List.set_cons_succ])
            refine wpAnyH_done (by kernel_rfl) ?_ _
            first | refine NoPanic.normal ?_ | skip
            have cwn8 := row_below cwn2 b8'
            have own8 := row_below own2 b8'
            have B8 := B2.trans (b8'.mono B2.size)
            have cwn9 := ((Own.of_row cwn8).set_ p (.int .i64 ((sd : Int) + (wn : Int)))).1
            have own9 := ownsRow_only (lo' := w6.heap.size) (hi' := w6.heap.size + 1) own8 ((Only.refl w8).setCell (p := ⟨w6.heap.size, p, none⟩) (Nat.le_refl _) (Nat.lt_succ_self _) (.int .i64 ((sd : Int) + (wn : Int)))) (fun g' hg' => by simp [Value.ownBlock] at hg'; omega)
            have B9 := B8.setCell (p := ⟨w6.heap.size, p, none⟩) (show w.heap.size ≤ w6.heap.size by omega) (.int .i64 ((sd : Int) + (wn : Int)))
            clear z1 hHeld cx8 fz8
            go_wp2_with fail
            go_roundw
            case rel =>
              refine ⟨k + 1, hlt, by go_num, own9, ?_, B9⟩
              rw [HSN2.out, ← ints_set]
              exact cwn9
            case measure => simp [intOf]; omega
          · go_simp
            refine (impl_words sp tx _ hts HTX.out HM2.out).mono ?_
            rintro e w8 ⟨vl, rfl, ol, b8⟩
            obtain ⟨Al, kl, hvl, -, -, -⟩ := ol.slice
            rw [HWN.out] at hvl
            subst hvl
            have b8' : Below W2.heap.size W2 w8 := (Below.refl W2.heap.size W2).drew.trans b8
            have hS8 : w8.cell? ⟨gt, 0, none⟩ = some (.string sp) ∧ w8.cell? ⟨gt, 1, none⟩ = some (.string tx) := ⟨(b8'.cell (by show gt < _; omega)).trans hS2.1, (b8'.cell (by show gt < _; omega)).trans hS2.2⟩
            have cx8 : w8.cell? ⟨w6.heap.size, p, none⟩ = some (.int .i64 (sd : Int)) := (b8'.cell hgw2).trans HCX.out
            have fz8 : w8.frozen? ⟨w6.heap.size, p, none⟩ = false := (b8'.frozen hgw2).trans HF2.out
            refine hK.out _ _ (hS8) (fun hHeld => ?_)
            clear hK K
            (try simp only [List.getElem_toArray, List.getElem_cons_succ, List.getElem_cons_zero, Act.put, List.setIfInBounds_toArray, List.set_cons_zero, List.set_cons_succ])
            (refine wpAnyH_take (i := 9) (v := ?_) rfl (by kernel_rfl) (by kernel_rfl) (by kernel_rfl) (fun _ _ _ h => h) (Or.inl ⟨by rfl, ?_⟩) (by assumption) ?_; rotate_left; focus (intro w hSw; (try dsimp only at hSw); go_simp; try with_reducible rfl))
            (try simp only [List.getElem_toArray, List.getElem_cons_succ, List.getElem_cons_zero, Act.put, List.setIfInBounds_toArray, List.set_cons_zero, List.set_cons_succ])
            refine wpAnyH_ready (rs := [6]) (by kernel_rfl) (by simp) ?_
            refine AllReadyH.cons rfl (fun K hK => ?_) AllReadyH.nil
            go_simp
            refine hK.out _ _ (hS8) (fun hHeld => ?_)
            clear hK K
            (try simp only [List.getElem_toArray, List.getElem_cons_succ, List.getElem_cons_zero, Act.put, List.setIfInBounds_toArray, List.set_cons_zero, List.set_cons_succ])
            (refine wpAnyH_take (i := 10) (v := ?_) rfl (by kernel_rfl) (by kernel_rfl) (by kernel_rfl) (fun _ _ _ h => h) (Or.inl ⟨by rfl, ?_⟩) (by assumption) ?_; rotate_left; focus (intro w hSw; (try dsimp only at hSw); go_simp; try with_reducible rfl))
            (try simp only [List.getElem_toArray, List.getElem_cons_succ, List.getElem_cons_zero, Act.put, List.setIfInBounds_toArray, List.set_cons_zero, List.set_cons_succ])
            (refine wpAnyH_take (i := 11) (v := ?_) rfl (by kernel_rfl) (by kernel_rfl) (by kernel_rfl) (fun _ _ _ h => h) (Or.inl ⟨by rfl, ?_⟩) (by assumption) ?_; rotate_left; focus (intro w hSw; (try dsimp only at hSw); go_simp; try with_reducible rfl))
            (try simp only [List.getElem_toArray, List.getElem_cons_succ, List.getElem_cons_zero, Act.put, List.setIfInBounds_toArray, List.set_cons_zero, List.set_cons_succ])
            refine wpAnyH_ready (rs := [12]) (by kernel_rfl) (by simp) ?_
            refine AllReadyH.cons rfl (fun K hK => ?_) AllReadyH.nil
            go_simp
            refine hK.out _ _ (⟨(World.cell?_setCell_other _ _ _ _ (fun e => ngt (congrArg Addr.block e).symm)).trans hS8.1, (World.cell?_setCell_other _ _ _ _ (fun e => ngt (congrArg Addr.block e).symm)).trans hS8.2⟩) (fun hHeld => ?_)
            clear hK K
            (try simp only [List.getElem_toArray, List.getElem_cons_succ, List.getElem_cons_zero, Act.put, List.setIfInBounds_toArray, List.set_cons_zero, List.set_cons_succ])
            refine wpAnyH_done (by kernel_rfl) ?_ _
            first | refine NoPanic.normal ?_ | skip
            have cwn8 := row_below cwn2 b8'
            have own8 := row_below own2 b8'
            have B8 := B2.trans (b8'.mono B2.size)
            have cwn9 := ((Own.of_row cwn8).set_ p (.int .i64 ((sd : Int) + (wn : Int)))).1
            have own9 := ownsRow_only (lo' := w6.heap.size) (hi' := w6.heap.size + 1) own8 ((Only.refl w8).setCell (p := ⟨w6.heap.size, p, none⟩) (Nat.le_refl _) (Nat.lt_succ_self _) (.int .i64 ((sd : Int) + (wn : Int)))) (fun g' hg' => by simp [Value.ownBlock] at hg'; omega)
            have B9 := B8.setCell (p := ⟨w6.heap.size, p, none⟩) (show w.heap.size ≤ w6.heap.size by omega) (.int .i64 ((sd : Int) + (wn : Int)))
            clear z1 hHeld cx8 fz8
            go_wp2_with fail
            go_roundw
            case rel =>
              refine ⟨k + 1, hlt, by go_num, own9, ?_, B9⟩
              rw [HSN2.out, ← ints_set]
              exact cwn9
            case measure => simp [intOf]; omega
        · obtain rfl : k = l.length := by omega
          go_wp2
          go_ret3
          refine ⟨.slice (some ⟨gn, 0, none⟩) ns.length cn, .slice (some ⟨w6.heap.size, 0, none⟩) ns.length ns.length, by rw [HV.out]; rfl, ?_, ?_, hb⟩
          · rw [HFN.out]; exact Own.of_row (own.base (lo' := w.heap.size) (by omega))
          · rw [HFC.out, HSL.out]; exact Own.of_row (cwn.base (lo' := w.heap.size) (by omega))
end Go.Proofs.YtnndkdkmhjpcpaaDoor
