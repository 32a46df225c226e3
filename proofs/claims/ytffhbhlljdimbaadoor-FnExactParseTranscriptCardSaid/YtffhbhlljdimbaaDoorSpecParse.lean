/-
  The reference's ParseTranscript.
-/
import Derived.Test.YtffhbhlljdimbaaDoorParseTrans
import Derived.Deep.RegionHeld3
import Derived.Deep.RegionLaw
namespace Go.Proofs.YtffhbhlljdimbaaDoor
open Go.RowKit
set_option linter.unusedVariables false
set_option maxRecDepth 100000

theorem parts_form {l : List TurnD} (hv : transB l = true) : parts 10 (formT l) = l.map headT ++ [[]] := by
  have h : ∀ m : List TurnD, (∀ c ∈ m, turnB c = true) → parts 10 (formT m) = m.map headT ++ [[]] := by
    intro m
    induction m with
    | nil => intro _; rfl
    | cons c m ih =>
      intro hm
      rw [formT_cons, parts_cut _ (head_no10 (hm c (by simp))), ih fun d hd => hm d (by simp [hd])]
      rfl
  refine h l fun c hc => ?_
  obtain ⟨j, hj⟩ := List.mem_iff_getElem?.1 hc
  exact trans_at hv hj
/-- The transcripts of this text begin with the turns read. -/
def ReadingS (s : ByteArray) (l' : List TurnD) (k : Nat) : Prop := ∀ l, transB l = true → transText l = s → l' = l.take k
theorem line_of {s : ByteArray} {l : List TurnD} (hv : transB l = true) (hs : transText l = s) {k : Nat} {x : ByteArray} (hx : (partsV 10 s)[k]? = some x) (hk : k + 1 < (partsV 10 s).length) :
    ∃ c, l[k]? = some c ∧ turnB c = true ∧ x.data.toList = headT c := by
  have hd : s.data.toList = formT l := by rw [← hs]; rfl
  have hp : partsV 10 s = (l.map headT ++ [[]]).map fun y : List UInt8 => (⟨y.toArray⟩ : ByteArray) := by unfold partsV; rw [hd, parts_form hv]
  rw [hp] at hx hk
  simp only [List.map_append, List.map_map, List.map_cons, List.map_nil, List.length_append, List.length_map, List.length_cons, List.length_nil] at hk
  have hkl : k < l.length := by omega
  obtain ⟨c, hc⟩ := some_at l hkl
  refine ⟨c, hc, trans_at hv hc, ?_⟩
  rw [List.map_append, List.map_map, List.getElem?_append_left (by simp; omega)] at hx
  simp only [List.getElem?_map, hc, Option.map_some, Option.some.injEq, Function.comp] at hx
  rw [← hx]
theorem byte_at {x : ByteArray} {j : Nat} (h : j < x.size) : x.data.toList[j]? = some x[j] := by
  rw [List.getElem?_eq_getElem (by simpa using h)]
  rfl
/-- The first colon of a line. -/
theorem head_colon {c : TurnD} (hc : turnB c = true) {x : ByteArray} (hx : x.data.toList = headT c) {j : Nat} (hj : j ≤ x.size) (h1 : ∀ i (hi : i < x.size), i < j → x[i] ≠ 58) (h2 : ∀ h : j < x.size, x[j] = 58) :
    j = c.1.size ∧ j + 2 ≤ x.size ∧ x.extract 0 j = c.1 ∧ x.extract (j + 2) x.size = c.2 := by
  have hsz : x.size = c.1.size + (2 + c.2.size) := by
    have : x.data.toList.length = x.size := rfl
    rw [← this, hx]
    have e1 : c.1.data.toList.length = c.1.size := rfl
    have e2 : c.2.data.toList.length = c.2.size := rfl
    simp only [headT, List.length_append, List.length_cons, List.length_nil, e1, e2]
  have hn := speaker_no58 hc
  have hat : (headT c)[c.1.size]? = some 58 := by
    unfold headT
    rw [List.getElem?_append_right (show c.1.data.toList.length ≤ c.1.size from Nat.le_refl _), show c.1.data.toList.length = c.1.size from rfl, Nat.sub_self]
    rfl
  have hje : j = c.1.size := by
    rcases Nat.lt_trichotomy j c.1.size with h | h | h
    · have hjs : j < x.size := by omega
      have h3 := byte_at hjs
      rw [h2 hjs, hx] at h3
      unfold headT at h3
      rw [List.getElem?_append_left h] at h3
      exact absurd (List.mem_of_getElem? h3) hn
    · exact h
    · have hjs : c.1.size < x.size := by omega
      have h3 := byte_at hjs
      rw [hx, hat] at h3
      exact absurd (Option.some.inj h3).symm (h1 _ hjs h)
  refine ⟨hje, by omega, ?_, ?_⟩
  · apply WideShapes.bytes_inj
    rw [Lib.extract_from_zero, hx, hje]
    exact List.take_left
  · apply WideShapes.bytes_inj
    rw [Lib.extract_to_end, hx, hje]
    unfold headT
    rw [← List.drop_drop, show c.1.size = c.1.data.toList.length from rfl, List.drop_left]
    rfl
theorem readingS_step {s : ByteArray} {l' : List TurnD} {k : Nat} (h : ReadingS s l' k) {x : ByteArray} (hx : (partsV 10 s)[k]? = some x) (hk : k + 1 < (partsV 10 s).length) {j : Nat} (hj : j ≤ x.size) (h1 : ∀ i (hi : i < x.size), i < j → x[i] ≠ 58) (h2 : ∀ h : j < x.size, x[j] = 58) :
    ReadingS s (l' ++ [(x.extract 0 j, x.extract (j + 2) x.size)]) (k + 1) := by
  intro l hv hs
  obtain ⟨c, hc, ht, he⟩ := line_of hv hs hx hk
  obtain ⟨-, -, e1, e2⟩ := head_colon ht he hj h1 h2
  rw [take_succ_of hc, ← h l hv hs, e1, e2]
theorem readingS_none {s : ByteArray} {x : ByteArray} {k : Nat} (hx : (partsV 10 s)[k]? = some x) (hk : k + 1 < (partsV 10 s).length) {j : Nat} (hj : j ≤ x.size) (h1 : ∀ i (hi : i < x.size), i < j → x[i] ≠ 58) (h2 : ∀ h : j < x.size, x[j] = 58) (h3 : ¬ j + 2 ≤ x.size) :
    ∀ m, transB m = true → transText m ≠ s := by
  intro l hv hs
  obtain ⟨c, hc, ht, he⟩ := line_of hv hs hx hk
  exact h3 (head_colon ht he hj h1 h2).2.1
theorem readingS_end {s : ByteArray} {l' l : List TurnD} {k : Nat} (h : ReadingS s l' k) (hk : ¬ k + 1 < (partsV 10 s).length) (hv : transB l = true) (hs : transText l = s) : l' = l := by
  rw [h l hv hs]
  have hd : s.data.toList = formT l := by rw [← hs]; rfl
  have hp : (partsV 10 s).length = l.length + 1 := by unfold partsV; rw [hd, parts_form hv]; simp
  exact List.take_of_length_le (by omega)

theorem keep_alloc {w : World} {a : Addr} {v : Value} (h : w.cell? a = some v) (o : Obj) : (w.alloc o).cell? a = some v := (World.cell?_alloc_lt w o a (World.block_lt_of_cell? w _ h)).trans h
theorem keep_drew {w : World} {a : Addr} {v : Value} (h : w.cell? a = some v) : w.drew.cell? a = some v := h
theorem keep_grown {w w' : World} {a : Addr} {v : Value} {row : Option Nat} (h : w.cell? a = some v) (hg : w.grownBy w' row) (hne : some a.block ≠ row) : w'.cell? a = some v := hg.cell h hne
theorem keep_set {w : World} {a p : Addr} {v : Value} (h : w.cell? a = some v) (hne : p.block ≠ a.block) (u : Value) : (w.setCell p u).cell? a = some v := (World.cell?_setCell_other _ _ _ _ (fun e => hne (by rw [e]))).trans h

set_option maxHeartbeats 8000000 in
theorem spec_ParseTranscript (s : ByteArray) (w : World) (hs : s.size ≤ 4194304) : Calls Tryd.prog 21 #[.string s] w (ParseRes s w) := by
  by_cases h2 : s.size ≤ 20000
  · obtain ⟨W2, hW2⟩ : ∃ W2, W2 = (w.alloc (.cells #[.slice none 0 0] 29)).alloc (.cells #[.slice none 0 0] 29) := ⟨_, rfl⟩
    have hb2 : Below w.heap.size w W2 := by rw [hW2]; exact ((Below.refl _ _).alloc (Nat.le_refl _) _).alloc (by simp) _
    have hs1 : W2.heap.size = w.heap.size + 2 := by rw [hW2]; simp
    have boxR : Box W2 w.heap.size 29 (.slice none 0 0) := by rw [hW2]; exact (Box.new w _ _).alloc _
    have boxB : Box W2 (w.heap.size + 1) 29 (.slice none 0 0) := by
      rw [hW2]
      have h := Box.new (w.alloc (.cells #[.slice none 0 0] 29)) 29 (.slice none 0 0)
      rwa [show (w.alloc (.cells #[.slice none 0 0] 29)).heap.size = w.heap.size + 1 by simp] at h
    have HS1 := Lib.hid hs1
    have hpl := partsV_length 10 s
    have HPS := Lib.hid (partsV_size 10 s)
    have hp0 : 0 < (partsV 10 s).length := by rw [← countB_parts]; omega
    clear hs1
    go_enter Tryd.func21, Tryd.ntmps21
    go_wp2_with fail
    rw [← hW2]
    clear hW2
    refine (spec_l1Split s _ 10 rfl _ hs).mono ?_
    rintro e w1 ⟨vl, rfl, ol, b1⟩
    obtain ⟨g, cl, hvl, hg1, hg2, hg3, hnc, hcm, -, -⟩ := ol.open_ hp0
    subst hvl
    have hg0 : w.heap.size + 1 < g := by have := HS1.out; omega
    have s1 := b1.size
    have boxR1 := boxR.far b1
    have boxB1 := boxB.far b1
    have hb1 := hb2.trans (b1.mono hb2.size)
    clear boxR boxB
    go_wp2
    go_loopw [6, 7] (fun i j wr => ∃ (k : Nat) (l' : List TurnD) (v : Value), i = .int .i64 k ∧ k < (partsV 10 s).length ∧ l'.length = k ∧ (∀ c ∈ l', c.1.size ≤ 4194304 ∧ c.2.size ≤ 4194304) ∧ Box wr w.heap.size 29 (.slice none 0 0) ∧ Box wr (w.heap.size + 1) 29 v ∧
      wr.ownsRow w1.heap.size 81 2 v l'.length (turnsV l') ∧ wr.ownsRow W2.heap.size 9 1 (.slice (some ⟨g, 0, none⟩) (partsV 10 s).length cl) (partsV 10 s).length (strsV (partsV 10 s)) ∧ ReadingS s l' k ∧ Below w.heap.size w wr ∧ w1.heap.size ≤ wr.heap.size) (fun i _ _ => (partsV 10 s).length - (intOf i).toNat)
    case atStart => exact ⟨0, [], _, rfl, hp0, rfl, by simp, boxR1, boxB1, World.ownsRow_nil _ _ _ _, ol.1, fun l _ _ => rfl, hb1, Nat.le_refl _⟩
    case round =>
      obtain ⟨k, l', v, rfl, hk, hl, hsh, bR, bB, hown, hls, hrd, hb, hsz1⟩ := hrel
      have HRD := Lib.hid hrd
      have HSH := Lib.hid hsh
      have HL := Lib.hid hl
      have hll : l'.length ≤ 20000 := by omega
      have hsz := hb.size
      have cB := bB.cell
      have nB := bB.ne_own hown (by decide)
      have nR := bR.ne_own hown (by decide)
      have HNB := Lib.hid nB
      have HNR := Lib.hid nR
      have hnl : some g ≠ v.ownBlock := fun h => by have := (hown.lt _ h.symm).1; omega
      have HNL := Lib.hid hnl
      obtain ⟨A1, k1, hv1, Rd, -, -⟩ := (Own.of_row hown).slice
      subst hv1
      clear hrd hsh hl nB nR hnl
      by_cases hlt : k + 1 < (partsV 10 s).length
      · obtain ⟨x, hx⟩ := some_at (partsV 10 s) hk
        have cx : wr.cell? ⟨g, k, none⟩ = some (.string x) := (hls.cellAt k (by omega)).trans (strsV_at hx)
        have hxs := HPS.out x (List.mem_of_getElem? hx)
        have HX := Lib.hid hx
        have i1 : (k : Int) + 1 < ((partsV 10 s).length : Int) := by omega
        have i2 : (k : Int) < ((partsV 10 s).length : Int) := by omega
        have i0 : (0 : Int) ≤ (k : Int) := by omega
        clear hx
        go_wp2
        obtain ⟨wo, hwo⟩ : ∃ wo : World, wo = wr := ⟨_, rfl⟩
        rw [← hwo]
        go_loop [7] (fun j => ∃ n : Nat, j = .int .i64 n ∧ n ≤ x.size ∧ ∀ i (hi : i < x.size), i < n → x[i] ≠ 58) (fun j => x.size - (intOf j).toNat)
        case atStart => exact ⟨0, rfl, Nat.zero_le _, fun i _ h => absurd h (Nat.not_lt_zero _)⟩
        case round =>
          obtain ⟨n, rfl, hn, hall⟩ := hrel
          subst hwo
          have HA := Lib.hid hall
          clear hall
          by_cases hgo : ∃ h : n < x.size, x[n] ≠ 58
          · obtain ⟨hnx, hne⟩ := hgo
            have hne2 : ((x[n].toNat : Int) != 58) = true := by
              rw [bne_iff_ne]
              intro h
              exact hne (UInt8.toNat_inj.1 (by have : (58 : UInt8).toNat = 58 := rfl; omega))
            have hne3 : ((x[n].toNat : Int) == 58) = false := by simpa using hne2
            have HNE := Lib.hid hne
            clear hne
            go_wp2
            go_round
            case rel => exact ⟨n + 1, by go_num, by omega, fun i hi h => by
              rcases Nat.lt_or_ge i n with h' | h'
              · exact HA.out i hi h'
              · obtain rfl : i = n := by omega
                exact HNE.out⟩
            case measure => simp [intOf]; omega
          · have hat : ∀ h : n < x.size, x[n] = 58 := fun h => by
              by_cases h' : x[n] = 58
              · exact h'
              · exact absurd ⟨h, h'⟩ hgo
            have HAT := Lib.hid hat
            clear hgo hat
            have i0n : (0 : Int) ≤ (n : Int) := by omega
            have i3 : (n : Int) ≤ (x.size : Int) := by omega
            have j1 : (n : Int) < (x.size : Int) → ∃ h : n < x.size, x[n] = 58 := fun h => ⟨by omega, HAT.out _⟩
            by_cases hnx : n < x.size
            · have e58 := HAT.out hnx
              have hne2 : ((x[n].toNat : Int) != 58) = false := by rw [e58]; rfl
              have hne3 : ((x[n].toNat : Int) == 58) = true := by rw [e58]; rfl
              clear e58 j1
              by_cases hj2 : n + 2 ≤ x.size
              · have i4 : (n : Int) + 2 ≤ (x.size : Int) := by omega
                have i5 : (0 : Int) ≤ (n : Int) + 2 := by omega
                have ww1 : IntKind.i64.wrap ((n : Int) + 2) = (n : Int) + 2 := IntWalk.i64_in _ (by omega)
                have ww2 : ((n : Int) + 2).toNat = n + 2 := by omega
                have hB1 : w.heap.size + 1 < wo.heap.size := bB.lt
                have hsB : w1.heap.size ≤ (wo.alloc (.cells #[.string (x.extract 0 n), .string (x.extract (n + 2) x.size)] 81)).heap.size := by simp; omega
                have hgk : some (⟨g, k, none⟩ : Addr).block ≠ (Value.slice A1 l'.length k1).ownBlock := HNL.out
                have hgB : (⟨w.heap.size + 1, 0, none⟩ : Addr).block ≠ (⟨g, k, none⟩ : Addr).block := by show w.heap.size + 1 ≠ g; omega
                have q1 : (l'.length + 1) * 32 ≤ 140737488355328 := by omega
                have q2 : l'.length + 1 ≤ maxLen := by unfold maxLen; omega
                go_wp2
                go_region_law (refine step_append_own (hown.alloc _).drew hsB (.tmp 50) (.tmp 65) 27 Tryd.underlying27 info_turn q1 q2 (ys := [.string (x.extract 0 n), .string (x.extract (n + 2) x.size)]) (g := wo.heap.size) (news_alloc rfl) (by simp [Value.oneCell']) ⟨rfl, rfl, rfl, rfl, rfl, rfl, by decide⟩ ?_; intro v3 w3 hown3 hg3 _; obtain ⟨A3, k3, hv3, -, -, -⟩ := (Own.of_row hown3).slice; subst hv3; have bB3 := ((bB.alloc _).drew).grown hg3 HNB.out; have bR3 := ((bR.alloc _).drew).grown hg3 HNR.out; have cB3 := bB3.cell; have fB3 := bB3.free; have hs3 := Nat.le_trans hsB hg3.size)
                all_goals
                  clear ww1 ww2
                  go_wp2
                  go_roundw
                  case rel => exact ⟨k + 1, l' ++ [(x.extract 0 n, x.extract (n + 2) x.size)], _, by go_num, by omega, by rw [List.length_append, HL.out]; rfl, fun c hc => by
                    rcases List.mem_append.1 hc with h | h
                    · exact HSH.out c h
                    · simp at h; subst h; exact ⟨by simp only [ByteArray.size_extract]; omega, by simp only [ByteArray.size_extract]; omega⟩, bR3.setOther (by show w.heap.size + 1 ≠ w.heap.size; omega) _, bB3.set_ _,
                    by rw [turnsV_snoc, List.length_append]; exact ownsRow_setCell_other hown3 (bB3.ne_own hown3 (by decide)) _,
                    ownsRow_setCell_other (((hls.alloc _).drew).kept hg3 (.inr HNL.out)) (by show some g ≠ some (w.heap.size + 1); intro h; injection h; omega) _,
                    readingS_step HRD.out HX.out hlt hn HA.out HAT.out, (below_grown (hb.alloc hsz _).drew hg3 (by simp; omega) (hown.alloc _).drew rfl (by have := hb1.size; omega)).setCell (by show w.heap.size ≤ w.heap.size + 1; omega) _, by simpa [World.setCell] using hs3⟩
                  case measure => simp [intOf]; omega
              · have i4 : ¬ (n : Int) + 2 ≤ (x.size : Int) := by omega
                have i4' : (x.size : Int) < (n : Int) + 2 := by omega
                have HNO := Lib.hid (readingS_none HX.out hlt hn HA.out HAT.out hj2)
                have cR := bR.cell
                have fR := bR.free
                go_wp2
                refine bodyPost_ret (v := .tuple #[.agg #[.slice none 0 0], .bool false]) (by simp [results, go_sem, cR]) rfl ?_
                exact ⟨[], _, .inr ⟨fun _ => HNO.out, rfl, rfl⟩, Own.none_, hb.setCell (by exact Nat.le_refl _) _⟩
            · clear j1
              by_cases hj2 : n + 2 ≤ x.size
              · exact absurd hj2 (by omega)
              · have i4 : ¬ (n : Int) + 2 ≤ (x.size : Int) := by omega
                have i4' : (x.size : Int) < (n : Int) + 2 := by omega
                have HNO := Lib.hid (readingS_none HX.out hlt hn HA.out HAT.out hj2)
                have cR := bR.cell
                have fR := bR.free
                go_wp2
                refine bodyPost_ret (v := .tuple #[.agg #[.slice none 0 0], .bool false]) (by simp [results, go_sem, cR]) rfl ?_
                exact ⟨[], _, .inr ⟨fun _ => HNO.out, rfl, rfl⟩, Own.none_, hb.setCell (by exact Nat.le_refl _) _⟩
      · have HK := Lib.hid hlt
        have i1 : ¬ (k : Int) + 1 < ((partsV 10 s).length : Int) := by omega
        have HNX := Lib.hid (show ∀ m, transB m = true → transText m = s → l' = m from fun m hm hms => readingS_end HRD.out hlt hm hms)
        clear hlt
        cases hv : transB l'
        · go_wp2_with fail
          refine (spec_IsValidTranscript A1 k1 l' _ Rd (by omega) HSH.out).mono ?_
          rw [hv]
          rintro e w4 ⟨rfl, b4⟩
          have bR4 := bR.far b4
          have cR := bR4.cell
          have fR := bR4.free
          go_wp2
          refine bodyPost_ret (v := .tuple #[.agg #[.slice none 0 0], .bool false]) (by simp [results, go_sem, cR]) rfl ?_
          exact ⟨[], _, .inr ⟨(fun _ m hm hms => by rw [HNX.out m hm hms, hm] at hv; cases hv), rfl, rfl⟩, Own.none_, (hb.trans (b4.mono hsz)).setCell (by exact Nat.le_refl _) _⟩
        · have HV := Lib.hid hv
          go_wp2_with fail
          refine (spec_IsValidTranscript A1 k1 l' _ Rd (by omega) HSH.out).mono ?_
          rw [hv]
          rintro e w4 ⟨rfl, b4⟩
          have bR4 := bR.far b4
          have bB4 := bB.far b4
          have cB4 := bB4.cell
          have hown4 := ((Own.of_row hown).below b4).1
          have s4 := b4.size
          have B4 := hb.trans (b4.mono hsz)
          clear cB hv
          by_cases ht : transText l' = s
          · have HTT := Lib.hid ht
            go_wp2_with fail
            refine (spec_l21Format A1 k1 l' _ (Reads.of_own hown4) HV.out).mono ?_
            rw [ht]
            clear ht
            rintro e w5 ⟨rfl, b5⟩
            have bR5 := bR4.far b5
            have bB5 := bB4.far b5
            have cB5 := bB5.cell
            have cR := bR5.cell
            have fR := bR5.free
            have hown5 := ((Own.of_row hown4).below b5).1.base (lo' := w.heap.size) (by have := HS1.out; omega)
            clear cB4
            go_wp2
            refine bodyPost_ret (v := .tuple #[.agg #[.slice A1 l'.length k1], .bool true]) (by simp [results, go_sem, cR]) rfl ?_
            exact ⟨l', _, .inl ⟨h2, HV.out, HTT.out, rfl⟩, Own.of_row (ownsRow_setCell_other hown5 HNR.out _), (B4.trans (b5.mono (by omega))).setCell (by exact Nat.le_refl _) _⟩
          · have hne : ((transText l').toList == s.toList) = false := by rw [str_beq]; exact decide_eq_false ht
            have HTT := Lib.hid (show ∀ m, transB m = true → transText m ≠ s from fun m hm hms => ht (by rw [HNX.out m hm hms]; exact hms))
            go_wp2_with fail
            refine (spec_l21Format A1 k1 l' _ (Reads.of_own hown4) HV.out).mono ?_
            clear ht
            rintro e w5 ⟨rfl, b5⟩
            generalize transText l' = TX at *
            have bR5 := bR4.far b5
            have cR := bR5.cell
            have fR := bR5.free
            clear cB4
            go_wp2
            refine bodyPost_ret (v := .tuple #[.agg #[.slice none 0 0], .bool false]) (by simp [results, go_sem, cR]) rfl ?_
            exact ⟨[], _, .inr ⟨fun _ => HTT.out, rfl, rfl⟩, Own.none_, (B4.trans (b5.mono (by omega))).setCell (by exact Nat.le_refl _) _⟩
  · have HN := Lib.hid h2
    have i1 : (20000 : Int) < (s.size : Int) := by omega
    have hs' : s.size ≤ 9223372036854775807 := by omega
    go_enter Tryd.func21, Tryd.ntmps21
    go_wp2
    refine bodyPost_ret (v := .tuple #[.agg #[.slice none 0 0], .bool false]) (by simp [results, go_sem]) rfl ?_
    exact ⟨[], _, .inr ⟨fun h => absurd h HN.out, rfl, rfl⟩, Own.none_, (Below.refl _ _).alloc (Nat.le_refl _) _⟩
end Go.Proofs.YtffhbhlljdimbaaDoor
