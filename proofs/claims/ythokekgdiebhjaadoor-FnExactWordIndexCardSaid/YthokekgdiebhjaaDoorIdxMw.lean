/-
  The law's marks in an index: the walks.
-/
import Derived.Test.YthokekgdiebhjaaDoorIdxMk
import Derived.Test.YthokekgdiebhjaaDoorMarkTurn
namespace Go.Proofs.YthokekgdiebhjaaDoor
open Go.RowKit
set_option linter.unusedVariables false
set_option linter.unusedSimpArgs false
set_option maxRecDepth 100000

/-- One entry's list of turns, in a block told tightly; what holds once it is written over. -/
theorem OwnI.row {W : World} {lo hi g n cap k : Nat} {L : List IdxD} {c : IdxD} (h : OwnI W lo hi (.slice (some ⟨g, 0, none⟩) n cap) L) (hc : L[k]? = some c) :
    ∃ u a, W.cell? ⟨g, k * 2 + 1, none⟩ = some u ∧ (∃ A cp, u = .slice A c.2.length cp) ∧ Own W a (a + 1) 3 1 u c.2.length (ints c.2) ∧ ((lo ≤ a ∧ a < hi) ∨ a = W.heap.size) ∧
      ∀ (w' : World) (r' : List Int), r'.length = c.2.length → Only a (a + 1) W w' → Own w' a (a + 1) 3 1 u c.2.length (ints r') → OwnI w' lo hi (.slice (some ⟨g, 0, none⟩) n cap) (L.set k (c.1, r')) := by
  obtain ⟨ps, h1, h2, h3, h4, h5⟩ := h
  have hkl := (List.getElem?_eq_some_iff.1 hc).1
  obtain ⟨⟨x, u⟩, hp⟩ := some_at ps (show k < ps.length by omega)
  have hn : n = L.length := by
    obtain ⟨A, c, e, -⟩ := h2.slice
    injection e
  subst hn
  have hu : (ps.map (·.2))[k]? = some u := by simp [hp]
  have hr : (L.map (·.2))[k]? = some c.2 := by simp [hc]
  have hru := h4.row k u c.2 hu hr
  obtain ⟨a, hta, hta2, hta3⟩ := row_tight hru
  obtain ⟨Au, cu, hus, -, -, -⟩ := (Own.of_row hru).slice
  have hwid : (lo ≤ a ∧ a < hi) ∨ a = W.heap.size := by
    rcases hta3 with k1 | k1
    · exact .inl ⟨(hru.lt a k1).1, h5 u (List.mem_of_getElem? hu) a k1⟩
    · exact .inr k1
  have hgl : g < W.heap.size := (h2.1.lt g rfl).2
  have hga : g < a ∨ a + 1 ≤ g := by
    rcases hta3 with k1 | k1
    · have := rows_apart hru h2.1 (by decide) a k1
      have hne : g ≠ a := fun e => this (by rw [e]; rfl)
      omega
    · omega
  refine ⟨u, a, (h2.pair hp).2, ⟨Au, cu, hus⟩, hta, hwid, fun w' r' hl ho hn' => ⟨ps, by simp [h1], ?_, fun j q d hq hd => ?_, ?_, h5⟩⟩
  · rw [List.length_set]
    exact ⟨ownsRow_only h2.1 ho (fun g' hg' => by simp only [Value.ownBlock, Option.some.injEq] at hg'; omega), h2.2⟩
  · rw [List.getElem?_set] at hd
    by_cases e : k = j
    · subst e
      rw [if_pos rfl, if_pos hkl] at hd
      cases hd
      exact h3 k q c hq hc
    · rw [if_neg e] at hd
      exact h3 j q d hq hd
  · rw [List.map_set]
    exact h4.set_ hu hr hl ho hta2 hta3 hn'

set_option maxHeartbeats 4000000 in
theorem markIndexEntryS_calls (lo hi : Nat) (v : Value) (L : List IdxD) (k0 : Nat) (w : World) (h : OwnI w lo hi v L) (hk0 : 0 < k0) (hk1 : k0 + totI L ≤ 4000000000) (hn : L.length ≤ 1048576) :
    Calls Tryd.prog 18 #[v, .int .i64 k0] w fun e w' => e = .returned (.int .i64 ((k0 + totI L : Nat) : Int)) ∧ OwnI w' lo hi v (markI k0 L) ∧ Only lo hi w w' := by
  obtain ⟨A, cap, rfl, hnc, hcm⟩ := h.idx.slice
  unfold maxLen at hcm
  go_enter Tryd.func18, Tryd.ntmps18
  go_wp2
  go_loopw [1, 5] (fun kv i wr => ∃ k : Nat, k ≤ L.length ∧ i = .int .i64 k ∧ kv = .int .i64 ((k0 + totI (L.take k) : Nat) : Int) ∧ OwnI wr lo hi (.slice A L.length cap) (midI k0 L k) ∧ Only lo hi w wr)
    (fun _ i _ => L.length - (intOf i).toNat)
  case atStart => exact ⟨0, Nat.zero_le _, rfl, by simp [totI], by rw [midI_zero]; exact h, Only.refl _⟩
  case round =>
    obtain ⟨k, hk, rfl, rfl, hM, ho⟩ := hrel
    by_cases hlt : k < L.length
    · have hml := midI_length k0 L hk
      obtain ⟨g, cap', hv, -, hgl, -, -, hf, hat⟩ := hM.idx.open_ (by omega)
      rw [hml] at hv
      injection hv with hva _ hvc
      subst hva hvc
      obtain ⟨c, hx⟩ := some_at L hlt
      obtain ⟨-, c0, -, -⟩ := hat k _ (midI_at hx)
      have hglo : lo ≤ g ∧ g < hi := by
        obtain ⟨ps, -, o2, -⟩ := hM
        exact ⟨(o2.1.lt g rfl).1, o2.2 g rfl⟩
      have htk := totI_take hx
      have htl := totI_take_le L (k + 1)
      have HX := Lib.hid hx
      have HTK := Lib.hid htk
      have HMS := Lib.hid (midI_set (k := k0) hx)
      generalize hT : k0 + totI (L.take k) = T at *
      have HT0 := Lib.hid hT
      have i0 : (0 : Int) ≤ (k : Int) := by omega
      have i1 : (k : Int) < (L.length : Int) := by omega
      have hT0 : 0 < T := by omega
      have hT1 : T + 1 + c.2.length ≤ 4000000000 := by omega
      clear hat htk hx hT
      go_wp2_with fail
      refine (markText_calls T _ hT0 (by omega)).mono ?_
      rintro e w1 ⟨rfl, b1⟩
      have hM1 := hM.below b1
      have d0 := (b1.cell (p := ⟨g, k * 2, none⟩) hgl).trans c0
      have f0 : w1.frozen? ⟨g, k * 2, none⟩ = false := (b1.frozen (p := ⟨g, k * 2, none⟩) hgl).trans (hf _)
      have hM2 := hM1.word (midI_at HX.out) (mtext T)
      obtain ⟨u, a, cu, ⟨Au, cp, hus⟩, hta, hwid, hfin⟩ := hM2.row (c := (mtext T, c.2)) (by rw [List.getElem?_set_self (by rw [hml]; exact hlt)])
      subst hus
      have HFIN := Lib.hid hfin
      have HTA := Lib.hid hta
      have hO2 : Only lo hi w (w1.setCell ⟨g, k * 2, none⟩ (.string (mtext T))) := (ho.trans (Only.of_below b1)).setCell hglo.1 hglo.2 _
      have HO2 := Lib.hid hO2
      clear hfin hta hM hM1 hM2 hO2 c0
      have z1 : IntKind.i64.wrap ((T : Int) + 1) = ((T + 1 : Nat) : Int) := by rw [IntWalk.i64_in _ (by omega)]; omega
      go_wp2_with fail
      refine (markIntS_calls a (a + 1) _ c.2.length (ints c.2) _ _ HTA.out (by omega) (by omega)).mono ?_
      rintro e w3 ⟨rfl, o3, ho3⟩
      have hM3 := HFIN.out w3 _ (by rw [marks_length]) ho3 o3
      have hO3 := HO2.out.trans (only_widen ho3 hwid)
      have hM4 : OwnI w3 lo hi (.slice (some ⟨g, 0, none⟩) L.length cap) (midI k0 L (k + 1)) := by
        rw [List.set_set] at hM3
        rw [← HMS.out]
        exact hM3
      clear hM3 ho3
      go_wp2
      go_roundw
      case rel => exact ⟨k + 1, by omega, by go_num, by rw [HTK.out, ← Nat.add_assoc, HT0.out]; congr 1; omega, hM4, hO3⟩
      case measure => simp [intOf]; omega
    · obtain rfl : k = L.length := by omega
      go_wp2
      go_ret
      exact ⟨ret_int (by rw [List.take_of_length_le (Nat.le_refl _)]), by rw [midI_all] at hM; exact hM, ho⟩

set_option maxHeartbeats 4000000 in
theorem heldIndexEntryS_calls (lo hi : Nat) (v : Value) (L : List IdxD) (k0 : Nat) (w : World) (h : OwnI w lo hi v (markI k0 L)) (hk0 : 0 < k0) (hk1 : k0 + totI L ≤ 4000000000) (hn : L.length ≤ 1048576) :
    Calls Tryd.prog 19 #[v, .int .i64 k0] w fun e w' => e = .returned (.int .i64 ((k0 + totI L : Nat) : Int)) ∧ Below w.heap.size w w' := by
  obtain ⟨A, cap, rfl, hnc, hcm⟩ := h.idx.slice
  unfold maxLen at hcm
  have hml := markI_length k0 L
  rw [hml] at hnc ⊢
  have HI := Lib.hid h.idx
  rw [hml] at HI
  have HML := Lib.hid hml
  clear hml h
  go_enter Tryd.func19, Tryd.ntmps19
  go_wp2
  go_loopw [1, 5] (fun kv i wr => ∃ k : Nat, k ≤ L.length ∧ i = .int .i64 k ∧ kv = .int .i64 ((k0 + totI (L.take k) : Nat) : Int) ∧ Below w.heap.size w wr)
    (fun _ i _ => L.length - (intOf i).toNat)
  case atStart => exact ⟨0, Nat.zero_le _, rfl, by simp [totI], Below.refl _ _⟩
  case round =>
    obtain ⟨k, hk, rfl, rfl, hb⟩ := hrel
    by_cases hlt : k < L.length
    · obtain ⟨g, cap', hv, -, -, -, -, -, -⟩ := (HI.out.far hb).open_ (by rw [HML.out]; omega)
      rw [HML.out] at hv
      injection hv with hva hq0 hvc
      clear hq0
      subst hva hvc
      obtain ⟨g', cap'', hv', -, hgl, -, -, -, hat⟩ := HI.out.open_ (by rw [HML.out]; omega)
      injection hv' with hva' hq1 hq2
      injection hva' with hva'
      injection hva' with hva' hq3 hq4
      subst hva'
      clear hq1 hq2
      obtain ⟨c, hx⟩ := some_at L hlt
      obtain ⟨u, a1, a2, rowt⟩ := hat k _ (markI_at k0 L k c hx)
      simp only at a1 a2 rowt
      rw [marks_length] at rowt
      obtain ⟨Au, cu, hus, rdu, -, -⟩ := (Own.of_row rowt).slice
      subst hus
      have htk := totI_take hx
      have htl := totI_take_le L (k + 1)
      have HTK := Lib.hid htk
      generalize hT : k0 + totI (L.take k) = T at *
      have HT0 := Lib.hid hT
      have i0 : (0 : Int) ≤ (k : Int) := by omega
      have i1 : (k : Int) < (L.length : Int) := by omega
      have hT0 : 0 < T := by omega
      have hT1 : T + 1 + c.2.length ≤ 4000000000 := by omega
      have z1 : IntKind.i64.wrap ((T : Int) + 1) = ((T + 1 : Nat) : Int) := by rw [IntWalk.i64_in _ (by omega)]; omega
      have ha1 : (⟨g, k * 2, none⟩ : Addr).block < w.heap.size := hgl
      have ha2 : (⟨g, k * 2 + 1, none⟩ : Addr).block < w.heap.size := hgl
      have S0 : wr.cell? ⟨g, k * 2, none⟩ = some (.string (mtext T)) ∧ wr.cell? ⟨g, k * 2 + 1, none⟩ = some (.slice Au c.2.length cu) ∧ Below w.heap.size w wr := ⟨(hb.cell ha1).trans a1, (hb.cell ha2).trans a2, hb⟩
      have c1 := S0.1
      have RD := Lib.hid rdu
      clear hat htk hx hT a1 a2 rowt rdu
      go_wp2
      go_region_held3 (fun w' => w'.cell? ⟨g, k * 2, none⟩ = some (.string (mtext T)) ∧ w'.cell? ⟨g, k * 2 + 1, none⟩ = some (.slice Au c.2.length cu) ∧ Below w.heap.size w w') (first | exact S0 | exact two_drew S0 | assumption | exact two_step ha1 ha2 (by assumption) (by assumption) | exact two_drew (by assumption)) (first | (go_at_call 42; refine (markText_calls T _ hT0 (by omega)).mono ?_; rintro e w1 ⟨rfl, hb1⟩))
      have S1 : w1.cell? ⟨g, k * 2, none⟩ = some (.string (mtext T)) ∧ w1.cell? ⟨g, k * 2 + 1, none⟩ = some (.slice Au c.2.length cu) ∧ Below w.heap.size w w1 := by assumption
      have e1 := S1.2.1
      have hb3 := S1.2.2
      clear c1
      go_wp2_with fail
      refine (heldIntS_calls Au cu c.2.length _ _ (by have := (RD.out.below hb3).more hb3.size; exact this) (by omega) (by omega)).mono ?_
      rintro e w3 ⟨rfl, rfl⟩
      have i2 : ¬ ((T + 1 : Nat) : Int) + (c.2.length : Int) < 0 := by omega
      go_wp2
      go_roundw
      case rel => exact ⟨k + 1, by omega, by go_num, by rw [HTK.out, ← Nat.add_assoc, HT0.out]; congr 1; omega, hb3⟩
      case measure => simp [intOf]; omega
    · obtain rfl : k = L.length := by omega
      go_wp2
      go_ret
      exact ⟨ret_int (by rw [List.take_of_length_le (Nat.le_refl _)]), hb⟩
end Go.Proofs.YthokekgdiebhjaaDoor
