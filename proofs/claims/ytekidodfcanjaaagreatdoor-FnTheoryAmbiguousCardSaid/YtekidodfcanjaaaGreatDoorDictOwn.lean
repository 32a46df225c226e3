/-
  A dictionary's entries that a call owns; copies of dictionaries.
-/
import Derived.Test.YtekidodfcanjaaaGreatDoorDictPl
import Derived.Test.YtekidodfcanjaaaGreatDoorBase
import Derived.Test.YtekidodfcanjaaaGreatDoorRowsMark
import Derived.Test.YtekidodfcanjaaaGreatDoorMarkText
import Derived.Test.YtekidodfcanjaaaGreatDoorDictSz
namespace Go.Proofs.YtekidodfcanjaaaGreatDoor
open Go.RowKit
set_option linter.unusedVariables false
set_option maxRecDepth 100000

theorem info_entry : (Tryz.prog.info? 50).map (fun i => (i.zero, i.size, i.bytes)) = some (some (.agg #[.slice none 0 0, .string ⟨#[]⟩]), 2, 40) := by kernel_rfl

def headsP (us : List Value) (l : List EntD) : List (Value × Value) := us.zip (l.map fun c => Value.string c.2)
theorem headsP_length {us : List Value} {l : List EntD} (h : us.length = l.length) : (headsP us l).length = l.length := by simp [headsP, h]
theorem headsP_at {us : List Value} {l : List EntD} {k : Nat} {u : Value} {c : EntD} (hu : us[k]? = some u) (hc : l[k]? = some c) : (headsP us l)[k]? = some (u, .string c.2) := by
  simp [headsP, List.getElem?_zip_eq_some, hu, hc]
theorem headsP_snoc {us : List Value} {l : List EntD} (h : us.length = l.length) (u : Value) (c : EntD) : headsP (us ++ [u]) (l ++ [c]) = headsP us l ++ [(u, .string c.2)] := by
  unfold headsP
  rw [List.map_append, List.zip_append (by simpa using h)]
  rfl
/-- Entries of the call's own, in blocks of [lo, hi). -/
def OwnD (w : World) (lo hi : Nat) (v : Value) (l : List EntD) : Prop :=
  ∃ us, Own w lo hi 50 2 v l.length (flat2 (headsP us l)) ∧ RowsAt w lo us (l.map (·.1)) ∧ (∀ u ∈ us, ∀ g, u.ownBlock = some g → g < hi)
section
variable {w w' : World} {lo hi : Nat} {v : Value} {l : List EntD}
theorem OwnD.below (h : OwnD w lo hi v l) (hb : Below w.heap.size w w') : OwnD w' lo hi v l := by
  obtain ⟨us, h1, h2, h3⟩ := h
  exact ⟨us, h1.below hb, h2.below hb, h3⟩
theorem OwnD.only {lo' hi' : Nat} (h : OwnD w lo hi v l) (ho : Only lo' hi' w w') (hd : hi ≤ lo' ∨ hi' ≤ lo) : OwnD w' lo hi v l := by
  obtain ⟨us, h1, h2, h3⟩ := h
  refine ⟨us, h1.only ho hd, ⟨h2.len, fun j u r hu hr => ?_, h2.apart⟩, h3⟩
  exact ownsRow_only (h2.row j u r hu hr) ho (fun g hg => by
    have k1 := h3 u (List.mem_of_getElem? hu) g hg
    have k2 := ((h2.row j u r hu hr).lt g hg).1
    omega)
theorem OwnD.slice (h : OwnD w lo hi v l) : ∃ A cap, v = .slice A l.length cap ∧ DictR w w.heap.size A l ∧ l.length ≤ cap ∧ cap ≤ maxLen := by
  obtain ⟨us, h1, h2, h3⟩ := h
  obtain ⟨A, cap, rfl, hr, hn, hm⟩ := h1.slice
  refine ⟨A, cap, rfl, fun hp => ?_, hn, hm⟩
  obtain ⟨b, off, hA, hb, hc⟩ := hr.2 hp
  refine ⟨b, off, hA, hb, fun j c hj => ?_⟩
  obtain ⟨u, hu, ru⟩ := h2.at_ (show (l.map (·.1))[j]? = some c.1 by simp [hj])
  obtain ⟨c1, c2⟩ := flat2_reads (B := 0) hc (headsP_at hu hj)
  obtain ⟨a, cp, rfl, rd, k1, k2⟩ := (Own.of_row ru).slice
  exact ⟨a, cp, c1, c2, rd, k1, k2⟩
end

/-- A copy of a dictionary in new memory. -/
def NewEnts (l : List EntD) (w : World) (e : Ending) (w' : World) : Prop := ∃ v, e = .returned v ∧ OwnD w' w.heap.size w'.heap.size v l ∧ Below w.heap.size w w'
def NewDict (l : List EntD) (w : World) (e : Ending) (w' : World) : Prop := ∃ v, e = .returned (.agg #[v]) ∧ OwnD w' w.heap.size w'.heap.size v l ∧ Below w.heap.size w w'
def NewEnt (c : EntD) (w : World) (e : Ending) (w' : World) : Prop := ∃ v, e = .returned (.agg #[v, .string c.2]) ∧ Own w' w.heap.size w'.heap.size 3 1 v c.1.length (ints c.1) ∧ Below w.heap.size w w'

theorem toEntry_calls (A : Option Addr) (cap : Nat) (o : List Int) (t : ByteArray) (w : World) (hr : Reads w w.heap.size 1 A o.length (ints o)) (hn : o.length ≤ 1048576) :
    Calls Tryz.prog 76 #[.agg #[.slice A o.length cap, .string t]] w (NewEnt (o, t) w) := by
  obtain ⟨W1, hW1⟩ : ∃ W1, W1 = ((w.alloc (.cells #[.slice A o.length cap, .string t] 88)).alloc (.cells #[.slice none 0 0, .string ⟨#[]⟩] 50)).alloc (.cells #[.slice none 0 0, .string ⟨#[]⟩] 50) := ⟨_, rfl⟩
  have hb0 : Below w.heap.size w W1 := by rw [hW1]; exact (((Below.refl _ _).alloc (Nat.le_refl _) _).alloc (by simp) _).alloc (by simp; omega) _
  have hs1 : W1.heap.size = w.heap.size + 3 := by rw [hW1]; simp
  have c0 : W1.cell? ⟨w.heap.size, 1, none⟩ = some (.string t) := by rw [hW1, World.cell?_alloc_lt _ _ _ (by simp; omega), World.cell?_alloc_lt _ _ _ (by simp), World.cell?_alloc_mark]; rfl
  have d1 : W1.cell? ⟨w.heap.size + 1, 0, none⟩ = some (.slice none 0 0) := by rw [hW1]; simp [World.cell?_alloc_at, World.cell?_alloc_past]
  have d2 : W1.cell? ⟨w.heap.size + 2, 0, none⟩ = some (.slice none 0 0) := by rw [hW1]; simp [World.cell?_alloc_at]
  have d3 : W1.cell? ⟨w.heap.size + 1, 1, none⟩ = some (.string ⟨#[]⟩) := by rw [hW1]; simp [World.cell?_alloc_at, World.cell?_alloc_past]
  have d4 : W1.cell? ⟨w.heap.size + 2, 1, none⟩ = some (.string ⟨#[]⟩) := by rw [hW1]; simp [World.cell?_alloc_at]
  have f1 : ∀ j, W1.frozen? ⟨w.heap.size + 1, j, none⟩ = false := fun j => by rw [hW1]; simp [go_sem]
  have f2 : ∀ j, W1.frozen? ⟨w.heap.size + 2, j, none⟩ = false := fun j => by rw [hW1]; simp [go_sem]
  go_enter Tryz.func76, Tryz.ntmps76
  go_wp2_with fail
  rw [← hW1]
  refine (toIntS_calls A cap o _ ((hr.below hb0).more hb0.size) hn).mono ?_
  rintro e w1 ⟨v, rfl, o1, b1⟩
  clear hW1
  obtain ⟨A1, c1, rfl, -, -, -⟩ := o1.slice
  have e0 := (b1.cell (p := ⟨w.heap.size, 1, none⟩) (by simp [hs1])).trans c0
  have e1 := (b1.cell (p := ⟨w.heap.size + 1, 0, none⟩) (by simp [hs1])).trans d1
  have e2 := (b1.cell (p := ⟨w.heap.size + 2, 0, none⟩) (by simp [hs1])).trans d2
  have e3 := (b1.cell (p := ⟨w.heap.size + 1, 1, none⟩) (by simp [hs1])).trans d3
  have e4 := (b1.cell (p := ⟨w.heap.size + 2, 1, none⟩) (by simp [hs1])).trans d4
  have g1 := fun j => (b1.frozen (p := ⟨w.heap.size + 1, j, none⟩) (by simp [hs1])).trans (f1 j)
  have g2 := fun j => (b1.frozen (p := ⟨w.heap.size + 2, j, none⟩) (by simp [hs1])).trans (f2 j)
  have HS := Lib.hid hs1
  clear d1 d2 d3 d4 f1 f2 hs1 c0
  go_wp2
  refine bodyPost_ret (v := .agg #[.slice A1 o.length c1, .string t]) (by simp [results, go_sem, e1, e3]) rfl ?_
  have ho : ∀ u x y z, Only w.heap.size (w.heap.size + 3) w1 ((((w1.setCell ⟨w.heap.size + 1 + 1, 0, none⟩ u).setCell ⟨w.heap.size + 1 + 1, 1, none⟩ x).setCell ⟨w.heap.size + 1, 0, none⟩ y).setCell ⟨w.heap.size + 1, 1, none⟩ z) := fun u x y z =>
    ((((Only.refl _).setCell (p := ⟨w.heap.size + 1 + 1, 0, none⟩) (by simp; omega) (by simp) u).setCell (p := ⟨w.heap.size + 1 + 1, 1, none⟩) (by simp; omega) (by simp) x).setCell (p := ⟨w.heap.size + 1, 0, none⟩) (by simp) (by simp) y).setCell (p := ⟨w.heap.size + 1, 1, none⟩) (by simp) (by simp) z
  refine ⟨_, rfl, ?_, (hb0.trans (b1.mono hb0.size)).trans ((ho _ _ _ _).below (Nat.le_refl _) (by have := hb0.size; have := b1.size; omega))⟩
  exact Own.of_row ((o1.only (ho _ _ _ _) (.inr (by have := HS.out; omega))).1.base (lo' := w.heap.size) hb0.size)

/-- The heads of the entries that have been copied. -/
theorem zip_len (us : List Value) (l : List EntD) {k : Nat} (h : us.length = k) (hk : k ≤ l.length) : (headsP us (l.take k)).length = k := by
  rw [headsP_length (by simp; omega)]; simp; omega
set_option maxHeartbeats 1000000 in
theorem toEntryS_calls (A : Option Addr) (cap : Nat) (l : List EntD) (w : World) (hr : DictR w w.heap.size A l) (hn : l.length ≤ 1048576) (hs : ShortD l) :
    Calls Tryz.prog 44 #[.slice A l.length cap] w (NewEnts l w) := by
  have hmk := run_make_rowN (P := Tryz.prog) 29 50 Tryz.underlying29 info_entry .i64 .i64 l.length l.length (Nat.le_refl _) (by omega) (by omega)
  have HS := Lib.hid hs
  clear hs
  go_enter Tryz.func44, Tryz.ntmps44
  go_wp2
  go_loopw [4] (fun i wr => ∃ (k : Nat) (us : List Value), k ≤ l.length ∧ i = .int .i64 k ∧ us.length = k ∧ Own wr w.heap.size (w.heap.size + 1) 50 2 (.slice (some ⟨w.heap.size, 0, none⟩) l.length l.length) l.length (flat2 (fillP (headsP us (l.take k)) (.slice none 0 0, .string ⟨#[]⟩) l.length)) ∧ RowsAt wr w.heap.size us ((l.take k).map (·.1)) ∧ Below w.heap.size w wr ∧ w.heap.size < wr.heap.size)
    (fun i _ => l.length - (intOf i).toNat)
  case atStart =>
    refine ⟨0, [], Nat.zero_le _, rfl, rfl, ⟨?_, fun g hg => by simp [Value.ownBlock] at hg; omega⟩, RowsAt.nil _ _, (Below.refl _ _).alloc (Nat.le_refl _) _, by simp⟩
    have h0 : fillP (headsP [] (l.take 0)) (.slice none 0 0, .string ⟨#[]⟩) l.length = List.replicate l.length (.slice none 0 0, .string ⟨#[]⟩) := by simp [fillP, headsP]
    rw [h0, ← made_flat2]
    exact World.ownsRow_lit (base := w.heap.size) (e := 50) (size := 2) w (madeCells #[Value.slice none 0 0, .string ⟨#[]⟩] (l.length * 2)) l.length (Nat.le_refl _) (by unfold maxLen; omega) (by simp [madeCells])
  case round =>
    obtain ⟨k, us, hk, rfl, hus, hown, hrows, hb, hsz⟩ := hrel
    by_cases hlt : k < l.length
    · obtain ⟨b, off, rfl, hb0, hc⟩ := (hr.below hb) (by omega)
      obtain ⟨⟨o, t⟩, hx⟩ := some_at l hlt
      obtain ⟨ao, co, c1, c2, r1, -, -⟩ := DictR.at_ hc hx
      have hol := (HS.out _ (List.mem_of_getElem? hx)).1
      simp only at hol
      have R1 := Lib.hid (r1.more hb.size)
      have HX := Lib.hid hx
      clear hx hc r1
      go_wp2_with fail
      refine (toEntry_calls ao co o t _ R1.out hol).mono ?_
      rintro e1 w1 ⟨v, rfl, ov, hb1⟩
      have hown1 := hown.below hb1
      have hrows1 := hrows.below hb1
      have hlen := zip_len us l hus hk
      obtain ⟨h1, h2⟩ := hown1.pair (fillP_at (by omega) (.slice none 0 0, .string ⟨#[]⟩))
      rw [hlen] at h1 h2
      simp only at h1 h2
      have f1 : ∀ j, w1.frozen? ⟨w.heap.size, j, none⟩ = false := fun j => hown1.1.frozenAt j
      obtain ⟨Av, cv, rfl, -, -, -⟩ := ov.slice
      have HL := Lib.hid hlen
      have HU := Lib.hid hus
      have HT := Lib.hid (take_succ_of HX.out)
      have hs1 := hb1.size
      clear hlen hus
      go_wp2
      go_roundw
      case rel =>
        have ho : Only w.heap.size (w.heap.size + 1) w1 ((w1.setCell ⟨w.heap.size, k * 2, none⟩ (.slice Av o.length cv)).setCell ⟨w.heap.size, k * 2 + 1, none⟩ (.string t)) := ((Only.refl _).setCell (p := ⟨w.heap.size, k * 2, none⟩) (Nat.le_refl _) (by simp) _).setCell (p := ⟨w.heap.size, k * 2 + 1, none⟩) (Nat.le_refl _) (by simp) _
        have hs2 := hrows1.snoc (u := .slice Av o.length cv) (r := o) (ov.1.base (by omega)) (fun x hx g hg hg2 => by
          have := (hrows.lt x hx g hg).2
          have := (ov.1.lt g hg2).1
          omega)
        refine ⟨k + 1, us ++ [.slice Av o.length cv], by omega, by go_num, by simp [HU.out], ?_, ?_, (hb.trans (hb1.mono hb.size)).trans (ho.below (Nat.le_refl _) (by omega)), by simp [World.setCell]; omega⟩
        · have h3 := hown1.setPair (k := k) (by rw [fillP_length (by rw [HL.out]; omega)]; exact hlt) (.slice Av o.length cv, .string t)
          have h4 := fillP_set (ps := headsP us (l.take k)) (n := l.length) (by rw [HL.out]; exact hlt) (.slice none 0 0, .string ⟨#[]⟩) (.slice Av o.length cv, .string t)
          rw [HL.out] at h4
          rw [h4] at h3
          rw [HT.out, headsP_snoc (by simp [HU.out]; omega)]
          exact h3
        · rw [HT.out, List.map_append]
          refine ⟨hs2.len, fun j x y hx hy => ?_, hs2.apart⟩
          exact ownsRow_only (hs2.row j x y hx hy) ho (fun g hg => by
            have h5 := rows_apart (hs2.row j x y hx hy) hown1.1 (by decide) g hg
            have hne : g ≠ w.heap.size := fun e => h5 (by rw [e]; rfl)
            omega)
      case measure => simp [intOf]; omega
    · obtain rfl : k = l.length := by omega
      go_wp2
      go_ret
      rw [List.take_of_length_le (Nat.le_refl _)] at hown hrows
      rw [fillP_all (headsP_length hus)] at hown
      exact ⟨_, rfl, ⟨us, ⟨hown.1, fun g hg => (hown.1.lt g hg).2⟩, hrows, fun u hu g hg => (hrows.lt u hu g hg).2⟩, hb⟩
theorem toDictionary_calls (A : Option Addr) (cap : Nat) (l : List EntD) (w : World) (hr : DictR w w.heap.size A l) (hn : l.length ≤ 1048576) (hs : ShortD l) :
    Calls Tryz.prog 10 #[.agg #[.slice A l.length cap]] w (NewDict l w) := by
  have HSD := Lib.hid hs
  clear hs
  obtain ⟨W1, hW1⟩ : ∃ W1, W1 = ((w.alloc (.cells #[.slice A l.length cap] 24)).alloc (.cells #[.slice none 0 0] 31)).alloc (.cells #[.slice none 0 0] 31) := ⟨_, rfl⟩
  have hb0 : Below w.heap.size w W1 := by rw [hW1]; exact (((Below.refl _ _).alloc (Nat.le_refl _) _).alloc (by simp) _).alloc (by simp; omega) _
  have hs1 : W1.heap.size = w.heap.size + 3 := by rw [hW1]; simp
  have d1 : W1.cell? ⟨w.heap.size + 1, 0, none⟩ = some (.slice none 0 0) := by rw [hW1]; simp [World.cell?_alloc_at, World.cell?_alloc_past]
  have d2 : W1.cell? ⟨w.heap.size + 2, 0, none⟩ = some (.slice none 0 0) := by rw [hW1]; simp [World.cell?_alloc_at]
  have f1 : W1.frozen? ⟨w.heap.size + 1, 0, none⟩ = false := by rw [hW1]; simp [go_sem]
  have f2 : W1.frozen? ⟨w.heap.size + 2, 0, none⟩ = false := by rw [hW1]; simp [go_sem]
  go_enter Tryz.func10, Tryz.ntmps10
  go_wp2_with fail
  rw [← hW1]
  refine (toEntryS_calls A cap l _ ((hr.below hb0).more hb0.size) hn HSD.out).mono ?_
  rintro e1 w1 ⟨v, rfl, o1, b1⟩
  clear hW1
  obtain ⟨A1, c1, rfl, -, -, -⟩ := o1.slice
  have e1 := (b1.cell (p := ⟨w.heap.size + 1, 0, none⟩) (by simp [hs1])).trans d1
  have e2 := (b1.cell (p := ⟨w.heap.size + 2, 0, none⟩) (by simp [hs1])).trans d2
  have g1 := (b1.frozen (p := ⟨w.heap.size + 1, 0, none⟩) (by simp [hs1])).trans f1
  have g2 := (b1.frozen (p := ⟨w.heap.size + 2, 0, none⟩) (by simp [hs1])).trans f2
  have HS := Lib.hid hs1
  clear d1 d2 f1 f2 hs1
  go_wp2
  refine bodyPost_ret (v := .agg #[.slice A1 l.length c1]) (by simp [results, go_sem, e1]) rfl ?_
  have ho : ∀ u x, Only w.heap.size (w.heap.size + 3) w1 ((w1.setCell ⟨w.heap.size + 2, 0, none⟩ u).setCell ⟨w.heap.size + 1, 0, none⟩ x) := fun u x => ((Only.refl _).setCell (p := ⟨w.heap.size + 2, 0, none⟩) (by simp) (by simp) u).setCell (p := ⟨w.heap.size + 1, 0, none⟩) (by simp) (by simp) x
  refine ⟨_, rfl, ?_, (hb0.trans (b1.mono hb0.size)).trans ((ho _ _).below (Nat.le_refl _) (by have := hb0.size; have := b1.size; omega))⟩
  have wide : ∀ W lo hi lo' hi' v l, OwnD W lo hi v l → lo' ≤ lo → hi ≤ hi' → OwnD W lo' hi' v l := fun W lo hi lo' hi' v l ⟨us, h1, h2, h3⟩ hl hh =>
    ⟨us, ⟨h1.1.base hl, fun g hg => by have := h1.2 g hg; omega⟩, ⟨h2.len, fun j u r hu hr => (h2.row j u r hu hr).base hl, h2.apart⟩, fun u hu g hg => by have := h3 u hu g hg; omega⟩
  have o2 := wide _ _ _ w.heap.size w1.heap.size _ _ (o1.only (ho (.slice A1 l.length c1) (.agg #[.slice A1 l.length c1])) (.inr (by have := HS.out; omega))) hb0.size (Nat.le_refl _)
  have o3 := wide _ _ _ w.heap.size w1.heap.size _ _ (o1.only (ho (.slice A1 l.length c1) (.slice A1 l.length c1)) (.inr (by have := HS.out; omega))) hb0.size (Nat.le_refl _)
  first | exact o3 | exact o2 | (simp [World.setCell] at o3 ⊢; exact o3)
end Go.Proofs.YtekidodfcanjaaaGreatDoor
