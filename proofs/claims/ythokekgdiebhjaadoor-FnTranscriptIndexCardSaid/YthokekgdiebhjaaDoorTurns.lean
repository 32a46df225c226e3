/-
  Contracts of the laws' helpers over transcripts.
-/
import Derived.Test.YthokekgdiebhjaaDoorTurnPl
import Derived.Test.YthokekgdiebhjaaDoorMarkText
import Derived.Test.YthokekgdiebhjaaDoorRows
import Derived.StillTailTactics
import Derived.Deep.RegionHeld3
namespace Go.Proofs.YthokekgdiebhjaaDoor
open Go.RowKit
set_option linter.unusedVariables false
set_option maxRecDepth 100000

theorem info_turn : (Tryd.prog.info? 52).map (fun i => (i.zero, i.size, i.bytes)) = some (some (.agg #[.string ⟨#[]⟩, .string ⟨#[]⟩]), 2, 32) := by kernel_rfl

theorem toTurn_calls (s t : ByteArray) (w : World) :
    Calls Tryd.prog 59 #[.agg #[.string s, .string t]] w fun e' w' => e' = .returned (.agg #[.string s, .string t]) ∧ Below w.heap.size w w' := by
  go_enter Tryd.func59, Tryd.ntmps59
  go_wp2
  exact bodyPost_ret (v := .agg #[.string s, .string t]) (by simp [results, go_sem]) rfl ⟨rfl, (((Below.refl _ _).alloc (Nat.le_refl _) _).alloc (by simp) _).alloc (by simp; omega) _⟩

/-- What is left when two strings are taken off. -/
def szL2 (a b : Nat) (left : Int) : Int := if (a : Int) + (b : Int) ≤ left then left - a - b else -1
theorem szL2_yes {a b : Nat} {left : Int} (h : (a : Int) + (b : Int) ≤ left) : szL2 a b left = left - a - b := if_pos h
theorem szL2_no {a b : Nat} {left : Int} (h : ¬ (a : Int) + (b : Int) ≤ left) : szL2 a b left = -1 := if_neg h
theorem szTurn_calls (s t : ByteArray) (left : Int) (w : World) (hs : s.size ≤ maxLen) (ht : t.size ≤ maxLen) (h0 : 0 ≤ left) (h1 : left ≤ 1048576) :
    Calls Tryd.prog 58 #[.agg #[.string s, .string t], .int .i64 left] w fun e' w' => e' = .returned (.int .i64 (szL2 s.size t.size left)) ∧ Below w.heap.size w w' := by
  unfold maxLen at hs ht
  by_cases hl : (s.size : Int) ≤ left
  · by_cases hl2 : (s.size : Int) + (t.size : Int) ≤ left
    · have HL := Lib.hid (szL2_yes hl2)
      have i1 : ¬ left - (s.size : Int) < 0 := by omega
      have i2 : ¬ left - (s.size : Int) - (t.size : Int) < 0 := by omega
      go_enter Tryd.func58, Tryd.ntmps58
      go_wp2
      go_ret
      exact ⟨ret_int HL.out.symm, (Below.refl _ _).alloc (Nat.le_refl _) _⟩
    · have HL := Lib.hid (szL2_no hl2)
      have i1 : ¬ left - (s.size : Int) < 0 := by omega
      have i2 : left - (s.size : Int) - (t.size : Int) < 0 := by omega
      go_enter Tryd.func58, Tryd.ntmps58
      go_wp2
      go_ret
      exact ⟨ret_int HL.out.symm, (Below.refl _ _).alloc (Nat.le_refl _) _⟩
  · have HL := Lib.hid (szL2_no (a := s.size) (b := t.size) (left := left) (by omega))
    have i1 : left - (s.size : Int) < 0 := by omega
    go_enter Tryd.func58, Tryd.ntmps58
    go_wp2
    go_ret
    exact ⟨ret_int HL.out.symm, (Below.refl _ _).alloc (Nat.le_refl _) _⟩

def totalT (l : List TurnD) : Nat := (l.map fun c => c.1.size + c.2.size).sum
theorem totalT_take_succ {l : List TurnD} {k : Nat} {c : TurnD} (h : l[k]? = some c) : totalT (l.take (k + 1)) = totalT (l.take k) + (c.1.size + c.2.size) := by
  rw [List.take_add_one, h]
  simp [totalT]
theorem totalT_mem {l : List TurnD} {c : TurnD} (h : c ∈ l) : c.1.size + c.2.size ≤ totalT l := by
  induction l with
  | nil => simp at h
  | cons d l ih =>
    simp only [totalT, List.map_cons, List.sum_cons] at *
    rcases List.mem_cons.1 h with rfl | h
    · omega
    · have := ih h
      omega
def SmallT (l : List TurnD) (left : Int) : Prop := (l.length : Int) + totalT l ≤ left
def SizedT (l : List TurnD) (left : Int) (w : World) (e : Ending) (w' : World) : Prop := ∃ r : Int, e = .returned (.int .i64 r) ∧ (r < 0 ∨ 0 ≤ r ∧ SmallT l left) ∧ Below w.heap.size w w'

set_option maxHeartbeats 1000000 in
theorem szTurnS_calls (A : Option Addr) (cap : Nat) (l : List TurnD) (left : Int) (w : World) (hr : Reads w w.heap.size 2 A l.length (turnsV l)) (hn : l.length ≤ maxLen) (ht : ∀ c ∈ l, c.1.size ≤ maxLen ∧ c.2.size ≤ maxLen) (h0 : 0 ≤ left) (h1 : left ≤ 1048576) :
    Calls Tryd.prog 37 #[.slice A l.length cap, .int .i64 left] w (SizedT l left w) := by
  unfold maxLen at hn
  by_cases hl : (l.length : Int) ≤ left
  · go_enter Tryd.func37, Tryd.ntmps37
    go_wp2
    go_loopw [1, 5] (fun lv i wr => ∃ k : Nat, k ≤ l.length ∧ i = .int .i64 k ∧ (∃ r : Int, lv = .int .i64 r ∧ 0 ≤ r ∧ r = left - l.length - totalT (l.take k)) ∧ Below w.heap.size w wr) (fun _ i _ => l.length - (intOf i).toNat)
    case atStart => exact ⟨0, Nat.zero_le _, rfl, ⟨_, rfl, by omega, by simp [totalT]⟩, Below.refl _ _⟩
    case round =>
      obtain ⟨k, hk, rfl, ⟨r, rfl, hr0, hre⟩, hb⟩ := hrel
      have hr1 : r ≤ 1048576 := by omega
      have HR := Lib.hid hre
      clear hre
      by_cases hlt : k < l.length
      · obtain ⟨b, off, rfl, hb0, hc⟩ := (hr.below hb).2 (by omega)
        obtain ⟨⟨s, t⟩, hx⟩ := some_at l hlt
        obtain ⟨c1, c2⟩ := Reads.turn hc hx
        have htt := ht _ (List.mem_of_getElem? hx)
        have HX := Lib.hid hx
        clear hx hc
        by_cases hs : (s.size : Int) + (t.size : Int) ≤ r
        · have hsl := szL2_yes hs
          have hs0 : 0 ≤ r - (s.size : Int) - (t.size : Int) := by omega
          go_wp2_with fail
          refine (szTurn_calls s t r _ htt.1 htt.2 hr0 hr1).mono ?_
          rw [hsl]
          clear hsl
          rintro e1 w1 ⟨rfl, hb1⟩
          go_wp2
          go_roundw
          case rel => exact ⟨k + 1, by omega, by go_num, ⟨_, rfl, by omega, by rw [totalT_take_succ HX.out]; have := HR.out; simp; omega⟩, hb.trans (hb1.mono hb.size)⟩
          case measure => simp [intOf]; omega
        · have hsl := szL2_no hs
          go_wp2_with fail
          refine (szTurn_calls s t r _ htt.1 htt.2 hr0 hr1).mono ?_
          rw [hsl]
          clear hsl
          rintro e1 w1 ⟨rfl, hb1⟩
          go_wp2
          go_ret
          exact ⟨-1, rfl, .inl (by omega), hb.trans (hb1.mono hb.size)⟩
      · obtain rfl : k = l.length := by omega
        go_wp2
        go_ret
        exact ⟨_, rfl, .inr ⟨hr0, by have := HR.out; rw [List.take_of_length_le (Nat.le_refl _)] at this; unfold SmallT; omega⟩, hb⟩
  · go_enter Tryd.func37, Tryd.ntmps37
    go_wp2
    go_ret
    exact ⟨-1, rfl, .inl (by omega), Below.refl _ _⟩
theorem szTranscript_calls (A : Option Addr) (cap : Nat) (l : List TurnD) (left : Int) (w : World) (hr : Reads w w.heap.size 2 A l.length (turnsV l)) (hn : l.length ≤ maxLen) (ht : ∀ c ∈ l, c.1.size ≤ maxLen ∧ c.2.size ≤ maxLen) (h0 : 0 ≤ left) (h1 : left ≤ 1048576) :
    Calls Tryd.prog 13 #[.agg #[.slice A l.length cap], .int .i64 left] w (SizedT l left w) := by
  have hb0 : Below w.heap.size w (w.alloc (.cells #[.slice A l.length cap] 42)) := (Below.refl _ _).alloc (Nat.le_refl _) _
  have HT := Lib.hid ht
  clear ht
  go_enter Tryd.func13, Tryd.ntmps13
  go_wp2_with fail
  refine (szTurnS_calls A cap l left _ ((hr.alloc (Nat.le_refl _) _).more (by simp)) hn HT.out h0 h1).mono ?_
  rintro e1 w1 ⟨r, rfl, hrr, b1⟩
  have b2 := hb0.trans (b1.mono (by simp))
  rcases hrr with hneg | ⟨hpos, hsm⟩
  · go_wp2
    go_ret
    exact ⟨-1, rfl, .inl (by omega), b2⟩
  · have HS := Lib.hid hsm
    have i1 : ¬ r < 0 := by omega
    clear hsm
    go_wp2
    go_ret
    exact ⟨r, rfl, .inr ⟨hpos, HS.out⟩, b2⟩

/-- A copy of turns in new memory. -/
def NewTurns (l : List TurnD) (w : World) (e : Ending) (w' : World) : Prop := ∃ v, e = .returned v ∧ Own w' w.heap.size w'.heap.size 52 2 v l.length (turnsV l) ∧ Below w.heap.size w w'
def NewTrans (l : List TurnD) (w : World) (e : Ending) (w' : World) : Prop := ∃ v, e = .returned (.agg #[v]) ∧ Own w' w.heap.size w'.heap.size 52 2 v l.length (turnsV l) ∧ Below w.heap.size w w'

set_option maxHeartbeats 1000000 in
theorem toTurnS_calls (A : Option Addr) (cap : Nat) (l : List TurnD) (w : World) (hr : Reads w w.heap.size 2 A l.length (turnsV l)) (hn : l.length ≤ 1048576) :
    Calls Tryd.prog 38 #[.slice A l.length cap] w (NewTurns l w) := by
  have hmk := run_make_rowN (P := Tryd.prog) 24 52 Tryd.underlying24 info_turn .i64 .i64 l.length l.length (Nat.le_refl _) (by omega) (by omega)
  go_enter Tryd.func38, Tryd.ntmps38
  go_wp2
  go_loopw [4] (fun i wr => ∃ k : Nat, k ≤ l.length ∧ i = .int .i64 k ∧ Own wr w.heap.size (w.heap.size + 1) 52 2 (.slice (some ⟨w.heap.size, 0, none⟩) l.length l.length) l.length (turnsV (fillT l k)) ∧ Below w.heap.size w wr ∧ w.heap.size < wr.heap.size)
    (fun i _ => l.length - (intOf i).toNat)
  case atStart =>
    refine ⟨0, Nat.zero_le _, rfl, ⟨?_, fun g hg => by simp [Value.ownBlock] at hg; omega⟩, (Below.refl _ _).alloc (Nat.le_refl _) _, by simp⟩
    rw [fillT_zero, ← made_turns]
    exact World.ownsRow_lit (base := w.heap.size) (e := 52) (size := 2) w (madeCells #[Value.string ⟨#[]⟩, .string ⟨#[]⟩] (l.length * 2)) l.length (Nat.le_refl _) (by unfold maxLen; omega) (by simp [madeCells])
  case round =>
    obtain ⟨k, hk, rfl, hown, hb, hsz⟩ := hrel
    by_cases hlt : k < l.length
    · obtain ⟨b, off, rfl, hb0, hc⟩ := (hr.below hb).2 (by omega)
      obtain ⟨⟨s, t⟩, hx⟩ := some_at l hlt
      obtain ⟨c1, c2⟩ := Reads.turn hc hx
      have HX := Lib.hid hx
      clear hx hc
      go_wp2_with fail
      refine (toTurn_calls s t _).mono ?_
      rintro e1 w1 ⟨rfl, hb1⟩
      have hown1 := hown.below hb1
      obtain ⟨h1, h2⟩ := hown1.turn (fillT_at l hlt)
      have f1 : ∀ j, w1.frozen? ⟨w.heap.size, j, none⟩ = false := fun j => hown1.1.frozenAt j
      go_wp2
      go_roundw
      case rel => exact ⟨k + 1, by omega, by go_num, by rw [← fillT_set l HX.out]; exact hown1.setTurn (by rw [fillT_length l hk]; exact hlt) (s, t), below_setTurn (hb.trans (hb1.mono hb.size)) (Nat.le_refl _) _ _ _ _, by have := hb1.size; simp [World.setCell]; omega⟩
      case measure => simp [intOf]; omega
    · obtain rfl : k = l.length := by omega
      go_wp2
      go_ret
      exact ⟨_, rfl, ⟨by rw [← fillT_all l, fillT_length l (Nat.le_refl _)]; rw [fillT_all] at *; exact hown.1, fun g hg => (hown.1.lt g hg).2⟩, hb⟩
theorem toTranscript_calls (A : Option Addr) (cap : Nat) (l : List TurnD) (w : World) (hr : Reads w w.heap.size 2 A l.length (turnsV l)) (hn : l.length ≤ 1048576) :
    Calls Tryd.prog 14 #[.agg #[.slice A l.length cap]] w (NewTrans l w) := by
  obtain ⟨W1, hW1⟩ : ∃ W1, W1 = ((w.alloc (.cells #[.slice A l.length cap] 42)).alloc (.cells #[.slice none 0 0] 26)).alloc (.cells #[.slice none 0 0] 26) := ⟨_, rfl⟩
  have hb0 : Below w.heap.size w W1 := by rw [hW1]; exact (((Below.refl _ _).alloc (Nat.le_refl _) _).alloc (by simp) _).alloc (by simp; omega) _
  have hs1 : W1.heap.size = w.heap.size + 3 := by rw [hW1]; simp
  have d1 : W1.cell? ⟨w.heap.size + 1, 0, none⟩ = some (.slice none 0 0) := by rw [hW1]; simp [World.cell?_alloc_at, World.cell?_alloc_past]
  have d2 : W1.cell? ⟨w.heap.size + 2, 0, none⟩ = some (.slice none 0 0) := by rw [hW1]; simp [World.cell?_alloc_at]
  have f1 : W1.frozen? ⟨w.heap.size + 1, 0, none⟩ = false := by rw [hW1]; simp [go_sem]
  have f2 : W1.frozen? ⟨w.heap.size + 2, 0, none⟩ = false := by rw [hW1]; simp [go_sem]
  go_enter Tryd.func14, Tryd.ntmps14
  go_wp2_with fail
  rw [← hW1]
  refine (toTurnS_calls A cap l _ ((hr.below hb0).more hb0.size) hn).mono ?_
  rintro e1 w1 ⟨v, rfl, o1, b1⟩
  clear hW1
  obtain ⟨A1, c1, rfl, -, -, -⟩ := o1.slice
  have e1 := (b1.cell (p := ⟨w.heap.size + 1, 0, none⟩) (by simp [hs1])).trans d1
  have e2 := (b1.cell (p := ⟨w.heap.size + 2, 0, none⟩) (by simp [hs1])).trans d2
  have g1 := (b1.frozen (p := ⟨w.heap.size + 1, 0, none⟩) (by simp [hs1])).trans f1
  have g2 := (b1.frozen (p := ⟨w.heap.size + 2, 0, none⟩) (by simp [hs1])).trans f2
  have HS := Lib.hid hs1
  clear d1 d2 f1 f2 hs1
  go_wp2
  refine bodyPost_ret (v := .agg #[.slice A1 l.length c1]) (by simp [results, go_sem, e1]) rfl ?_
  have ho : ∀ u x, Only w.heap.size (w.heap.size + 3) w1 ((w1.setCell ⟨w.heap.size + 2, 0, none⟩ u).setCell ⟨w.heap.size + 1, 0, none⟩ x) := fun u x => ((Only.refl _).setCell (p := ⟨w.heap.size + 2, 0, none⟩) (by simp) (by simp) u).setCell (p := ⟨w.heap.size + 1, 0, none⟩) (by simp) (by simp) x
  refine ⟨_, rfl, ?_, (hb0.trans (b1.mono hb0.size)).trans ((ho _ _).below (Nat.le_refl _) (by have := hb0.size; have := b1.size; omega))⟩
  have o2 := (o1.only (ho (.slice A1 l.length c1) (.agg #[.slice A1 l.length c1])) (.inr (by have := HS.out; omega))).1.base (lo' := w.heap.size) hb0.size
  have o3 := (o1.only (ho (.slice A1 l.length c1) (.slice A1 l.length c1)) (.inr (by have := HS.out; omega))).1.base (lo' := w.heap.size) hb0.size
  first | exact Own.of_row o3 | exact Own.of_row o2

theorem eqTurn_calls (c d : TurnD) (w : World) :
    Calls Tryd.prog 61 #[.agg #[.string c.1, .string c.2], .agg #[.string d.1, .string d.2]] w fun e' w' => e' = .returned (.bool (decide (c = d))) ∧ Below w.heap.size w w' := by
  obtain ⟨s, t⟩ := c
  obtain ⟨s', t'⟩ := d
  have hb : ∀ o o', Below w.heap.size w ((w.alloc o).alloc o') := fun o o' => ((Below.refl _ _).alloc (Nat.le_refl _) o).alloc (by simp) o'
  by_cases h1 : s = s'
  · by_cases h3 : t = t'
    · subst h1 h3
      go_enter Tryd.func61, Tryd.ntmps61
      go_wp2
      go_ret
      exact ⟨ret_bool (by simp), hb _ _⟩
    · subst h1
      have h4 : (t.toList == t'.toList) = false := by rw [str_beq, decide_eq_false h3]
      have H3 := Lib.hid h3
      clear h3
      go_enter Tryd.func61, Tryd.ntmps61
      go_wp2
      go_ret
      exact ⟨ret_bool (by simp [H3.out]), hb _ _⟩
  · have h4 : (s.toList == s'.toList) = false := by rw [str_beq, decide_eq_false h1]
    have H1 := Lib.hid h1
    clear h1
    go_enter Tryd.func61, Tryd.ntmps61
    go_wp2
    go_ret
    exact ⟨ret_bool (by simp [H1.out]), hb _ _⟩

set_option maxHeartbeats 1000000 in
theorem eqTurnS_calls (A B : Option Addr) (ca cb : Nat) (xs ys : List TurnD) (w : World) (hx : Reads w w.heap.size 2 A xs.length (turnsV xs)) (hy : Reads w w.heap.size 2 B ys.length (turnsV ys)) (hn : xs.length ≤ 1048576) :
    Calls Tryd.prog 40 #[.slice A xs.length ca, .slice B ys.length cb] w fun e w' => e = .returned (.bool (decide (xs = ys))) ∧ Below w.heap.size w w' := by
  by_cases hl : xs.length = ys.length
  · have h2 : ((xs.length : Int) != (ys.length : Int)) = false := by rw [hl]; simp
    have HL := Lib.hid hl
    clear hl
    go_enter Tryd.func40, Tryd.ntmps40
    go_wp2
    go_loopw [5] (fun i wr => ∃ k : Nat, k ≤ xs.length ∧ i = .int .i64 k ∧ (∀ j, j < k → xs[j]? = ys[j]?) ∧ Below w.heap.size w wr)
      (fun i _ => xs.length - (intOf i).toNat)
    case atStart => exact ⟨0, Nat.zero_le _, rfl, fun j hj => absurd hj (Nat.not_lt_zero _), Below.refl _ _⟩
    case round =>
      obtain ⟨k, hk, rfl, hall, hb⟩ := hrel
      have HA := Lib.hid hall
      clear hall
      by_cases hlt : k < xs.length
      · have hlt2 : k < ys.length := by have := HL.out; omega
        obtain ⟨b, off, rfl, hb0, hc⟩ := (hx.below hb).2 (by omega)
        obtain ⟨b', off', rfl, hb0', hc'⟩ := (hy.below hb).2 (by omega)
        obtain ⟨x, hxk⟩ := some_at xs hlt
        obtain ⟨y, hyk⟩ := some_at ys hlt2
        obtain ⟨c1, c2⟩ := Reads.turn hc hxk
        obtain ⟨d1, d2⟩ := Reads.turn hc' hyk
        have HX := Lib.hid hxk
        have HY := Lib.hid hyk
        have i1 : (k : Int) < (xs.length : Int) := by omega
        have i2 : (k : Int) < (ys.length : Int) := by omega
        have i0 : (0 : Int) ≤ (k : Int) := by omega
        clear hxk hyk hc hc'
        by_cases hxy : x = y
        · have E := Lib.hid (decide_eq_true hxy)
          have EQ := Lib.hid hxy
          clear hxy
          go_wp2
          go_still_tail 8, (by kernel_rfl)
          go_wp2_with fail
          refine (eqTurn_calls x y _).mono ?_
          rw [E.out]
          rintro e w1 ⟨rfl, hb1⟩
          go_wp2
          go_roundw
          case rel => exact ⟨k + 1, by omega, by go_num, fun j hj => by
            rcases Nat.lt_or_ge j k with h | h
            · exact HA.out j h
            · rw [show j = k by omega, HX.out, HY.out, EQ.out], hb.drew.trans (hb1.mono (by exact hb.size))⟩
          case measure => simp [intOf]; omega
        · have E := Lib.hid (decide_eq_false hxy)
          have HN := Lib.hid (ne_of_at HX.out HY.out hxy)
          clear hxy
          go_wp2
          go_still_tail 8, (by kernel_rfl)
          go_wp2_with fail
          refine (eqTurn_calls x y _).mono ?_
          rw [E.out]
          rintro e w1 ⟨rfl, hb1⟩
          go_wp2
          go_ret
          exact ⟨ret_bool HN.out, hb.drew.trans (hb1.mono (by exact hb.size))⟩
      · obtain rfl : k = xs.length := by omega
        go_wp2
        go_ret
        exact ⟨ret_bool (eq_of_all HL.out HA.out), hb⟩
  · have h2 : ((xs.length : Int) != (ys.length : Int)) = true := by simp; omega
    have HL := Lib.hid hl
    clear hl
    go_enter Tryd.func40, Tryd.ntmps40
    go_wp2
    go_ret
    exact ⟨ret_bool (ne_of_length HL.out), Below.refl _ _⟩
theorem eqTranscript_calls (A B : Option Addr) (ca cb : Nat) (xs ys : List TurnD) (w : World) (hx : Reads w w.heap.size 2 A xs.length (turnsV xs)) (hy : Reads w w.heap.size 2 B ys.length (turnsV ys)) (hn : xs.length ≤ 1048576) :
    Calls Tryd.prog 16 #[.agg #[.slice A xs.length ca], .agg #[.slice B ys.length cb]] w fun e w' => e = .returned (.bool (decide (xs = ys))) ∧ Below w.heap.size w w' := by
  have hb0 : Below w.heap.size w ((w.alloc (.cells #[.slice A xs.length ca] 26)).alloc (.cells #[.slice B ys.length cb] 26)) := ((Below.refl _ _).alloc (Nat.le_refl _) _).alloc (by simp) _
  by_cases hxy : xs = ys
  · have E := Lib.hid (decide_eq_true hxy)
    clear hxy
    rw [E.out]
    go_enter Tryd.func16, Tryd.ntmps16
    go_wp2_with fail
    refine (eqTurnS_calls A B ca cb xs ys _ ((hx.below hb0).more hb0.size) ((hy.below hb0).more hb0.size) hn).mono ?_
    rw [E.out]
    rintro e w1 ⟨rfl, b1⟩
    have b2 := hb0.trans (b1.mono hb0.size)
    go_wp2
    go_ret
    exact ⟨rfl, b2⟩
  · have E := Lib.hid (decide_eq_false hxy)
    clear hxy
    rw [E.out]
    go_enter Tryd.func16, Tryd.ntmps16
    go_wp2_with fail
    refine (eqTurnS_calls A B ca cb xs ys _ ((hx.below hb0).more hb0.size) ((hy.below hb0).more hb0.size) hn).mono ?_
    rw [E.out]
    rintro e w1 ⟨rfl, b1⟩
    have b2 := hb0.trans (b1.mono hb0.size)
    go_wp2
    go_ret
    exact ⟨rfl, b2⟩
/-! ### Two cells kept over calls and draws -/
theorem two_below {w wx : World} {p q : Addr} {u v : Value} (h : wx.cell? p = some u ∧ wx.cell? q = some v ∧ Below w.heap.size w wx) : Below w.heap.size w wx := h.2.2
theorem two_step {w wx w1 : World} {p q : Addr} {u v : Value} (hp : p.block < w.heap.size) (hq : q.block < w.heap.size) (h : wx.cell? p = some u ∧ wx.cell? q = some v ∧ Below w.heap.size w wx) (hb : Below wx.heap.size wx w1) :
    w1.cell? p = some u ∧ w1.cell? q = some v ∧ Below w.heap.size w w1 :=
  ⟨(hb.cell (Nat.lt_of_lt_of_le hp h.2.2.size)).trans h.1, (hb.cell (Nat.lt_of_lt_of_le hq h.2.2.size)).trans h.2.1, h.2.2.trans (hb.mono h.2.2.size)⟩
theorem two_drew {w wx : World} {p q : Addr} {u v : Value} (h : wx.cell? p = some u ∧ wx.cell? q = some v ∧ Below w.heap.size w wx) : wx.drew.cell? p = some u ∧ wx.drew.cell? q = some v ∧ Below w.heap.size w wx.drew := ⟨h.1, h.2.1, h.2.2.drew⟩
end Go.Proofs.YthokekgdiebhjaaDoor
