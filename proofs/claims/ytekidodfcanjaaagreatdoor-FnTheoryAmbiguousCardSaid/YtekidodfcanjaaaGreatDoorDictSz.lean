/-
  The laws' helpers over dictionaries: sizes.
-/
import Derived.Test.YtekidodfcanjaaaGreatDoorDictPl
import Derived.Test.YtekidodfcanjaaaGreatDoorRows
namespace Go.Proofs.YtekidodfcanjaaaGreatDoor
open Go.RowKit
set_option linter.unusedVariables false
set_option maxRecDepth 100000

/-- What is left when an outline and a text are taken off. -/
def szE2 (a b : Nat) (left : Int) : Int := if (a : Int) + (b : Int) ≤ left then left - a - b else -1
theorem szE2_yes {a b : Nat} {left : Int} (h : (a : Int) + (b : Int) ≤ left) : szE2 a b left = left - a - b := if_pos h
theorem szE2_no {a b : Nat} {left : Int} (h : ¬ (a : Int) + (b : Int) ≤ left) : szE2 a b left = -1 := if_neg h
theorem szIntS_calls (A : Option Addr) (cap n : Nat) (left : Int) (w : World) (hn : n ≤ maxLen) (h0 : 0 ≤ left) (h1 : left ≤ 1048576) :
    Calls Tryz.prog 101 #[.slice A n cap, .int .i64 left] w fun e' w' => e' = .returned (.int .i64 (if (n : Int) ≤ left then left - n else -1)) ∧ w = w' := by
  unfold maxLen at hn
  by_cases hl : (n : Int) ≤ left
  · rw [if_pos hl]
    have i1 : ¬ left - (n : Int) < 0 := by omega
    go_enter Tryz.func101, Tryz.ntmps101
    go_wp2
    go_ret
    exact ⟨rfl, rfl⟩
  · rw [if_neg hl]
    have i1 : left - (n : Int) < 0 := by omega
    go_enter Tryz.func101, Tryz.ntmps101
    go_wp2
    go_ret
    exact ⟨rfl, rfl⟩
theorem szEntry_calls (A : Option Addr) (cap n : Nat) (t : ByteArray) (left : Int) (w : World) (hn : n ≤ maxLen) (ht : t.size ≤ maxLen) (h0 : 0 ≤ left) (h1 : left ≤ 1048576) :
    Calls Tryz.prog 71 #[.agg #[.slice A n cap, .string t], .int .i64 left] w fun e' w' => e' = .returned (.int .i64 (szE2 n t.size left)) ∧ Below w.heap.size w w' := by
  have hn' := hn
  unfold maxLen at hn' ht
  by_cases hl : (n : Int) ≤ left
  · by_cases hl2 : (n : Int) + (t.size : Int) ≤ left
    · have HL := Lib.hid (szE2_yes hl2)
      have i1 : ¬ left - (n : Int) < 0 := by omega
      have i2 : ¬ left - (n : Int) - (t.size : Int) < 0 := by omega
      go_enter Tryz.func71, Tryz.ntmps71
      go_wp2_with fail
      refine (szIntS_calls A cap n left _ hn h0 h1).mono ?_
      rw [if_pos hl]
      rintro e w1 ⟨rfl, rfl⟩
      go_wp2
      go_ret
      exact ⟨ret_int HL.out.symm, (Below.refl _ _).alloc (Nat.le_refl _) _⟩
    · have HL := Lib.hid (szE2_no hl2)
      have i1 : ¬ left - (n : Int) < 0 := by omega
      have i2 : left - (n : Int) - (t.size : Int) < 0 := by omega
      go_enter Tryz.func71, Tryz.ntmps71
      go_wp2_with fail
      refine (szIntS_calls A cap n left _ hn h0 h1).mono ?_
      rw [if_pos hl]
      rintro e w1 ⟨rfl, rfl⟩
      go_wp2
      go_ret
      exact ⟨ret_int HL.out.symm, (Below.refl _ _).alloc (Nat.le_refl _) _⟩
  · have HL := Lib.hid (szE2_no (a := n) (b := t.size) (left := left) (by omega))
    go_enter Tryz.func71, Tryz.ntmps71
    go_wp2_with fail
    refine (szIntS_calls A cap n left _ hn h0 h1).mono ?_
    rw [if_neg (by omega)]
    rintro e w1 ⟨rfl, rfl⟩
    go_wp2
    go_ret
    exact ⟨ret_int HL.out.symm, (Below.refl _ _).alloc (Nat.le_refl _) _⟩

def totalD (l : List EntD) : Nat := (l.map fun c => c.1.length + c.2.size).sum
theorem totalD_take_succ {l : List EntD} {k : Nat} {c : EntD} (h : l[k]? = some c) : totalD (l.take (k + 1)) = totalD (l.take k) + (c.1.length + c.2.size) := by
  rw [List.take_add_one, h]
  simp [totalD]
theorem totalD_mem {l : List EntD} {c : EntD} (h : c ∈ l) : c.1.length + c.2.size ≤ totalD l := by
  induction l with
  | nil => simp at h
  | cons d l ih =>
    simp only [totalD, List.map_cons, List.sum_cons] at *
    rcases List.mem_cons.1 h with rfl | h
    · omega
    · have := ih h
      omega
def SmallD (l : List EntD) (left : Int) : Prop := (l.length : Int) + totalD l ≤ left
def SizedD (l : List EntD) (left : Int) (w : World) (e : Ending) (w' : World) : Prop := ∃ r : Int, e = .returned (.int .i64 r) ∧ (r < 0 ∨ 0 ≤ r ∧ SmallD l left) ∧ Below w.heap.size w w'
def LongD (l : List EntD) : Prop := ∀ c ∈ l, c.1.length ≤ maxLen ∧ c.2.size ≤ maxLen
/-- Every outline and every text is short enough. -/
def ShortD (l : List EntD) : Prop := ∀ c ∈ l, c.1.length ≤ 1048576 ∧ c.2.size ≤ 1048576
theorem shortD_of {l : List EntD} (h : SmallD l 1048576) : l.length ≤ 1048576 ∧ ShortD l := by
  unfold SmallD at h
  refine ⟨by omega, fun c hc => ?_⟩
  have := totalD_mem hc
  omega
/-- What a walk reads of the k-th entry. -/
theorem DictR.at_ {w : World} {B b off : Nat} {l : List EntD} (h : ∀ (j : Nat) c, l[j]? = some c → ∃ (a : Option Addr) (cap : Nat), w.cell? ⟨b, off + j * 2, none⟩ = some (.slice a c.1.length cap) ∧ w.cell? ⟨b, off + j * 2 + 1, none⟩ = some (.string c.2) ∧ Reads w B 1 a c.1.length (ints c.1) ∧ c.1.length ≤ cap ∧ cap ≤ maxLen)
    {k : Nat} {o : List Int} {t : ByteArray} (hk : l[k]? = some (o, t)) : ∃ (a : Option Addr) (cap : Nat), w.cell? ⟨b, off + k * 2, none⟩ = some (.slice a o.length cap) ∧ w.cell? ⟨b, off + k * 2 + 1, none⟩ = some (.string t) ∧ Reads w B 1 a o.length (ints o) ∧ o.length ≤ cap ∧ cap ≤ maxLen := h k _ hk

set_option maxHeartbeats 1000000 in
theorem szEntryS_calls (A : Option Addr) (cap : Nat) (l : List EntD) (left : Int) (w : World) (hr : DictR w w.heap.size A l) (hn : l.length ≤ maxLen) (ht : LongD l) (h0 : 0 ≤ left) (h1 : left ≤ 1048576) :
    Calls Tryz.prog 41 #[.slice A l.length cap, .int .i64 left] w (SizedD l left w) := by
  unfold maxLen at hn
  by_cases hl : (l.length : Int) ≤ left
  · go_enter Tryz.func41, Tryz.ntmps41
    go_wp2
    go_loopw [1, 5] (fun lv i wr => ∃ k : Nat, k ≤ l.length ∧ i = .int .i64 k ∧ (∃ r : Int, lv = .int .i64 r ∧ 0 ≤ r ∧ r = left - l.length - totalD (l.take k)) ∧ Below w.heap.size w wr) (fun _ i _ => l.length - (intOf i).toNat)
    case atStart => exact ⟨0, Nat.zero_le _, rfl, ⟨_, rfl, by omega, by simp [totalD]⟩, Below.refl _ _⟩
    case round =>
      obtain ⟨k, hk, rfl, ⟨r, rfl, hr0, hre⟩, hb⟩ := hrel
      have hr1 : r ≤ 1048576 := by omega
      have HR := Lib.hid hre
      clear hre
      by_cases hlt : k < l.length
      · obtain ⟨b, off, rfl, hb0, hc⟩ := (hr.below hb) (by omega)
        obtain ⟨⟨s, t⟩, hx⟩ := some_at l hlt
        obtain ⟨ao, co, c1, c2, -, -, -⟩ := DictR.at_ hc hx
        have htt := ht _ (List.mem_of_getElem? hx)
        have HX := Lib.hid hx
        clear hx hc
        by_cases hs : (s.length : Int) + (t.size : Int) ≤ r
        · have hsl := szE2_yes hs
          have hs0 : 0 ≤ r - (s.length : Int) - (t.size : Int) := by omega
          go_wp2_with fail
          refine (szEntry_calls ao co s.length t r _ htt.1 htt.2 hr0 hr1).mono ?_
          rw [hsl]
          clear hsl
          rintro e1 w1 ⟨rfl, hb1⟩
          go_wp2
          go_roundw
          case rel => exact ⟨k + 1, by omega, by go_num, ⟨_, rfl, by omega, by rw [totalD_take_succ HX.out]; have := HR.out; simp; omega⟩, hb.trans (hb1.mono hb.size)⟩
          case measure => simp [intOf]; omega
        · have hsl := szE2_no hs
          go_wp2_with fail
          refine (szEntry_calls ao co s.length t r _ htt.1 htt.2 hr0 hr1).mono ?_
          rw [hsl]
          clear hsl
          rintro e1 w1 ⟨rfl, hb1⟩
          go_wp2
          go_ret
          exact ⟨-1, rfl, .inl (by omega), hb.trans (hb1.mono hb.size)⟩
      · obtain rfl : k = l.length := by omega
        go_wp2
        go_ret
        exact ⟨_, rfl, .inr ⟨hr0, by have := HR.out; rw [List.take_of_length_le (Nat.le_refl _)] at this; unfold SmallD; omega⟩, hb⟩
  · go_enter Tryz.func41, Tryz.ntmps41
    go_wp2
    go_ret
    exact ⟨-1, rfl, .inl (by omega), Below.refl _ _⟩
theorem szDictionary_calls (A : Option Addr) (cap : Nat) (l : List EntD) (left : Int) (w : World) (hr : DictR w w.heap.size A l) (hn : l.length ≤ maxLen) (ht : LongD l) (h0 : 0 ≤ left) (h1 : left ≤ 1048576) :
    Calls Tryz.prog 8 #[.agg #[.slice A l.length cap], .int .i64 left] w (SizedD l left w) := by
  have hb0 : Below w.heap.size w (w.alloc (.cells #[.slice A l.length cap] 24)) := (Below.refl _ _).alloc (Nat.le_refl _) _
  have HT := Lib.hid ht
  clear ht
  go_enter Tryz.func8, Tryz.ntmps8
  go_wp2_with fail
  refine (szEntryS_calls A cap l left _ ((hr.alloc (Nat.le_refl _) _).more (by simp)) hn HT.out h0 h1).mono ?_
  rintro e1 w1 ⟨r, rfl, hrr, b1⟩
  have b2 := hb0.trans (b1.mono (by simp))
  rcases hrr with hneg | ⟨hpos, hsm⟩
  · go_wp2
    go_ret
    exact ⟨-1, rfl, .inl (by omega), b2⟩
  · have HS := Lib.hid hsm
    have i1 : ¬ r < 0 := by omega
    clear hsm
    go_wp2
    go_ret
    exact ⟨r, rfl, .inr ⟨hpos, HS.out⟩, b2⟩
end Go.Proofs.YtekidodfcanjaaaGreatDoor
