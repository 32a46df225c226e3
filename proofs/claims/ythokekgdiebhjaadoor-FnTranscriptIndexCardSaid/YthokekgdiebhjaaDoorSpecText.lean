/-
  The reference's words, joins, texts and valid transcripts.
-/
import Derived.Test.YthokekgdiebhjaaDoorTurnText
import Derived.IntWalk
import Derived.BigQuiet
namespace Go.Proofs.YthokekgdiebhjaaDoor
open Go.RowKit
set_option linter.unusedVariables false
set_option maxRecDepth 100000

set_option maxHeartbeats 1000000 in
theorem spec_l19Words (A : Option Addr) (cap : Nat) (l : List ByteArray) (w : World) (hr : Reads w w.heap.size 1 A l.length (strsV l)) (hn : l.length ≤ 8388608) (ht : ∀ t ∈ l, t.size ≤ maxLen) :
    Calls Tryd.prog 84 #[.slice A l.length cap] w fun e w' => e = .returned (.bool (wordsB l)) ∧ w = w' := by
  have HT := Lib.hid ht
  clear ht
  by_cases h40 : l.length ≤ 40
  · go_enter Tryd.func84, Tryd.ntmps84
    go_wp2
    go_loop [3] (fun i => ∃ k : Nat, k ≤ l.length ∧ i = .int .i64 k ∧ ∀ j x, j < k → l[j]? = some x → wordB x = true) (fun i => l.length - (intOf i).toNat)
    case atStart => exact ⟨0, Nat.zero_le _, rfl, fun j _ hj => absurd hj (Nat.not_lt_zero _)⟩
    case round =>
      obtain ⟨k, hk, rfl, hall⟩ := hrel
      have HA := Lib.hid hall
      clear hall
      by_cases hlt : k < l.length
      · obtain ⟨b, off, rfl, hb0, hc⟩ := hr.2 (by omega)
        obtain ⟨x, hx⟩ := some_at l hlt
        have cx : w.cell? ⟨b, off + k, none⟩ = some (.string x) := hc k _ (strsV_at hx)
        have hxm := HT.out _ (List.mem_of_getElem? hx)
        have HX := Lib.hid hx
        clear hx hc
        cases hp : wordB x
        · go_wp2_with fail
          refine (spec_l19Word x _ hxm).mono ?_
          rw [hp]
          rintro e w' ⟨rfl, rfl⟩
          go_wp2
          go_ret
          refine ⟨ret_bool ?_, rfl⟩
          unfold wordsB
          rw [show l.all wordB = false from List.all_eq_false.2 ⟨x, List.mem_of_getElem? HX.out, by simp [hp]⟩, Bool.and_false]
        · go_wp2_with fail
          refine (spec_l19Word x _ hxm).mono ?_
          rw [hp]
          rintro e w' ⟨rfl, rfl⟩
          go_wp2
          go_round
          case rel => exact ⟨k + 1, by omega, by go_num, fun j y hj hy => by
            rcases Nat.lt_or_ge j k with h | h
            · exact HA.out j y h hy
            · obtain rfl : j = k := by omega
              rw [HX.out] at hy
              rw [← Option.some.inj hy]; exact hp⟩
          case measure => simp [intOf]; omega
      · obtain rfl : k = l.length := by omega
        go_wp2
        go_ret
        refine ⟨ret_bool ?_, rfl⟩
        unfold wordsB
        rw [decide_eq_true h40, Bool.true_and, eq_comm, List.all_eq_true]
        intro x hx
        obtain ⟨j, hj⟩ := List.mem_iff_getElem?.1 hx
        exact HA.out j x (List.getElem?_eq_some_iff.1 hj).1 hj
  · go_enter Tryd.func84, Tryd.ntmps84
    go_wp2
    go_ret
    exact ⟨ret_bool (by simp [wordsB]; omega), rfl⟩

theorem bytes_mk (a b : List UInt8) : (⟨a.toArray⟩ : ByteArray) ++ ⟨b.toArray⟩ = ⟨(a ++ b).toArray⟩ := ByteArray.mk_append_mk a b
def keepW (l : List ByteArray) (k : Nat) : List ByteArray := (l.take k).filter fun p => decide (p.size ≠ 0)
theorem keepW_yes {l : List ByteArray} {k : Nat} {x : ByteArray} (h : l[k]? = some x) (hx : x.size ≠ 0) : keepW l (k + 1) = keepW l k ++ [x] := by
  unfold keepW
  rw [take_succ_of h, List.filter_append, show [x].filter (fun p : ByteArray => decide (p.size ≠ 0)) = [x] by rw [List.filter_cons, if_pos (decide_eq_true hx)]; rfl]
theorem keepW_no {l : List ByteArray} {k : Nat} {x : ByteArray} (h : l[k]? = some x) (hx : x.size = 0) : keepW l (k + 1) = keepW l k := by
  unfold keepW
  rw [take_succ_of h, List.filter_append, show [x].filter (fun p : ByteArray => decide (p.size ≠ 0)) = [] by rw [List.filter_cons, if_neg (by rw [decide_eq_true_eq]; exact fun h' => h' hx)]; rfl, List.append_nil]
theorem keepW_len (l : List ByteArray) (k : Nat) : (keepW l k).length ≤ k := by
  unfold keepW
  have h1 := List.length_filter_le (fun p : ByteArray => decide (p.size ≠ 0)) (l.take k)
  have h2 := List.length_take_le k l
  omega
theorem wordsV_size (s : ByteArray) : ∀ p ∈ wordsV s, p.size ≤ s.size := fun p hp => partsV_size 32 s p (List.mem_filter.1 hp).1
theorem wordsV_length (s : ByteArray) : (wordsV s).length ≤ s.size + 1 :=
  Nat.le_trans (List.length_filter_le _ _) (partsV_length 32 s)
theorem size_zero {x : ByteArray} : x.size = 0 ↔ x = ⟨#[]⟩ := by
  constructor
  · intro h
    obtain ⟨⟨l⟩⟩ := x
    have : l = [] := List.eq_nil_of_length_eq_zero h
    subst this
    rfl
  · rintro rfl; rfl

/-- SplitWords's results. -/
def SplitRes (s : ByteArray) (w : World) (e : Ending) (w' : World) : Prop :=
  ∃ v, e = .returned (.tuple #[v, .bool (splitB s)]) ∧ (splitB s = true ∧ Own w' w.heap.size w'.heap.size 9 1 v (wordsV s).length (strsV (wordsV s)) ∨ splitB s = false ∧ v = .slice none 0 0) ∧ Below w.heap.size w w'

set_option maxHeartbeats 2000000 in
theorem spec_SplitWords (s : ByteArray) (w : World) (hs : s.size ≤ 4194304) : Calls Tryd.prog 54 #[.string s] w (SplitRes s w) := by
  by_cases h2 : s.size ≤ 2000
  · have hpl := partsV_length 32 s
    have HPS := Lib.hid (partsV_size 32 s)
    go_enter Tryd.func54, Tryd.ntmps54
    go_wp2_with fail
    refine (spec_l1Split s _ 32 rfl _ hs).mono ?_
    rintro e w1 ⟨v1, rfl, o1, b1⟩
    obtain ⟨A1, c1, rfl, r1, -, -⟩ := o1.slice
    have s1 := b1.size
    go_wp2
    go_loopw [5, 6] (fun v i wr => ∃ k : Nat, k ≤ (partsV 32 s).length ∧ i = .int .i64 k ∧ wr.ownsRow w1.heap.size 9 1 v (keepW (partsV 32 s) k).length (strsV (keepW (partsV 32 s) k)) ∧ Below w1.heap.size w1 wr) (fun _ i _ => (partsV 32 s).length - (intOf i).toNat)
    case atStart => exact ⟨0, Nat.zero_le _, rfl, World.ownsRow_made _ _ _ (Nat.le_refl _) (by simp) rfl, (Below.refl _ _).alloc (Nat.le_refl _) _⟩
    case round =>
      obtain ⟨k, hk, rfl, hown, hb⟩ := hrel
      have hsz := hb.size
      have hkl := keepW_len (partsV 32 s) k
      by_cases hlt : k < (partsV 32 s).length
      · obtain ⟨b, off, rfl, hb0, hc⟩ := (r1.below hb).2 (by omega)
        obtain ⟨x, hx⟩ := some_at (partsV 32 s) hlt
        have cx : wr.cell? ⟨b, off + k, none⟩ = some (.string x) := hc k _ (strsV_at hx)
        have HX := Lib.hid hx
        clear hx hc
        by_cases hz : x.size = 0
        · have hz2 : x = ⟨#[]⟩ := size_zero.1 hz
          subst hz2
          go_wp2
          go_roundw
          case rel => exact ⟨k + 1, by omega, by go_num, by rw [keepW_no HX.out hz]; exact hown, hb⟩
          case measure => simp [intOf]; omega
        · have hne : (!x.toList.isEmpty) = true := by
            rw [ByteArray.toList_eq]
            obtain ⟨⟨l⟩⟩ := x
            cases l with
            | nil => exact absurd rfl hz
            | cons a l => rfl
          have hne2 : x.toList.isEmpty = false := by simpa using hne
          have hne3 : ¬ x.toList = [] := by simpa using hne
          have HZ := Lib.hid hz
          clear hz
          go_wp2_with (at_builtin; refine wpList_append_one hown hsz (.tmp 24) (.tmp 29) 53 Tryd.underlying53 info_string (by omega) (by unfold maxLen; omega) ⟨rfl, rfl, rfl, rfl, rfl, rfl⟩ (by simp) ?_; intro v2 w2 hown2 hb2 _)
          go_roundw
          case rel => exact ⟨k + 1, by omega, by go_num, by rw [keepW_yes HX.out HZ.out, strsV_snoc, List.length_append]; exact hown2, hb.trans hb2⟩
          case measure => simp [intOf]; omega
      · obtain rfl : k = (partsV 32 s).length := by omega
        have hkw : keepW (partsV 32 s) (partsV 32 s).length = wordsV s := by unfold keepW wordsV; rw [take_all]
        rw [hkw] at hown hkl
        have hown' := Own.of_row hown
        obtain ⟨A2, c2, rfl, r2, -, -⟩ := hown'.slice
        have HSZ := Lib.hid (wordsV_size s)
        have HKW := Lib.hid hkw
        clear hkw
        cases hw : wordsB (wordsV s)
        · go_wp2_with fail
          refine (spec_l19Words A2 c2 (wordsV s) _ r2 (by omega) (fun t ht => by have := HSZ.out t ht; unfold maxLen; omega)).mono ?_
          rw [hw]
          rintro e w3 ⟨rfl, rfl⟩
          have hsp : splitB s = false := by simp [splitB, hw]
          go_wp2
          go_ret2
          exact ⟨.slice none 0 0, by rw [hsp]; rfl, .inr ⟨hsp, rfl⟩, b1.trans (hb.mono s1)⟩
        · go_wp2_with fail
          refine (spec_l19Words A2 c2 (wordsV s) _ r2 (by omega) (fun t ht => by have := HSZ.out t ht; unfold maxLen; omega)).mono ?_
          rw [hw]
          rintro e w3 ⟨rfl, rfl⟩
          have hsp : splitB s = true := by simp [splitB, hw, h2]
          go_wp2
          go_ret2
          exact ⟨.slice A2 (wordsV s).length c2, by rw [hsp]; rfl, .inl ⟨hsp, ⟨hown.base s1, fun g hg => (hown.lt g hg).2⟩⟩, b1.trans (hb.mono s1)⟩
  · have hs' : s.size ≤ 9223372036854775807 := by omega
    have hsp : splitB s = false := by simp [splitB]; omega
    have HS := Lib.hid hsp
    clear hsp
    go_enter Tryd.func54, Tryd.ntmps54
    go_wp2
    go_ret2
    exact ⟨.slice none 0 0, by rw [HS.out]; rfl, .inr ⟨HS.out, rfl⟩, Below.refl _ _⟩

/-! ### l19Join -/
def joinR (l : List ByteArray) (a n : Nat) : List UInt8 := joinS ((l.drop a).take n)
theorem joinR_zero (l : List ByteArray) (a : Nat) : joinR l a 0 = [] := by simp [joinR, joinS, joinB, List.intercalate]
theorem joinR_first {l : List ByteArray} {a : Nat} {x : ByteArray} (h : l[a]? = some x) : joinR l a 1 = x.data.toList := by
  unfold joinR joinS
  have h1 : (l.drop a)[0]? = some x := by simpa using h
  rw [take_succ_of (k := 0) h1]
  simp [joinB_one]
theorem joinR_next {l : List ByteArray} {a n : Nat} {x : ByteArray} (h : l[a + n]? = some x) (hn : 0 < n) : joinR l a (n + 1) = joinR l a n ++ 32 :: x.data.toList := by
  unfold joinR joinS
  have h1 : (l.drop a)[n]? = some x := by simpa using h
  have hk : a + n < l.length := (List.getElem?_eq_some_iff.1 h).1
  rw [take_succ_of h1, List.map_append, List.map_cons, List.map_nil, joinB_snoc]
  intro h0
  have := congrArg List.length h0
  simp at this
  omega
theorem joinR_len {l : List ByteArray} {a : Nat} {B : Nat} (hB : ∀ x ∈ l, x.size ≤ B) : ∀ n, a + n ≤ l.length → (joinR l a n).length ≤ n * (B + 1) := by
  intro n
  induction n with
  | zero => intro _; rw [joinR_zero]; simp
  | succ n ih =>
    intro hn
    obtain ⟨x, hx⟩ := some_at l (show a + n < l.length by omega)
    have h1 := ih (by omega)
    have h2 := hB x (List.mem_of_getElem? hx)
    have h3 : x.data.toList.length = x.size := rfl
    have h4 : (n + 1) * (B + 1) = n * (B + 1) + B + 1 := by rw [Nat.add_mul]; omega
    rcases Nat.eq_zero_or_pos n with rfl | hp
    · rw [joinR_first (by simpa using hx)]
      omega
    · rw [joinR_next hx hp, List.length_append, List.length_cons]
      omega

set_option maxHeartbeats 2000000 in
theorem spec_l19Join (A : Option Addr) (cap : Nat) (l : List ByteArray) (a b : Nat) (w : World) (hr : Reads w w.heap.size 1 A l.length (strsV l)) (hab : a ≤ b) (hbl : b ≤ l.length) (hn : l.length ≤ 1048576) (ht : ∀ t ∈ l, t.size ≤ 4194304) :
    Calls Tryd.prog 82 #[.slice A l.length cap, .int .i64 a, .int .i64 b] w fun e w' => e = .returned (.string ⟨(joinR l a (b - a)).toArray⟩) ∧ w = w' := by
  have HL := Lib.hid (joinR_len (a := a) ht)
  have HT := Lib.hid ht
  clear ht
  go_enter Tryd.func82, Tryd.ntmps82
  go_wp2
  go_loop [7, 8] (fun o i => ∃ n : Nat, a + n ≤ b ∧ i = .int .i64 ((a : Int) + (n : Int)) ∧ o = .string ⟨(joinR l a n).toArray⟩) (fun _ i => b - (intOf i).toNat)
  case atStart => exact ⟨0, by omega, by simp, by rw [joinR_zero]⟩
  case round =>
    obtain ⟨n, hn1, rfl, rfl⟩ := hrel
    have hln := HL.out n (by omega)
    have hlm : n * (4194304 + 1) ≤ 1048576 * (4194304 + 1) := Nat.mul_le_mul_right _ (by omega)
    by_cases hlt : a + n < b
    · obtain ⟨bk, off, rfl, hb0, hc⟩ := hr.2 (by omega)
      obtain ⟨x, hx⟩ := some_at l (show a + n < l.length by omega)
      have hxs := HT.out x (List.mem_of_getElem? hx)
      have cx : w.cell? ⟨bk, off + (a + n), none⟩ = some (.string x) := hc (a + n) _ (strsV_at hx)
      have i0 : (0 : Int) ≤ (a : Int) + (n : Int) := by omega
      have i1 : (a : Int) + (n : Int) < (l.length : Int) := by omega
      have i2 : (a : Int) + (n : Int) < (b : Int) := by omega
      have i3 : ((a : Int) + (n : Int)).toNat = a + n := by omega
      have i4 : (a : Int) + (n : Int) ≤ 1048576 := by omega
      have HX := Lib.hid hx
      have y1 : ¬ (9223372036854775807 < (joinR l a n).length + x.size) := by omega
      have y2 : ¬ (9223372036854775807 < (joinR l a n).length + 1) := by omega
      have y2' : ¬ (9223372036854775806 < (joinR l a n).length) := by omega
      have y3 : ¬ (9223372036854775807 < (joinR l a n).length + 1 + x.size) := by omega
      clear hx hc
      by_cases h0 : n = 0
      · subst h0
        have j0 : joinR l a 0 = [] := joinR_zero l a
        have HF := Lib.hid (joinR_first (l := l) (a := a) (by simpa using HX.out))
        rw [j0]
        simp only [Nat.add_zero, Int.natCast_zero, Int.add_zero] at *
        have i5 : ¬ (a : Int) < (a : Int) := by omega
        have y5 : ¬ (9223372036854775807 < x.size) := by omega
        go_wp2
        go_round
        case rel => exact ⟨1, by omega, by go_num, by
          rw [HF.out]
          refine congrArg Value.string ?_
          obtain ⟨⟨lx⟩⟩ := x
          first | rfl | simp⟩
        case measure => simp [intOf]; omega
      · have hp : 0 < n := by omega
        have HN := Lib.hid (joinR_next HX.out hp)
        have i5 : (a : Int) < (a : Int) + (n : Int) := by omega
        have i6 : (0 : Int) < (n : Int) := by omega
        clear h0
        go_wp2
        go_round
        case rel => exact ⟨n + 1, by omega, by go_num, by
          rw [HN.out]
          refine congrArg Value.string ?_
          obtain ⟨⟨lx⟩⟩ := x
          first | (simp only [bytes_mk]; done) | (simp only [bytes_mk, List.append_assoc]; rfl)⟩
        case measure => simp [intOf]; omega
    · obtain rfl : b = a + n := by omega
      have i2 : ¬ (a : Int) + (n : Int) < ((a + n : Nat) : Int) := by omega
      go_wp2
      go_ret
      exact ⟨by first | rfl | (rw [show a + n - a = n by omega]; rfl), rfl⟩

set_option maxHeartbeats 1000000 in
theorem spec_l21Text (s : ByteArray) (w : World) (hs : s.size ≤ 4194304) : Calls Tryd.prog 53 #[.string s] w fun e w' => e = .returned (.bool (textB s)) ∧ Below w.heap.size w w' := by
  have HTE := Lib.hid (textB_eq s)
  have hwl := wordsV_length s
  have HSZ := Lib.hid (wordsV_size s)
  go_enter Tryd.func53, Tryd.ntmps53
  go_wp2_with fail
  refine (spec_SplitWords s _ hs).mono ?_
  rintro e w1 ⟨v, rfl, hv, b1⟩
  rcases hv with ⟨hsp, o1⟩ | ⟨hsp, rfl⟩
  · obtain ⟨A1, c1, rfl, r1, -, -⟩ := o1.slice
    have h2 : s.size ≤ 2000 := by simp only [splitB, Bool.and_eq_true, decide_eq_true_eq] at hsp; exact hsp.1
    have HSP := Lib.hid hsp
    rw [hsp]
    clear hsp
    by_cases h0 : 0 < (wordsV s).length
    · have HJ := Lib.hid (show joinR (wordsV s) 0 ((wordsV s).length - 0) = joinS (wordsV s) by simp [joinR])
      have i1 : (0 : Int) < ((wordsV s).length : Int) := by omega
      go_wp2_with fail
      refine (spec_l19Join A1 c1 (wordsV s) 0 (wordsV s).length _ r1 (by omega) (Nat.le_refl _) (by omega) (fun t ht => by have := HSZ.out t ht; omega)).mono ?_
      rw [HJ.out]
      rintro e w2 ⟨rfl, rfl⟩
      by_cases hj : (⟨(joinS (wordsV s)).toArray⟩ : ByteArray) = s
      · rw [hj]
        go_wp2
        go_ret
        exact ⟨ret_bool (by rw [HTE.out, HSP.out, decide_eq_true h0, decide_eq_true hj]; simp), b1⟩
      · have hne : ((⟨(joinS (wordsV s)).toArray⟩ : ByteArray).toList == s.toList) = false := by rw [str_beq]; exact decide_eq_false hj
        have HJ2 := Lib.hid hj
        clear hj
        generalize (⟨(joinS (wordsV s)).toArray⟩ : ByteArray) = J at *
        go_wp2
        go_ret
        exact ⟨ret_bool (by rw [HTE.out, HSP.out, decide_eq_true h0, decide_eq_false HJ2.out]; simp), b1⟩
    · have i1 : ¬ (0 : Int) < ((wordsV s).length : Int) := by omega
      go_wp2
      go_ret
      exact ⟨ret_bool (by rw [HTE.out, HSP.out, decide_eq_false h0]; simp), b1⟩
  · have HSP := Lib.hid hsp
    rw [hsp]
    clear hsp
    go_wp2
    go_ret
    exact ⟨ret_bool (by rw [HTE.out, HSP.out]; simp), b1⟩

set_option maxHeartbeats 2000000 in
theorem spec_IsValidTranscript (A : Option Addr) (cap : Nat) (l : List TurnD) (w : World) (hr : Reads w w.heap.size 2 A l.length (turnsV l)) (hn : l.length ≤ 8388608) (ht : ShortT l) :
    Calls Tryd.prog 29 #[.agg #[.slice A l.length cap]] w fun e w' => e = .returned (.bool (transB l)) ∧ Below w.heap.size w w' := by
  have HT := Lib.hid ht
  clear ht
  have hb0 : Below w.heap.size w (w.alloc (.cells #[.slice A l.length cap] 26)) := (Below.refl _ _).alloc (Nat.le_refl _) _
  by_cases h30 : l.length ≤ 30
  · go_enter Tryd.func29, Tryd.ntmps29
    go_wp2
    go_loopw [3] (fun i wr => ∃ k : Nat, k ≤ l.length ∧ i = .int .i64 k ∧ (∀ j c, j < k → l[j]? = some c → turnB c = true) ∧ wr.cell? ⟨w.heap.size, 0, none⟩ = some (.slice A l.length cap) ∧ Below w.heap.size w wr ∧ w.heap.size < wr.heap.size) (fun i _ => l.length - (intOf i).toNat)
    case atStart => exact ⟨0, Nat.zero_le _, rfl, fun j _ hj => absurd hj (Nat.not_lt_zero _), by simp [World.cell?_alloc_at], hb0, by simp⟩
    case round =>
      obtain ⟨k, hk, rfl, hall, hcell, hb, hgt⟩ := hrel
      have HA := Lib.hid hall
      clear hall
      by_cases hlt : k < l.length
      · obtain ⟨b, off, hA, hb0', hc⟩ := (hr.below hb).2 (by omega)
        subst hA
        obtain ⟨⟨s, t⟩, hx⟩ := some_at l hlt
        obtain ⟨c1, c2⟩ := Reads.turn hc hx
        have hsz := HT.out _ (List.mem_of_getElem? hx)
        simp only at hsz
        have HX := Lib.hid hx
        have i0 : (0 : Int) ≤ (k : Int) := by omega
        have i1 : (k : Int) < (l.length : Int) := by omega
        clear hx hc
        cases hs : speakerB s
        · go_wp2_with fail
          refine (spec_l21Speaker s _ (by unfold maxLen; omega)).mono ?_
          rw [hs]
          rintro e w1 ⟨rfl, rfl⟩
          go_wp2
          go_ret
          exact ⟨ret_bool (turn_no HX.out (by simp [turnB, hs])).symm, hb⟩
        · go_wp2_with fail
          refine (spec_l21Speaker s _ (by unfold maxLen; omega)).mono ?_
          rw [hs]
          rintro e w1 ⟨rfl, rfl⟩
          cases htx : textB t
          · go_wp2_with fail
            refine (spec_l21Text t _ hsz.2).mono ?_
            rw [htx]
            rintro e w2 ⟨rfl, b2⟩
            go_wp2
            go_ret
            exact ⟨ret_bool (turn_no HX.out (by simp [turnB, htx])).symm, hb.trans (b2.mono hb.size)⟩
          · go_wp2_with fail
            refine (spec_l21Text t _ hsz.2).mono ?_
            rw [htx]
            rintro e w2 ⟨rfl, b2⟩
            have hcell2 := (b2.cell (p := ⟨w.heap.size, 0, none⟩) hgt).trans hcell
            have hgt2 : w.heap.size < w2.heap.size := Nat.lt_of_lt_of_le hgt b2.size
            go_wp2
            go_roundw
            case rel => exact ⟨k + 1, by omega, by go_num, fun j c hj hc => by
              rcases Nat.lt_or_ge j k with h | h
              · exact HA.out j c h hc
              · obtain rfl : j = k := by omega
                rw [HX.out] at hc
                rw [← Option.some.inj hc]; simp [turnB, hs, htx], hcell2, hb.trans (b2.mono hb.size), hgt2⟩
            case measure => simp [intOf]; omega
      · obtain rfl : k = l.length := by omega
        go_wp2
        go_ret
        exact ⟨ret_bool (turn_yes h30 fun j c hc => HA.out j c (List.getElem?_eq_some_iff.1 hc).1 hc).symm, hb⟩
  · have HN := Lib.hid (show transB l = false by simp [transB]; omega)
    go_enter Tryd.func29, Tryd.ntmps29
    go_wp2
    go_ret
    exact ⟨ret_bool HN.out.symm, hb0⟩
end Go.Proofs.YthokekgdiebhjaaDoor
