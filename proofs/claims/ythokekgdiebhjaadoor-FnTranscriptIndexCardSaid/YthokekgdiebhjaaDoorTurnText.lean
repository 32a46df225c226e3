/-
  Words, texts and speakers of a transcript: the reference's contracts and the program's.
-/
import Derived.Test.YthokekgdiebhjaaDoorTurnPl
import Derived.Test.YthokekgdiebhjaaDoorRows
namespace Go.Proofs.YthokekgdiebhjaaDoor
open Go.RowKit
set_option linter.unusedVariables false
set_option maxRecDepth 100000

set_option maxHeartbeats 1000000 in
theorem spec_l19Word (t : ByteArray) (w : World) (ht : t.size ≤ maxLen) :
    Calls Tryd.prog 98 #[.string t] w fun e w' => e = .returned (.bool (wordB t)) ∧ w = w' := by
  unfold maxLen at ht
  go_enter Tryd.func98, Tryd.ntmps98
  go_wp2
  go_loop [3] (fun i => ∃ k : Nat, k ≤ t.size ∧ i = .int .i64 k ∧ ∀ j (hj : j < t.size), j < k → 33 ≤ t[j].toNat ∧ t[j].toNat ≤ 126) (fun i => t.size - (intOf i).toNat)
  case atStart => exact ⟨0, Nat.zero_le _, rfl, fun j _ hj => absurd hj (Nat.not_lt_zero _)⟩
  case round =>
    obtain ⟨k, hk, rfl, hall⟩ := hrel
    have HA := Lib.hid hall
    clear hall
    by_cases hlt : k < t.size
    · by_cases h1 : (33 : Int) ≤ (t[k].toNat : Int)
      · by_cases h2 : (t[k].toNat : Int) ≤ 126
        · go_wp2
          go_round
          case rel => exact ⟨k + 1, by omega, by go_num, fun j hj hjk => by
            rcases Nat.lt_or_ge j k with h | h
            · exact HA.out j hj h
            · obtain rfl : j = k := by omega
              omega⟩
          case measure => simp [intOf]; omega
        · have HP := Lib.hid (allIn_no (lo := 33) (hi := 126) hlt (by omega))
          go_wp2
          go_ret
          exact ⟨ret_bool (by simp [wordB, HP.out]), rfl⟩
      · have HP := Lib.hid (allIn_no (lo := 33) (hi := 126) hlt (by omega))
        go_wp2
        go_ret
        exact ⟨ret_bool (by simp [wordB, HP.out]), rfl⟩
    · obtain rfl : k = t.size := by omega
      have HP := Lib.hid (allIn_yes (lo := 33) (hi := 126) fun j hj => HA.out j hj hj)
      go_wp2_with (go_at_call 81; refine (spec_l1In _ _ _ _).mono ?_; rintro e w' ⟨rfl, rfl⟩)
      go_ret
      exact ⟨ret_bool (by simp [wordB, HP.out]), rfl⟩

set_option maxHeartbeats 1000000 in
theorem spec_l21Speaker (t : ByteArray) (w : World) (ht : t.size ≤ maxLen) :
    Calls Tryd.prog 52 #[.string t] w fun e w' => e = .returned (.bool (speakerB t)) ∧ w = w' := by
  unfold maxLen at ht
  go_enter Tryd.func52, Tryd.ntmps52
  go_wp2
  go_loop [3] (fun i => ∃ k : Nat, k ≤ t.size ∧ i = .int .i64 k ∧ ∀ j (hj : j < t.size), j < k → 65 ≤ t[j].toNat ∧ t[j].toNat ≤ 90) (fun i => t.size - (intOf i).toNat)
  case atStart => exact ⟨0, Nat.zero_le _, rfl, fun j _ hj => absurd hj (Nat.not_lt_zero _)⟩
  case round =>
    obtain ⟨k, hk, rfl, hall⟩ := hrel
    have HA := Lib.hid hall
    clear hall
    by_cases hlt : k < t.size
    · by_cases h1 : (65 : Int) ≤ (t[k].toNat : Int)
      · by_cases h2 : (t[k].toNat : Int) ≤ 90
        · go_wp2
          go_round
          case rel => exact ⟨k + 1, by omega, by go_num, fun j hj hjk => by
            rcases Nat.lt_or_ge j k with h | h
            · exact HA.out j hj h
            · obtain rfl : j = k := by omega
              omega⟩
          case measure => simp [intOf]; omega
        · have HP := Lib.hid (allIn_no (lo := 65) (hi := 90) hlt (by omega))
          go_wp2
          go_ret
          exact ⟨ret_bool (by simp [speakerB, HP.out]), rfl⟩
      · have HP := Lib.hid (allIn_no (lo := 65) (hi := 90) hlt (by omega))
        go_wp2
        go_ret
        exact ⟨ret_bool (by simp [speakerB, HP.out]), rfl⟩
    · obtain rfl : k = t.size := by omega
      have HP := Lib.hid (allIn_yes (lo := 65) (hi := 90) fun j hj => HA.out j hj hj)
      go_wp2_with (go_at_call 81; refine (spec_l1In _ _ _ _).mono ?_; rintro e w' ⟨rfl, rfl⟩)
      go_ret
      exact ⟨ret_bool (by simp [speakerB, HP.out]), rfl⟩

set_option maxHeartbeats 1000000 in
theorem impl_isSpeaker (t : ByteArray) (w : World) (ht : t.size ≤ maxLen) :
    Calls Tryd.prog 68 #[.string t] w fun e w' => e = .returned (.bool (speakerB t)) ∧ w = w' := by
  unfold maxLen at ht
  go_enter Tryd.func68, Tryd.ntmps68
  go_wp2
  go_loop [6] (fun i => ∃ k : Nat, k ≤ t.size ∧ i = .int .i64 k ∧ ∀ j (hj : j < t.size), j < k → 65 ≤ t[j].toNat ∧ t[j].toNat ≤ 90) (fun i => t.size - (intOf i).toNat)
  case atStart => exact ⟨0, Nat.zero_le _, rfl, fun j _ hj => absurd hj (Nat.not_lt_zero _)⟩
  case round =>
    obtain ⟨k, hk, rfl, hall⟩ := hrel
    have HA := Lib.hid hall
    clear hall
    by_cases hlt : k < t.size
    · by_cases h1 : (65 : Int) ≤ (t[k].toNat : Int)
      · by_cases h2 : (t[k].toNat : Int) ≤ 90
        · go_wp2
          go_round
          case rel => exact ⟨k + 1, by omega, by go_num, fun j hj hjk => by
            rcases Nat.lt_or_ge j k with h | h
            · exact HA.out j hj h
            · obtain rfl : j = k := by omega
              omega⟩
          case measure => simp [intOf]; omega
        · have HP := Lib.hid (allIn_no (lo := 65) (hi := 90) hlt (by omega))
          go_wp2
          go_ret
          exact ⟨ret_bool (by simp [speakerB, HP.out]), rfl⟩
      · have HP := Lib.hid (allIn_no (lo := 65) (hi := 90) hlt (by omega))
        go_wp2
        go_ret
        exact ⟨ret_bool (by simp [speakerB, HP.out]), rfl⟩
    · obtain rfl : k = t.size := by omega
      have HP := Lib.hid (allIn_yes (lo := 65) (hi := 90) fun j hj => HA.out j hj hj)
      go_wp2_with (go_at_call 92; refine (impl_in _ _ _ _).mono ?_; rintro e w' ⟨rfl, rfl⟩)
      go_ret
      exact ⟨ret_bool (by simp [speakerB, HP.out]), rfl⟩

set_option maxHeartbeats 1000000 in
theorem impl_isPrintableT (t : ByteArray) (w : World) (ht : t.size ≤ maxLen) :
    Calls Tryd.prog 101 #[.string t] w fun e w' => e = .returned (.bool (printB t)) ∧ w = w' := by
  unfold maxLen at ht
  go_enter Tryd.func101, Tryd.ntmps101
  go_wp2
  go_loop [6] (fun i => ∃ k : Nat, k ≤ t.size ∧ i = .int .i64 k ∧ ∀ j (hj : j < t.size), j < k → visible t[j] = true) (fun i => t.size - (intOf i).toNat)
  case atStart => exact ⟨0, Nat.zero_le _, rfl, fun j _ hj => absurd hj (Nat.not_lt_zero _)⟩
  case round =>
    obtain ⟨k, hk, rfl, hall⟩ := hrel
    have HA := Lib.hid hall
    clear hall
    by_cases hlt : k < t.size
    · by_cases h1 : (32 : Int) ≤ (t[k].toNat : Int)
      · by_cases h2 : (t[k].toNat : Int) ≤ 126
        · go_wp2
          go_round
          case rel => exact ⟨k + 1, by omega, by go_num, fun j hj hjk => by
            rcases Nat.lt_or_ge j k with h | h
            · exact HA.out j hj h
            · obtain rfl : j = k := by omega
              simp [visible]; omega⟩
          case measure => simp [intOf]; omega
        · have hp := print_no hlt (by simp [visible]; omega)
          have HP := Lib.hid hp
          clear hp
          go_wp2
          go_ret
          exact ⟨ret_bool (by simp [HP.out]), rfl⟩
      · have hp := print_no hlt (by simp [visible]; omega)
        have HP := Lib.hid hp
        clear hp
        go_wp2
        go_ret
        exact ⟨ret_bool (by simp [HP.out]), rfl⟩
    · obtain rfl : k = t.size := by omega
      have hp := print_yes fun j hj => HA.out j hj hj
      have HP := Lib.hid hp
      clear hp
      go_wp2
      go_ret
      exact ⟨ret_bool (by rw [HP.out]), rfl⟩

theorem contains_one (t : ByteArray) (c : UInt8) (w : World) : Calls Tryd.prog 102 #[.string t, .string ⟨#[c]⟩] w fun e w' => e = .returned (.bool (t.data.toList.contains c)) ∧ w = w' :=
  (Tryd.strings_Contains_one t c w).mono fun e w' ⟨he, hw⟩ => ⟨by rw [he, has_byte], hw.symm⟩

theorem impl_isListWord (t : ByteArray) (w : World) (ht : t.size ≤ maxLen) :
    Calls Tryd.prog 86 #[.string t] w fun e w' => e = .returned (.bool (wordB t)) ∧ w = w' := by
  have ht' := ht
  unfold maxLen at ht
  rw [wordB_eq]
  cases hi : inB t.size 1 80
  · go_enter Tryd.func86, Tryd.ntmps86
    go_wp2_with (go_at_call 92; refine (impl_in _ _ _ _).mono ?_; rintro e w' ⟨rfl, rfl⟩)
    go_ret
    exact ⟨rfl, rfl⟩
  · cases hp : printB t
    · go_enter Tryd.func86, Tryd.ntmps86
      go_wp2_with (first | (go_at_call 92; refine (impl_in _ _ _ _).mono ?_; rintro e w' ⟨rfl, rfl⟩) | (go_at_call 101; refine (impl_isPrintableT _ _ ht').mono ?_; rintro e w' ⟨rfl, rfl⟩))
      go_ret
      exact ⟨rfl, rfl⟩
    · go_enter Tryd.func86, Tryd.ntmps86
      go_wp2_with (first | (go_at_call 92; refine (impl_in _ _ _ _).mono ?_; rintro e w' ⟨rfl, rfl⟩) | (go_at_call 101; refine (impl_isPrintableT _ _ ht').mono ?_; rintro e w' ⟨rfl, rfl⟩) | (go_at_call 102; refine (contains_one _ _ _).mono ?_; rintro e w' ⟨rfl, rfl⟩))
      go_ret
      exact ⟨ret_bool (by simp), rfl⟩

theorem impl_areWords (A : Option Addr) (cap : Nat) (l : List ByteArray) (w : World) (hr : Reads w w.heap.size 1 A l.length (strsV l)) (hn : l.length ≤ 8388608) (ht : ∀ t ∈ l, t.size ≤ maxLen) :
    Calls Tryd.prog 56 #[.slice A l.length cap] w fun e w' => e = .returned (.bool (wordsB l)) ∧ Below w.heap.size w w' := by
  have hc := all_str 86 wordB A cap l w hr hn (fun args W => run_enter Tryd.func86 (by kernel_rfl) rfl args W) (fun x hx W => impl_isListWord x W (ht x hx))
  have HC := Lib.hid hc
  clear hc ht
  by_cases hl : l.length ≤ 40
  · go_enter Tryd.func56, Tryd.ntmps56
    go_wp2_with fail
    refine HC.out.mono ?_
    rintro e w' ⟨rfl, hb⟩
    go_wp2
    go_ret
    exact ⟨ret_bool (by simp [wordsB, hl]), hb⟩
  · go_enter Tryd.func56, Tryd.ntmps56
    go_wp2
    go_ret
    exact ⟨ret_bool (by simp [wordsB]; omega), Below.refl _ _⟩

theorem partsV_size (c : UInt8) (s : ByteArray) : ∀ p ∈ partsV c s, p.size ≤ s.size := by
  intro p hp
  unfold partsV at hp
  obtain ⟨q, hq, rfl⟩ := List.mem_map.1 hp
  have h1 : ∀ (l : List UInt8), ∀ q ∈ parts c l, q.length ≤ l.length := by
    intro l
    induction l with
    | nil => simp [parts]
    | cons d l ih =>
      unfold parts
      split
      · intro q hq
        rcases List.mem_cons.1 hq with rfl | hq
        · simp
        · have := ih q hq
          simp; omega
      · cases h : parts c l with
        | nil => exact absurd h (parts_ne c l)
        | cons r rs =>
          rw [h] at ih
          intro q hq
          rcases List.mem_cons.1 hq with rfl | hq
          · have := ih r (by simp)
            simp; omega
          · have := ih q (by simp [hq])
            simp; omega
  exact h1 _ q hq
theorem partsV_length (c : UInt8) (s : ByteArray) : (partsV c s).length ≤ s.size + 1 := by
  have h1 := parts_count c s.data.toList
  have h2 : s.data.toList.count c ≤ s.data.toList.length := List.count_le_length
  have h3 : s.data.toList.length = s.size := rfl
  unfold partsV
  rw [List.length_map]
  omega

theorem impl_isTurnText (t : ByteArray) (w : World) (ht : t.size ≤ 4194304) (hm : MaxOk w) :
    Calls Tryd.prog 33 #[.string t] w fun e w' => e = .returned (.bool (textB t)) ∧ Below w.heap.size w w' := by
  by_cases hs : t.size ≤ 2000
  · have HM := Lib.hid hm
    have hl := partsV_length 32 t
    have HS := Lib.hid (partsV_size 32 t)
    clear hm
    go_enter Tryd.func33, Tryd.ntmps33
    go_wp2_with fail
    refine (impl_Split t 32 _ ht HM.out).mono ?_
    rintro e w1 ⟨v, rfl, o1, b1⟩
    obtain ⟨A1, c1, rfl, r1, -, -⟩ := o1.slice
    go_wp2_with fail
    refine (impl_areWords A1 c1 (partsV 32 t) _ r1 (by omega) (fun x hx => by have := HS.out x hx; unfold maxLen; omega)).mono ?_
    rintro e w2 ⟨rfl, b2⟩
    go_wp2
    go_ret
    exact ⟨ret_bool (by simp [textB, hs]), b1.trans (b2.mono b1.size)⟩
  · have hs' : t.size ≤ 9223372036854775807 := by omega
    go_enter Tryd.func33, Tryd.ntmps33
    go_wp2
    go_ret
    exact ⟨ret_bool (by simp [textB]; omega), Below.refl _ _⟩

theorem impl_isTurn (c : TurnD) (w : World) (h1 : c.1.size ≤ 4194304) (h2 : c.2.size ≤ 4194304) (hm : MaxOk w) :
    Calls Tryd.prog 47 #[.agg #[.string c.1, .string c.2]] w fun e w' => e = .returned (.bool (turnB c)) ∧ Below w.heap.size w w' := by
  obtain ⟨s, t⟩ := c
  simp only at h1 h2 ⊢
  have hb0 : Below w.heap.size w (w.alloc (.cells #[.string s, .string t] 52)) := (Below.refl _ _).alloc (Nat.le_refl _) _
  have HM := Lib.hid (hm.below hb0)
  clear hm
  cases hs : speakerB s
  · go_enter Tryd.func47, Tryd.ntmps47
    go_wp2_with (go_at_call 68; refine (impl_isSpeaker s _ (by unfold maxLen; omega)).mono ?_; rintro e w' ⟨rfl, rfl⟩)
    go_ret
    exact ⟨ret_bool (by simp [turnB, hs]), hb0⟩
  · go_enter Tryd.func47, Tryd.ntmps47
    go_wp2_with fail
    refine (impl_isSpeaker s _ (by unfold maxLen; omega)).mono ?_
    rw [hs]
    rintro e w' ⟨rfl, rfl⟩
    go_wp2_with fail
    refine (impl_isTurnText t _ h2 HM.out).mono ?_
    rintro e w2 ⟨rfl, b2⟩
    go_wp2
    go_ret
    exact ⟨ret_bool (by simp [turnB, hs]), hb0.trans (b2.mono (by simp))⟩

/-! ### all over turns -/
set_option maxHeartbeats 1000000 in
theorem IndexFunc_turn (f : Nat) (caps : Array Value) (p : TurnD → Bool) (A : Option Addr) (cap : Nat) (l : List TurnD) (w : World) (hr : Reads w w.heap.size 2 A l.length (turnsV l)) (hn : l.length ≤ 8388608)
    (hcall : ∀ x ∈ l, ∀ W, Below w.heap.size w W → Calls Tryd.prog f (#[.agg #[.string x.1, .string x.2]] ++ caps) W fun e w' => e = .returned (.bool (p x)) ∧ Below W.heap.size W w')
    (hin : ∀ args W, (callFunc f args).run Tryd.prog W = .ok (.enter f args) W) :
    Calls Tryd.prog 91 #[.slice A l.length cap, .func (.func f) #[] caps] w fun e w' => ∃ i : Int, e = .returned (.int .i64 i) ∧ (decide (0 ≤ i) = l.any p) ∧ Below w.heap.size w w' := by
  have HC := Lib.hid hcall
  clear hcall
  go_enter Tryd.func91, Tryd.ntmps91
  go_wp2
  go_loopw [8] (fun i wr => ∃ k : Nat, k ≤ l.length ∧ i = .int .i64 k ∧ (∀ j x, j < k → l[j]? = some x → p x = false) ∧ Below w.heap.size w wr)
    (fun i _ => l.length - (intOf i).toNat)
  case atStart => exact ⟨0, Nat.zero_le _, rfl, fun j _ hj => absurd hj (Nat.not_lt_zero _), Below.refl _ _⟩
  case round =>
    obtain ⟨k, hk, rfl, hall, hb⟩ := hrel
    have HA := Lib.hid hall
    clear hall
    by_cases hlt : k < l.length
    · obtain ⟨b, off, rfl, hb0, hc⟩ := (hr.below hb).2 (by omega)
      obtain ⟨⟨s, t⟩, hx⟩ := some_at l hlt
      obtain ⟨c1, c2⟩ := Reads.turn hc hx
      have HX := Lib.hid hx
      have HD := Lib.hid (HC.out _ (List.mem_of_getElem? hx) _ hb)
      clear hx hc
      cases hp : p (s, t)
      · go_wp2_with fail
        refine HD.out.mono ?_
        rintro e w' ⟨rfl, b2⟩
        rw [hp]
        go_wp2
        go_roundw
        case rel => exact ⟨k + 1, by omega, by go_num, fun j y hj hy => by
          rcases Nat.lt_or_ge j k with h | h
          · exact HA.out j y h hy
          · obtain rfl : j = k := by omega
            rw [HX.out] at hy
            rw [← Option.some.inj hy]; exact hp, hb.trans (b2.mono hb.size)⟩
        case measure => simp [intOf]; omega
      · go_wp2_with fail
        refine HD.out.mono ?_
        rintro e w' ⟨rfl, b2⟩
        rw [hp]
        go_wp2
        go_ret
        refine ⟨_, rfl, ?_, hb.trans (b2.mono hb.size)⟩
        have : l.any p = true := List.any_eq_true.2 ⟨_, List.mem_of_getElem? HX.out, hp⟩
        rw [this]
        simp
    · obtain rfl : k = l.length := by omega
      go_wp2
      go_ret
      refine ⟨_, rfl, ?_, hb⟩
      have : l.any p = false := by
        rw [List.any_eq_false]
        intro x hx
        obtain ⟨j, hj⟩ := List.mem_iff_getElem?.1 hx
        rw [HA.out j x (List.getElem?_eq_some_iff.1 hj).1 hj]
        simp
      rw [this]
      rfl
theorem ContainsFunc_turn (f : Nat) (caps : Array Value) (p : TurnD → Bool) (A : Option Addr) (cap : Nat) (l : List TurnD) (w : World) (hr : Reads w w.heap.size 2 A l.length (turnsV l)) (hn : l.length ≤ 8388608)
    (hcall : ∀ x ∈ l, ∀ W, Below w.heap.size w W → Calls Tryd.prog f (#[.agg #[.string x.1, .string x.2]] ++ caps) W fun e w' => e = .returned (.bool (p x)) ∧ Below W.heap.size W w')
    (hin : ∀ args W, (callFunc f args).run Tryd.prog W = .ok (.enter f args) W) :
    Calls Tryd.prog 66 #[.slice A l.length cap, .func (.func f) #[] caps] w fun e w' => e = .returned (.bool (l.any p)) ∧ Below w.heap.size w w' := by
  have HH := Lib.hid (IndexFunc_turn f caps p A cap l w hr hn hcall hin)
  clear hcall hin
  go_enter Tryd.func66, Tryd.ntmps66
  go_wp2_with fail
  refine HH.out.mono ?_
  rintro e w' ⟨i, rfl, hi, b1⟩
  have HI := Lib.hid hi
  clear hi
  go_wp2
  go_ret
  exact ⟨ret_bool HI.out, b1⟩
theorem all1_turn (f : Nat) (p : TurnD → Bool) (x : TurnD) (a : Addr) (w : World) (ha : w.cell? a = some (.func (.func f) #[] #[]))
    (hin : ∀ args W, (callFunc f args).run Tryd.prog W = .ok (.enter f args) W)
    (hcall : ∀ W, Below w.heap.size w W → Calls Tryd.prog f #[.agg #[.string x.1, .string x.2]] W fun e w' => e = .returned (.bool (p x)) ∧ Below W.heap.size W w') :
    Calls Tryd.prog 67 #[.agg #[.string x.1, .string x.2], .pointer (some a)] w fun e w' => e = .returned (.bool (!p x)) ∧ Below w.heap.size w w' := by
  obtain ⟨s, t⟩ := x
  simp only at hcall ⊢
  have hb0 : Below w.heap.size w (w.alloc (.cells #[.string s, .string t] 52)) := (Below.refl _ _).alloc (Nat.le_refl _) _
  have ha2 : (w.alloc (.cells #[.string s, .string t] 52)).cell? a = some (.func (.func f) #[] #[]) := (hb0.cell (World.block_lt_of_cell? w _ ha)).trans ha
  have HC := Lib.hid (hcall _ hb0)
  clear hcall
  go_enter Tryd.func67, Tryd.ntmps67
  go_wp2_with fail
  refine HC.out.mono ?_
  rintro e w' ⟨rfl, b1⟩
  go_wp2
  go_ret
  exact ⟨rfl, hb0.trans (b1.mono (by simp))⟩
theorem all_turn (f : Nat) (p : TurnD → Bool) (A : Option Addr) (cap : Nat) (l : List TurnD) (w : World) (hr : Reads w w.heap.size 2 A l.length (turnsV l)) (hn : l.length ≤ 8388608)
    (hin : ∀ args W, (callFunc f args).run Tryd.prog W = .ok (.enter f args) W)
    (hcall : ∀ x ∈ l, ∀ W, Below w.heap.size w W → Calls Tryd.prog f #[.agg #[.string x.1, .string x.2]] W fun e w' => e = .returned (.bool (p x)) ∧ Below W.heap.size W w') :
    Calls Tryd.prog 46 #[.slice A l.length cap, .func (.func f) #[] #[]] w fun e w' => e = .returned (.bool (l.all p)) ∧ Below w.heap.size w w' := by
  have hmf : ∀ (fn : Fn) (first cap : Array Value) (w : World), (Instr.makeFunc fn first cap).run Tryd.prog w = .ok (.func fn first cap) w := fun _ _ _ _ => rfl
  have hb : Below w.heap.size w (w.alloc (.cells #[.func (.func f) #[] #[]] 79)) := (Below.refl _ _).alloc (Nat.le_refl _) _
  have hc := ContainsFunc_turn 67 #[.pointer (some ⟨w.heap.size, 0, none⟩)] (fun x => !p x) A cap l (w.alloc (.cells #[.func (.func f) #[] #[]] 79)) ((hr.alloc (Nat.le_refl _) _).more (by simp)) hn
    (fun x hx W hW => all1_turn f p x _ W ((hW.cell (p := ⟨w.heap.size, 0, none⟩) (by simp)).trans (by simp [World.cell?_alloc_at])) hin (fun W' hW' => hcall x hx W' ((hb.trans (hW.mono (by simp))).trans (hW'.mono (by have := hW.size; simp at this; omega)))))
    (fun args W => run_enter Tryd.func67 (by kernel_rfl) rfl args W)
  have HC := Lib.hid hc
  clear hc hcall hin
  go_enter Tryd.func46, Tryd.ntmps46
  go_wp2_with fail
  refine HC.out.mono ?_
  rintro e w' ⟨rfl, b1⟩
  go_wp2
  go_ret
  exact ⟨ret_bool (by simp [List.all_eq_not_any_not]), hb.trans (b1.mono (by simp))⟩

/-- Strings of a transcript are not too long. -/
def ShortT (l : List TurnD) : Prop := ∀ c ∈ l, c.1.size ≤ 4194304 ∧ c.2.size ≤ 4194304

theorem impl_IsValidTranscript (A : Option Addr) (cap : Nat) (l : List TurnD) (w : World) (hr : Reads w w.heap.size 2 A l.length (turnsV l)) (hn : l.length ≤ 8388608) (ht : ShortT l) (hm : MaxOk w) :
    Calls Tryd.prog 21 #[.agg #[.slice A l.length cap]] w fun e w' => e = .returned (.bool (transB l)) ∧ Below w.heap.size w w' := by
  have hb0 : Below w.heap.size w (w.alloc (.cells #[.slice A l.length cap] 26)) := (Below.refl _ _).alloc (Nat.le_refl _) _
  have hc := all_turn 47 turnB A cap l (w.alloc (.cells #[.slice A l.length cap] 26)) ((hr.alloc (Nat.le_refl _) _).more (by simp)) hn (fun args W => run_enter Tryd.func47 (by kernel_rfl) rfl args W)
    (fun x hx W hW => impl_isTurn x W (ht x hx).1 (ht x hx).2 ((hm.below hb0).below hW))
  have HC := Lib.hid hc
  clear hc ht hm
  by_cases hl : l.length ≤ 30
  · go_enter Tryd.func21, Tryd.ntmps21
    go_wp2_with fail
    refine HC.out.mono ?_
    rintro e w' ⟨rfl, b1⟩
    go_wp2
    go_ret
    exact ⟨ret_bool (by simp [transB, hl]), hb0.trans (b1.mono (by simp))⟩
  · go_enter Tryd.func21, Tryd.ntmps21
    go_wp2
    go_ret
    exact ⟨ret_bool (by simp [transB]; omega), hb0⟩
end Go.Proofs.YthokekgdiebhjaaDoor
