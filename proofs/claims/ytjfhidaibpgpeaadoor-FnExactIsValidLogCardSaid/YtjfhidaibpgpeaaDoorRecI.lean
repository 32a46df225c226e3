/-
  Records: both IsValidRecord.
-/
import Derived.Test.YtjfhidaibpgpeaaDoorRec
import Derived.Test.YtjfhidaibpgpeaaDoorBase
import Derived.Test.YtjfhidaibpgpeaaDoorShelf
import Derived.Lib.IndexAny
namespace Go.Proofs.YtjfhidaibpgpeaaDoor
open Go.RowKit
set_option linter.unusedVariables false
set_option maxRecDepth 100000


/-! ### The program's -/
def printR (s : ByteArray) : Bool := s.data.toList.all fun c => decide (32 ≤ c.toNat) && decide (c.toNat ≤ 126)
theorem printR_no {s : ByteArray} {k : Nat} (h : k < s.size) (hc : ¬ ((32 : Int) ≤ (s[k].toNat : Int) ∧ (s[k].toNat : Int) ≤ 126)) : printR s = false := by
  cases hp : printR s
  · rfl
  · have := List.all_eq_true.1 hp s[k] (by
      have : s[k] = s.data.toList[k]'(by simpa using h) := rfl
      rw [this]; exact List.getElem_mem _)
    simp only [Bool.and_eq_true, decide_eq_true_eq] at this
    exact absurd ⟨by omega, by omega⟩ hc
theorem printR_yes {s : ByteArray} (h : ∀ j (hj : j < s.size), 32 ≤ s[j].toNat ∧ s[j].toNat ≤ 126) : printR s = true := by
  unfold printR
  rw [List.all_eq_true]
  intro c hc
  obtain ⟨j, hj, rfl⟩ := List.mem_iff_getElem.1 hc
  have := h j (by simpa using hj)
  simp only [Bool.and_eq_true, decide_eq_true_eq]
  exact this
theorem plain_print (s : ByteArray) : plainB s = (printR s && !hasB s 35) := by
  rw [Bool.eq_iff_iff]
  simp only [plainB, printR, hasB, recC, Bool.and_eq_true, Bool.not_eq_true', List.contains_eq_mem, decide_eq_false_iff_not, List.all_eq_true, decide_eq_true_eq, beq_eq_false_iff_ne, ne_eq]
  constructor
  · intro h
    exact ⟨fun c hc => (h c hc).1, fun hm => (h _ hm).2 rfl⟩
  · rintro ⟨h1, h2⟩ c hc
    exact ⟨h1 c hc, fun e => h2 (e ▸ hc)⟩

set_option maxHeartbeats 1000000 in
theorem impl_isPrintableR (t : ByteArray) (w : World) (ht : t.size ≤ maxLen) :
    Calls Tryd.prog 32 #[.string t] w fun e w' => e = .returned (.bool (printR t)) ∧ w = w' := by
  unfold maxLen at ht
  go_enter Tryd.func32, Tryd.ntmps32
  go_wp2
  go_loop [6] (fun i => ∃ k : Nat, k ≤ t.size ∧ i = .int .i64 k ∧ ∀ j (hj : j < t.size), j < k → 32 ≤ t[j].toNat ∧ t[j].toNat ≤ 126) (fun i => t.size - (intOf i).toNat)
  case atStart => exact ⟨0, Nat.zero_le _, rfl, fun j _ hj => absurd hj (Nat.not_lt_zero _)⟩
  case round =>
    obtain ⟨k, hk, rfl, hall⟩ := hrel
    have HA := Lib.hid hall
    clear hall
    by_cases hlt : k < t.size
    · by_cases h1 : (32 : Int) ≤ (t[k].toNat : Int)
      · by_cases h2 : (t[k].toNat : Int) ≤ 126
        · go_wp2
          go_round
          case rel => exact ⟨k + 1, by omega, by go_num, fun j hj hjk => by
            rcases Nat.lt_or_ge j k with h | h
            · exact HA.out j hj h
            · obtain rfl : j = k := by omega
              omega⟩
          case measure => simp [intOf]; omega
        · have HP := Lib.hid (printR_no hlt (by omega))
          go_wp2
          go_ret
          exact ⟨ret_bool (by simp [HP.out]), rfl⟩
      · have HP := Lib.hid (printR_no hlt (by omega))
        go_wp2
        go_ret
        exact ⟨ret_bool (by simp [HP.out]), rfl⟩
    · obtain rfl : k = t.size := by omega
      have HP := Lib.hid (printR_yes fun j hj => HA.out j hj hj)
      go_wp2
      go_ret
      exact ⟨ret_bool (by rw [HP.out]), rfl⟩
theorem contains_oneR (t : ByteArray) (c : UInt8) (w : World) : Calls Tryd.prog 34 #[.string t, .string ⟨#[c]⟩] w fun e w' => e = .returned (.bool (hasB t c)) ∧ w = w' :=
  (Tryd.strings_Contains_one t c w).mono fun e w' ⟨he, hw⟩ => ⟨by rw [he, has_byte]; rfl, hw.symm⟩

theorem indexAny_neg (l chars : List UInt8) : (Lib.indexAny l chars = -1) ∨ 0 ≤ Lib.indexAny l chars := by have := Lib.indexAny_ge chars l; omega
theorem indexAny_cons (b : UInt8) (l chars : List UInt8) : Lib.indexAny (b :: l) chars = if chars.contains b then 0 else if Lib.indexAny l chars == -1 then -1 else Lib.indexAny l chars + 1 := rfl
theorem containsAny_any (chars : List UInt8) : ∀ l, Lib.containsAny l chars = l.any (chars.contains ·)
  | [] => rfl
  | b :: l => by
    have ih := containsAny_any chars l
    unfold Lib.containsAny at ih ⊢
    rw [List.any_cons, ← ih, indexAny_cons]
    by_cases hc : chars.contains b = true
    · rw [if_pos hc, hc]; rfl
    · rw [if_neg hc]
      rw [Bool.not_eq_true] at hc
      rw [hc]
      rcases indexAny_neg l chars with h | h
      · rw [h]; rfl
      · rw [if_neg (by simp; omega), decide_eq_true h, decide_eq_true (by omega)]; rfl
theorem any_two (s : ByteArray) : Lib.containsAny s.data.toList [35, 62] = (hasB s 35 || hasB s 62) := by
  rw [containsAny_any, Bool.eq_iff_iff]
  simp only [hasB, List.any_eq_true, List.contains_eq_mem, Bool.or_eq_true, decide_eq_true_eq, List.mem_cons, List.not_mem_nil, or_false]
  constructor
  · rintro ⟨c, hc, rfl | rfl⟩
    · exact .inl hc
    · exact .inr hc
  · rintro (h | h)
    · exact ⟨_, h, .inl rfl⟩
    · exact ⟨_, h, .inr rfl⟩
theorem print_ascii {s : ByteArray} (h : printR s = true) : ∀ (j : Nat) b, s.data.toList[j]? = some b → b.toNat < 128 := by
  intro j b hb
  have := List.all_eq_true.1 h b (List.mem_of_getElem? hb)
  simp only [Bool.and_eq_true, decide_eq_true_eq] at this
  omega
theorem two_ascii : ∀ (j : Nat) (b : UInt8), (⟨#[35, 62]⟩ : ByteArray).data.toList[j]? = some b → b.toNat < 128 := by
  intro j b hb
  have := List.mem_of_getElem? hb
  simp at this
  rcases this with rfl | rfl <;> decide
/-- The program's way to say that a record is good. -/
theorem recB_impl (c r : ByteArray) : recB (c, r) = (inB c.size 1 90 && printR c && !(hasB c 35 || hasB c 62) && decide ((r.size : Int) ≤ 200) && printR r && !hasB r 35) := by
  rw [Bool.eq_iff_iff, rec_iff]
  simp only [plain_print, Bool.and_eq_true, inB_iff, Bool.not_eq_true', Bool.or_eq_false_iff, decide_eq_true_eq]
  have h62 : (62 : UInt8) ∉ c.data.toList ↔ hasB c 62 = false := by simp [hasB]
  rw [h62]
  constructor
  · rintro ⟨a, ⟨b, d⟩, f, g, ⟨h, i⟩, j⟩
    exact ⟨⟨⟨⟨⟨⟨by omega, by omega⟩, b⟩, d, g⟩, by omega⟩, h⟩, i⟩
  · rintro ⟨⟨⟨⟨⟨⟨a, b⟩, d⟩, f, g⟩, h⟩, i⟩, j⟩
    exact ⟨by omega, ⟨d, f⟩, by omega, g, ⟨i, j⟩, by omega⟩

set_option maxHeartbeats 2000000 in
theorem impl_IsValidRecord (c r : ByteArray) (w : World) (h1 : c.size ≤ 4194304) (h2 : r.size ≤ 4194304) :
    Calls Tryd.prog 21 #[.agg #[.string c, .string r]] w fun e w' => e = .returned (.bool (recB (c, r))) ∧ Below w.heap.size w w' := by
  have hb0 : Below w.heap.size w (w.alloc (.cells #[.string c, .string r] 27)) := (Below.refl _ _).alloc (Nat.le_refl _) _
  have t0 := Two.new w 27 (.string c) (.string r)
  have HR := Lib.hid (recB_impl c r)
  cases hi : inB c.size 1 90
  · go_enter Tryd.func21, Tryd.ntmps21
    go_wp2_with fail
    refine (impl_in _ _ _ _).mono ?_
    rw [hi]
    rintro e w' ⟨rfl, rfl⟩
    go_wp2
    go_ret
    exact ⟨ret_bool (by rw [HR.out, hi]; simp), hb0⟩
  cases hp : printR c
  · go_enter Tryd.func21, Tryd.ntmps21
    go_wp2_with fail
    refine (impl_in _ _ _ _).mono ?_
    rw [hi]
    rintro e w' ⟨rfl, rfl⟩
    go_wp2_with fail
    refine (impl_isPrintableR c _ (by unfold maxLen; omega)).mono ?_
    rw [hp]
    rintro e w' ⟨rfl, rfl⟩
    go_wp2
    go_ret
    exact ⟨ret_bool (by rw [HR.out, hp]; simp), hb0⟩
  have HAS := Lib.hid (print_ascii hp)
  have HAT := Lib.hid (any_two c)
  cases ha : (hasB c 35 || hasB c 62)
  case true =>
    go_enter Tryd.func21, Tryd.ntmps21
    go_wp2_with fail
    refine (impl_in _ _ _ _).mono ?_
    rw [hi]
    rintro e w' ⟨rfl, rfl⟩
    go_wp2_with fail
    refine (impl_isPrintableR c _ (by unfold maxLen; omega)).mono ?_
    rw [hp]
    rintro e w' ⟨rfl, rfl⟩
    go_wp2_with fail
    refine (Tryd.strings_ContainsAny_laid c ⟨#[35, 62]⟩ _ (by omega) (by decide) HAS.out two_ascii).mono ?_
    rw [show Lib.containsAny c.data.toList (⟨#[35, 62]⟩ : ByteArray).data.toList = true from HAT.out.trans ha]
    rintro e w2 ⟨rfl, b2⟩
    have B2 := hb0.trans (b2.mono hb0.size)
    go_wp2
    go_ret
    exact ⟨ret_bool (by rw [HR.out, ha]; simp), B2⟩
  by_cases hs : r.size ≤ 200
  case neg =>
    have j1 : ¬ (r.size : Int) ≤ 200 := by omega
    have HF := Lib.hid (show recB (c, r) = false by rw [HR.out, decide_eq_false j1]; simp)
    go_enter Tryd.func21, Tryd.ntmps21
    go_wp2_with fail
    refine (impl_in _ _ _ _).mono ?_
    rw [hi]
    rintro e w' ⟨rfl, rfl⟩
    go_wp2_with fail
    refine (impl_isPrintableR c _ (by unfold maxLen; omega)).mono ?_
    rw [hp]
    rintro e w' ⟨rfl, rfl⟩
    go_wp2_with fail
    refine (Tryd.strings_ContainsAny_laid c ⟨#[35, 62]⟩ _ (by omega) (by decide) HAS.out two_ascii).mono ?_
    rw [show Lib.containsAny c.data.toList (⟨#[35, 62]⟩ : ByteArray).data.toList = false from HAT.out.trans ha]
    rintro e w2 ⟨rfl, b2⟩
    have B2 := hb0.trans (b2.mono hb0.size)
    have c1 := (t0.far b2).cell1
    go_wp2
    go_ret
    exact ⟨ret_bool HF.out.symm, B2⟩
  have j1 : (r.size : Int) ≤ 200 := by omega
  have HD := Lib.hid (decide_eq_true j1)
  cases hq : printR r
  · go_enter Tryd.func21, Tryd.ntmps21
    go_wp2_with fail
    refine (impl_in _ _ _ _).mono ?_
    rw [hi]
    rintro e w' ⟨rfl, rfl⟩
    go_wp2_with fail
    refine (impl_isPrintableR c _ (by unfold maxLen; omega)).mono ?_
    rw [hp]
    rintro e w' ⟨rfl, rfl⟩
    go_wp2_with fail
    refine (Tryd.strings_ContainsAny_laid c ⟨#[35, 62]⟩ _ (by omega) (by decide) HAS.out two_ascii).mono ?_
    rw [show Lib.containsAny c.data.toList (⟨#[35, 62]⟩ : ByteArray).data.toList = false from HAT.out.trans ha]
    rintro e w2 ⟨rfl, b2⟩
    have B2 := hb0.trans (b2.mono hb0.size)
    have c1 := (t0.far b2).cell1
    go_wp2_with fail
    refine (impl_isPrintableR r _ (by unfold maxLen; omega)).mono ?_
    rw [hq]
    rintro e w' ⟨rfl, rfl⟩
    go_wp2
    go_ret
    exact ⟨ret_bool (by rw [HR.out, hq]; simp), B2⟩
  · go_enter Tryd.func21, Tryd.ntmps21
    go_wp2_with fail
    refine (impl_in _ _ _ _).mono ?_
    rw [hi]
    rintro e w' ⟨rfl, rfl⟩
    go_wp2_with fail
    refine (impl_isPrintableR c _ (by unfold maxLen; omega)).mono ?_
    rw [hp]
    rintro e w' ⟨rfl, rfl⟩
    go_wp2_with fail
    refine (Tryd.strings_ContainsAny_laid c ⟨#[35, 62]⟩ _ (by omega) (by decide) HAS.out two_ascii).mono ?_
    rw [show Lib.containsAny c.data.toList (⟨#[35, 62]⟩ : ByteArray).data.toList = false from HAT.out.trans ha]
    rintro e w2 ⟨rfl, b2⟩
    have B2 := hb0.trans (b2.mono hb0.size)
    have c1 := (t0.far b2).cell1
    go_wp2_with fail
    refine (impl_isPrintableR r _ (by unfold maxLen; omega)).mono ?_
    rw [hq]
    rintro e w' ⟨rfl, rfl⟩
    go_wp2_with fail
    refine (contains_oneR r 35 _).mono ?_
    rintro e w' ⟨rfl, rfl⟩
    go_wp2
    go_ret
    exact ⟨ret_bool (by rw [HR.out, hi, hp, ha, HD.out, hq]; simp), B2⟩
end Go.Proofs.YtjfhidaibpgpeaaDoor
