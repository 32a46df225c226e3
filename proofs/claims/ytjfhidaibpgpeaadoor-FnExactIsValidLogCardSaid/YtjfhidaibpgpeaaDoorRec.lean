/-
  Records: the tests of both sides.
-/
import Derived.Test.YtjfhidaibpgpeaaDoorRecPl
import Derived.Test.YtjfhidaibpgpeaaDoorIn
namespace Go.Proofs.YtjfhidaibpgpeaaDoor
open Go.RowKit
set_option linter.unusedVariables false
set_option maxRecDepth 100000

theorem recC_iff (c : UInt8) : recC c = true ↔ inB (c.toNat : Int) 32 126 = true ∧ ¬ (c.toNat : Int) = 35 := by
  simp only [recC, Bool.and_eq_true, decide_eq_true_eq, Bool.not_eq_true', beq_eq_false_iff_ne, ne_eq, inB_iff]
  constructor
  · rintro ⟨⟨h1, h2⟩, h3⟩
    exact ⟨⟨by omega, by omega⟩, fun h => h3 (UInt8.toNat_inj.1 (by show c.toNat = 35; omega))⟩
  · rintro ⟨⟨h1, h2⟩, h3⟩
    exact ⟨⟨by omega, by omega⟩, fun h => h3 (by rw [h]; rfl)⟩
theorem plain_no {s : ByteArray} {k : Nat} (h : k < s.size) (hc : ¬ (inB (s[k].toNat : Int) 32 126 = true ∧ ¬ (s[k].toNat : Int) = 35)) : plainB s = false := by
  cases hp : plainB s
  · rfl
  · exact absurd ((recC_iff _).1 (List.all_eq_true.1 hp s[k] (by
      have : s[k] = s.data.toList[k]'(by simpa using h) := rfl
      rw [this]; exact List.getElem_mem _))) hc
theorem plain_yes {s : ByteArray} (h : ∀ j (hj : j < s.size), recC s[j] = true) : plainB s = true := by
  unfold plainB
  rw [List.all_eq_true]
  intro c hc
  obtain ⟨j, hj, rfl⟩ := List.mem_iff_getElem.1 hc
  exact h j (by simpa using hj)
set_option maxHeartbeats 2000000 in
theorem spec_l24Plain (s : ByteArray) (M : Int) (w : World) (hs : s.size ≤ 4194304) :
    Calls Tryd.prog 28 #[.string s, .int .i64 M] w fun e w' => e = .returned (.bool (plainB s && decide ((s.size : Int) ≤ M))) ∧ w = w' := by
  go_enter Tryd.func28, Tryd.ntmps28
  go_wp2
  go_loop [5] (fun i => ∃ k : Nat, k ≤ s.size ∧ i = .int .i64 k ∧ ∀ j (hj : j < s.size), j < k → recC s[j] = true) (fun i => s.size - (intOf i).toNat)
  case atStart => exact ⟨0, Nat.zero_le _, rfl, fun j _ hj => absurd hj (Nat.not_lt_zero _)⟩
  case round =>
    obtain ⟨k, hk, rfl, hall⟩ := hrel
    have HA := Lib.hid hall
    clear hall
    by_cases hlt : k < s.size
    · have HI := Lib.hid (recC_iff s[k])
      have HN := Lib.hid (plain_no hlt)
      have u0 : (0 : Int) ≤ (s[k].toNat : Int) := by omega
      have u1 : (s[k].toNat : Int) ≤ 255 := by have := s[k].toNat_lt; omega
      cases hb : inB (s[k].toNat : Int) 32 126
      · have HW := Lib.hid (HN.out (by rw [hb]; simp))
        go_wp2_with (go_at_call 17; refine (spec_l1In _ _ _ _).mono ?_; rw [hb]; rintro e w' ⟨rfl, rfl⟩)
        go_ret
        exact ⟨ret_bool (by rw [HW.out]; rfl), rfl⟩
      · by_cases h35 : (s[k].toNat : Int) = 35
        · have HW := Lib.hid (HN.out (by simp [h35]))
          have e1 : ((s[k].toNat : Int) == 35) = true := by simp [h35]
          clear h35
          go_wp2_with (go_at_call 17; refine (spec_l1In _ _ _ _).mono ?_; rw [hb]; rintro e w' ⟨rfl, rfl⟩)
          go_ret
          exact ⟨ret_bool (by rw [HW.out]; rfl), rfl⟩
        · have HW := Lib.hid (HI.out.2 ⟨hb, h35⟩)
          have e1 : ((s[k].toNat : Int) == 35) = false := by simp [h35]
          clear h35
          go_wp2_with (go_at_call 17; refine (spec_l1In _ _ _ _).mono ?_; rw [hb]; rintro e w' ⟨rfl, rfl⟩)
          go_round
          case rel => exact ⟨k + 1, by omega, by go_num, fun j hj hjk => by
            rcases Nat.lt_or_ge j k with h | h
            · exact HA.out j hj h
            · obtain rfl : j = k := by omega
              exact HW.out⟩
          case measure => simp [intOf]; omega
    · obtain rfl : k = s.size := by omega
      have HP := Lib.hid (plain_yes fun j hj => HA.out j hj hj)
      go_wp2
      go_ret
      exact ⟨ret_bool (by rw [HP.out]; simp), rfl⟩

/-- Whether a byte stands in a text. -/
def hasB (s : ByteArray) (c : UInt8) : Bool := s.data.toList.contains c
theorem contains_no {s : ByteArray} {c : UInt8} (h : ∀ j (hj : j < s.size), s[j] ≠ c) : hasB s c = false := by
  simp only [hasB, List.contains_eq_mem, decide_eq_false_iff_not]
  intro hm
  obtain ⟨j, hj, rfl⟩ := List.mem_iff_getElem.1 hm
  exact h j (by simpa using hj) rfl
theorem contains_yes {s : ByteArray} {c : UInt8} {k : Nat} (h : k < s.size) (hc : s[k] = c) : hasB s c = true := by
  simp only [hasB, List.contains_eq_mem, decide_eq_true_eq]
  have : s[k] = s.data.toList[k]'(by simpa using h) := rfl
  rw [← hc, this]
  exact List.getElem_mem _
set_option maxHeartbeats 1000000 in
theorem spec_l1Stands (s : ByteArray) (z : Int) (c : UInt8) (hz : z = (c.toNat : Int)) (w : World) (hs : s.size ≤ 4194304) :
    Calls Tryd.prog 29 #[.string s, .int .u8 z] w fun e w' => e = .returned (.bool (hasB s c)) ∧ w = w' := by
  subst hz
  go_enter Tryd.func29, Tryd.ntmps29
  go_wp2
  go_loop [5] (fun i => ∃ k : Nat, k ≤ s.size ∧ i = .int .i64 k ∧ ∀ j (hj : j < s.size), j < k → s[j] ≠ c) (fun i => s.size - (intOf i).toNat)
  case atStart => exact ⟨0, Nat.zero_le _, rfl, fun j _ hj => absurd hj (Nat.not_lt_zero _)⟩
  case round =>
    obtain ⟨k, hk, rfl, hall⟩ := hrel
    have HA := Lib.hid hall
    clear hall
    by_cases hlt : k < s.size
    · by_cases hc : s[k] = c
      · have he : ((s[k].toNat : Int) == (c.toNat : Int)) = true := by rw [hc]; simp
        have HY := Lib.hid (contains_yes hlt hc)
        clear hc
        go_wp2
        go_ret
        exact ⟨ret_bool HY.out.symm, rfl⟩
      · have he : ((s[k].toNat : Int) == (c.toNat : Int)) = false := by
          rw [beq_eq_false_iff_ne]
          intro h
          exact hc (UInt8.toNat_inj.1 (by omega))
        have HC := Lib.hid hc
        clear hc
        go_wp2
        go_round
        case rel => exact ⟨k + 1, by omega, by go_num, fun j hj hjk => by
          rcases Nat.lt_or_ge j k with h | h
          · exact HA.out j hj h
          · obtain rfl : j = k := by omega
            exact HC.out⟩
        case measure => simp [intOf]; omega
    · obtain rfl : k = s.size := by omega
      have HN := Lib.hid (contains_no fun j hj => HA.out j hj hj)
      go_wp2
      go_ret
      exact ⟨ret_bool HN.out.symm, rfl⟩

theorem ne_empty_bool (x : ByteArray) : (!x.toList.isEmpty) = decide (x.size ≠ 0) := by
  rw [ByteArray.toList_eq]
  obtain ⟨⟨l⟩⟩ := x
  cases l with
  | nil => rfl
  | cons a l => rfl
theorem eq_empty_bool (x : ByteArray) : x.toList.isEmpty = decide (x.size = 0) := by
  rw [ByteArray.toList_eq]
  obtain ⟨⟨l⟩⟩ := x
  cases l with
  | nil => rfl
  | cons a l => rfl

set_option maxHeartbeats 2000000 in
theorem spec_l24Good (c r : ByteArray) (w : World) (h1 : c.size ≤ 4194304) (h2 : r.size ≤ 4194304) :
    Calls Tryd.prog 18 #[.agg #[.string c, .string r]] w fun e w' => e = .returned (.bool (recB (c, r))) ∧ Below w.heap.size w w' := by
  have hb0 : Below w.heap.size w (w.alloc (.cells #[.string c, .string r] 27)) := (Below.refl _ _).alloc (Nat.le_refl _) _
  have HR := Lib.hid (show recB (c, r) = (decide (c.size ≠ 0) && (plainB c && decide ((c.size : Int) ≤ 90)) && !hasB c 62 && (plainB r && decide ((r.size : Int) ≤ 200))) by
    simp only [recB, hasB]
    congr 1
    · congr 2
      congr 1
      exact decide_eq_decide.2 (by omega)
    · congr 1
      exact decide_eq_decide.2 (by omega))
  by_cases hz : c.size = 0
  · have he : c.toList.isEmpty = true := by rw [eq_empty_bool]; simpa using hz
    have he2 : (!c.toList.isEmpty) = false := by rw [he]; rfl
    have HZ := Lib.hid hz
    clear hz
    go_enter Tryd.func18, Tryd.ntmps18
    go_wp2
    go_ret
    exact ⟨ret_bool (by rw [HR.out]; simp [HZ.out]), hb0⟩
  · have he : c.toList.isEmpty = false := by rw [eq_empty_bool]; simpa using hz
    have he2 : (!c.toList.isEmpty) = true := by rw [he]; rfl
    have he3 : ¬ c.toList = [] := by simpa using he
    have HZ := Lib.hid hz
    clear hz
    cases hp : (plainB c && decide ((c.size : Int) ≤ 90))
    · go_enter Tryd.func18, Tryd.ntmps18
      go_wp2_with (go_at_call 28; refine (spec_l24Plain c _ _ h1).mono ?_; rw [hp]; rintro e w' ⟨rfl, rfl⟩)
      go_ret
      exact ⟨ret_bool (by rw [HR.out, hp]; simp), hb0⟩
    · cases hc : hasB c 62
      · go_enter Tryd.func18, Tryd.ntmps18
        go_wp2_with fail
        refine (spec_l24Plain c _ _ h1).mono ?_
        rw [hp]
        rintro e w' ⟨rfl, rfl⟩
        go_wp2_with fail
        refine (spec_l1Stands c _ 62 rfl _ h1).mono ?_
        rw [hc]
        rintro e w' ⟨rfl, rfl⟩
        go_wp2_with fail
        refine (spec_l24Plain r _ _ h2).mono ?_
        rintro e w' ⟨rfl, rfl⟩
        go_wp2
        go_ret
        exact ⟨ret_bool (by rw [HR.out, hp, hc]; simp [HZ.out]), hb0⟩
      · go_enter Tryd.func18, Tryd.ntmps18
        go_wp2_with fail
        refine (spec_l24Plain c _ _ h1).mono ?_
        rw [hp]
        rintro e w' ⟨rfl, rfl⟩
        go_wp2_with fail
        refine (spec_l1Stands c _ 62 rfl _ h1).mono ?_
        rw [hc]
        rintro e w' ⟨rfl, rfl⟩
        go_wp2
        go_ret
        exact ⟨ret_bool (by rw [HR.out, hc]; simp), hb0⟩
end Go.Proofs.YtjfhidaibpgpeaaDoor
