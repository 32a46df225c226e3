/-
  The reference's atoms: word text, validity, notation, parsing.
-/
import Derived.Test.YtekidodfcanjaaaGreatDoorDictPl
import Derived.Test.YtekidodfcanjaaaGreatDoorStrs
namespace Go.Proofs.YtekidodfcanjaaaGreatDoor
open Go.RowKit
set_option linter.unusedVariables false
set_option maxRecDepth 100000

theorem wordL_no {s : ByteArray} {k : Nat} (h : k < s.size) (hc : wordC s[k] = false) : wordL s.data.toList = false := by
  cases hw : wordL s.data.toList with
  | false => rfl
  | true =>
    simp only [wordL, Bool.and_eq_true, List.all_eq_true] at hw
    have hm : s[k] ∈ s.data.toList := by
      rw [Array.mem_toList_iff]
      exact Array.getElem_mem (by simpa using h)
    rw [hw.2 _ hm] at hc
    cases hc
theorem wordL_yes {s : ByteArray} (h : ∀ k (hk : k < s.size), wordC s[k] = true) : wordL s.data.toList = inB s.size 1 20 := by
  have ha : s.data.toList.all wordC = true := by
    rw [List.all_eq_true]
    intro c hc
    obtain ⟨j, hj, rfl⟩ := List.mem_iff_getElem.1 hc
    exact h j (by simpa using hj)
  have hl : s.data.toList.length = s.size := by simp
  unfold wordL inB
  rw [ha, hl, Bool.and_true]
  congr 1 <;> exact decide_eq_decide.2 (by omega)
/-- The byte's tests, one by one. -/
theorem wordC_iff (c : UInt8) : wordC c = true ↔ (33 : Int) ≤ (c.toNat : Int) ∧ (c.toNat : Int) ≤ 126 ∧ c ≠ 123 ∧ c ≠ 125 ∧ c ≠ 94 ∧ c ≠ 38 ∧ c ≠ 35 ∧ c ≠ 62 := by
  have h1 : (33 : Int) ≤ (c.toNat : Int) ↔ 33 ≤ c.toNat := by omega
  have h2 : (c.toNat : Int) ≤ 126 ↔ c.toNat ≤ 126 := by omega
  rw [h1, h2]
  simp [wordC, signs, and_assoc]
theorem byte_int {c d : UInt8} : ((c.toNat : Int) == (d.toNat : Int)) = decide (c = d) := by
  rw [Bool.eq_iff_iff]
  simp only [beq_iff_eq, decide_eq_true_eq]
  constructor
  · intro h
    exact UInt8.toNat_inj.1 (by omega)
  · intro h
    rw [h]

theorem byte_cases (x : Int) : (x = 123) ∨ (x ≠ 123 ∧ x = 125) ∨ (x ≠ 123 ∧ x ≠ 125 ∧ x = 94) ∨ (x ≠ 123 ∧ x ≠ 125 ∧ x ≠ 94 ∧ x = 38) ∨ (x ≠ 123 ∧ x ≠ 125 ∧ x ≠ 94 ∧ x ≠ 38 ∧ x = 35) ∨ (x ≠ 123 ∧ x ≠ 125 ∧ x ≠ 94 ∧ x ≠ 38 ∧ x ≠ 35 ∧ x = 62) ∨ (x ≠ 123 ∧ x ≠ 125 ∧ x ≠ 94 ∧ x ≠ 38 ∧ x ≠ 35 ∧ x ≠ 62) := by omega
theorem wordC_not {c : UInt8} (h : inB (c.toNat : Int) 33 126 = false ∨ ((c.toNat : Int) = 123 ∨ (c.toNat : Int) = 125 ∨ (c.toNat : Int) = 94 ∨ (c.toNat : Int) = 38 ∨ (c.toNat : Int) = 35 ∨ (c.toNat : Int) = 62)) : wordC c = false := by
  cases hw : wordC c with
  | false => rfl
  | true =>
    obtain ⟨h1, h2, n1, n2, n3, n4, n5, n6⟩ := (wordC_iff c).1 hw
    rcases h with h | h
    · rw [inB_yes h1 h2] at h; cases h
    · have key : ∀ d : UInt8, (c.toNat : Int) = (d.toNat : Int) → c = d := fun d hd => UInt8.toNat_inj.1 (by omega)
      rcases h with h | h | h | h | h | h
      · exact absurd (key 123 h) n1
      · exact absurd (key 125 h) n2
      · exact absurd (key 94 h) n3
      · exact absurd (key 38 h) n4
      · exact absurd (key 35 h) n5
      · exact absurd (key 62 h) n6
theorem wordC_ok {c : UInt8} (h : (33 : Int) ≤ (c.toNat : Int) ∧ (c.toNat : Int) ≤ 126) (n1 : (c.toNat : Int) ≠ 123) (n2 : (c.toNat : Int) ≠ 125) (n3 : (c.toNat : Int) ≠ 94) (n4 : (c.toNat : Int) ≠ 38) (n5 : (c.toNat : Int) ≠ 35) (n6 : (c.toNat : Int) ≠ 62) : wordC c = true :=
  (wordC_iff c).2 ⟨h.1, h.2, fun e => n1 (by rw [e]; rfl), fun e => n2 (by rw [e]; rfl), fun e => n3 (by rw [e]; rfl), fun e => n4 (by rw [e]; rfl), fun e => n5 (by rw [e]; rfl), fun e => n6 (by rw [e]; rfl)⟩
set_option maxHeartbeats 4000000 in
theorem spec_l5Word (s : ByteArray) (w : World) (hs : s.size ≤ 1048576) :
    Calls Tryz.prog 137 #[.string s] w fun e w' => e = .returned (.bool (wordL s.data.toList)) ∧ w = w' := by
  go_enter Tryz.func137, Tryz.ntmps137
  go_wp2
  go_loop [3] (fun i => ∃ k : Nat, k ≤ s.size ∧ i = .int .i64 k ∧ ∀ j (hj : j < s.size), j < k → wordC s[j] = true) (fun i => s.size - (intOf i).toNat)
  case atStart => exact ⟨0, Nat.zero_le _, rfl, fun j _ hj => absurd hj (Nat.not_lt_zero _)⟩
  case round =>
    obtain ⟨k, hk, rfl, hall⟩ := hrel
    have HA := Lib.hid hall
    clear hall
    by_cases hlt : k < s.size
    · have HI := Lib.hid (wordC_iff s[k])
      have HN := Lib.hid (fun h : wordC s[k] = false => wordL_no hlt h)
      have u0 : (0 : Int) ≤ (s[k].toNat : Int) := by omega
      have u1 : (s[k].toNat : Int) ≤ 255 := by have := s[k].toNat_lt; omega
      have HC := Lib.hid (wordC_not (c := s[k]))
      cases hb : inB (s[k].toNat : Int) 33 126
      · have HW := Lib.hid (HN.out (HC.out (.inl hb)))
        go_wp2_with (go_at_call 66; refine (spec_l1In _ _ _ _).mono ?_; rw [hb]; rintro e w' ⟨rfl, rfl⟩)
        go_ret
        exact ⟨ret_bool HW.out.symm, rfl⟩
      · have HB := Lib.hid (inB_iff.1 hb)
        rcases byte_cases (s[k].toNat : Int) with e1 | ⟨n1, e2⟩ | ⟨n1, n2, e3⟩ | ⟨n1, n2, n3, e4⟩ | ⟨n1, n2, n3, n4, e5⟩ | ⟨n1, n2, n3, n4, n5, e6⟩ | ⟨n1, n2, n3, n4, n5, n6⟩
        · have HW := Lib.hid (HN.out (HC.out (.inr (by simp [e1]))))
          have p1 : 123 ≤ (s[k].toNat : Int) := by omega
          have p2 : (s[k].toNat : Int) ≤ 123 := by omega
          clear e1
          go_wp2_with (go_at_call 66; refine (spec_l1In _ _ _ _).mono ?_; rw [hb]; rintro e w' ⟨rfl, rfl⟩)
          go_ret
          exact ⟨ret_bool HW.out.symm, rfl⟩
        · have HW := Lib.hid (HN.out (HC.out (.inr (by simp [e2]))))
          have p1 : 125 ≤ (s[k].toNat : Int) := by omega
          have p2 : (s[k].toNat : Int) ≤ 125 := by omega
          clear e2
          go_wp2_with (go_at_call 66; refine (spec_l1In _ _ _ _).mono ?_; rw [hb]; rintro e w' ⟨rfl, rfl⟩)
          go_ret
          exact ⟨ret_bool HW.out.symm, rfl⟩
        · have HW := Lib.hid (HN.out (HC.out (.inr (by simp [e3]))))
          have p1 : 94 ≤ (s[k].toNat : Int) := by omega
          have p2 : (s[k].toNat : Int) ≤ 94 := by omega
          clear e3
          go_wp2_with (go_at_call 66; refine (spec_l1In _ _ _ _).mono ?_; rw [hb]; rintro e w' ⟨rfl, rfl⟩)
          go_ret
          exact ⟨ret_bool HW.out.symm, rfl⟩
        · have HW := Lib.hid (HN.out (HC.out (.inr (by simp [e4]))))
          have p1 : 38 ≤ (s[k].toNat : Int) := by omega
          have p2 : (s[k].toNat : Int) ≤ 38 := by omega
          clear e4
          go_wp2_with (go_at_call 66; refine (spec_l1In _ _ _ _).mono ?_; rw [hb]; rintro e w' ⟨rfl, rfl⟩)
          go_ret
          exact ⟨ret_bool HW.out.symm, rfl⟩
        · have HW := Lib.hid (HN.out (HC.out (.inr (by simp [e5]))))
          have p1 : 35 ≤ (s[k].toNat : Int) := by omega
          have p2 : (s[k].toNat : Int) ≤ 35 := by omega
          clear e5
          go_wp2_with (go_at_call 66; refine (spec_l1In _ _ _ _).mono ?_; rw [hb]; rintro e w' ⟨rfl, rfl⟩)
          go_ret
          exact ⟨ret_bool HW.out.symm, rfl⟩
        · have HW := Lib.hid (HN.out (HC.out (.inr (by simp [e6]))))
          have p1 : 62 ≤ (s[k].toNat : Int) := by omega
          have p2 : (s[k].toNat : Int) ≤ 62 := by omega
          clear e6
          go_wp2_with (go_at_call 66; refine (spec_l1In _ _ _ _).mono ?_; rw [hb]; rintro e w' ⟨rfl, rfl⟩)
          · go_ret
            exact ⟨ret_bool HW.out.symm, rfl⟩
          · exfalso
            rename_i hx
            simp only [beq_eq_false_iff_ne, ne_eq] at hx
            omega
        · have HY := Lib.hid (wordC_ok HB.out n1 n2 n3 n4 n5 n6)
          have HNS := Lib.hid (And.intro n1 (And.intro n2 (And.intro n3 (And.intro n4 (And.intro n5 n6)))))
          clear n1 n2 n3 n4 n5 n6
          go_wp2_with (go_at_call 66; refine (spec_l1In _ _ _ _).mono ?_; rw [hb]; rintro e w' ⟨rfl, rfl⟩)
          all_goals try (exfalso; have hn := HNS.out; first | omega | (rename_i hx; simp only [beq_iff_eq] at hx; omega))
          go_round
          case rel => exact ⟨k + 1, by omega, by go_num, fun j hj hjk => by
            rcases Nat.lt_or_ge j k with h | h
            · exact HA.out j hj h
            · obtain rfl : j = k := by omega
              exact HY.out⟩
          case measure => simp [intOf]; omega
    · obtain rfl : k = s.size := by omega
      have HP := Lib.hid (wordL_yes fun j hj => HA.out j hj hj)
      go_wp2_with (go_at_call 66; refine (spec_l1In _ _ _ _).mono ?_; rintro e w' ⟨rfl, rfl⟩)
      go_ret
      exact ⟨ret_bool HP.out.symm, rfl⟩
end Go.Proofs.YtekidodfcanjaaaGreatDoor
