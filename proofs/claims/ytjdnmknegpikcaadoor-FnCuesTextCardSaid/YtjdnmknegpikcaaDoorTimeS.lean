/-
  The reference's ParseTime.
-/
import Derived.Test.YtjdnmknegpikcaaDoorTimePl
import Derived.Test.YtjdnmknegpikcaaDoorBase
import Derived.BigQuiet
namespace Go.Proofs.YtjdnmknegpikcaaDoor
open Go.RowKit
set_option linter.unusedVariables false
set_option linter.unusedSimpArgs false
set_option maxRecDepth 100000

def digB (c : UInt8) : Bool := decide (48 ≤ c.toNat) && decide (c.toNat ≤ 57)
def digF (l : List UInt8) : Nat := l.foldl (fun n c => 10 * n + (c.toNat - 48)) 0
theorem numD_eq (l : List UInt8) : numD l = if l.all digB then some (digF l) else none := rfl
def digN (l : List UInt8) : Int := match numD l with | some n => (n : Int) | none => -1
theorem digN_yes {l : List UInt8} (h : ∀ c ∈ l, digB c = true) : digN l = (digF l : Int) := by
  unfold digN
  rw [numD_eq, if_pos (List.all_eq_true.2 h)]
theorem digN_no {s : ByteArray} {k : Nat} (hk : k < s.size) (h : digB s[k] = false) : digN s.data.toList = -1 := by
  unfold digN
  rw [numD_eq, if_neg]
  intro ha
  have := List.all_eq_true.1 ha s[k] (by
    have : s[k] = s.data.toList[k]'(by simpa using hk) := rfl
    rw [this]; exact List.getElem_mem _)
  rw [h] at this
  cases this
theorem digF_snoc (l : List UInt8) (c : UInt8) : digF (l ++ [c]) = 10 * digF l + (c.toNat - 48) := by simp [digF, List.foldl_append]
theorem take_byteT {s : ByteArray} {k : Nat} (h : k < s.size) : s.data.toList.take (k + 1) = s.data.toList.take k ++ [s[k]] := by
  rw [List.take_succ_eq_append_getElem (by simpa using h)]
  rfl
theorem take_fullT (s : ByteArray) : s.data.toList.take s.size = s.data.toList := List.take_of_length_le (Nat.le_refl _)
theorem digit_bytes {s : ByteArray} (h : ∀ j (hj : j < s.size), digB s[j] = true) : ∀ c ∈ s.data.toList, digB c = true := by
  intro c hc
  obtain ⟨j, hj, rfl⟩ := List.mem_iff_getElem.1 hc
  exact h j (by simpa using hj)
theorem digN_bd (l : List UInt8) (hl : l.length ≤ 3) : -1 ≤ digN l ∧ digN l < 1000 := by
  unfold digN
  rw [numD_eq]
  split
  · rename_i n h
    split at h
    · injection h with h
      rename_i ha
      subst h
      have hb : ∀ c ∈ l, c.toNat ≤ 57 := fun c hc => by
        have := List.all_eq_true.1 ha c hc
        simp only [digB, Bool.and_eq_true, decide_eq_true_eq] at this
        exact this.2
      match l, hl, hb with
      | [], _, _ => exact ⟨by decide, by decide⟩
      | [a], _, hb => have h1 := hb a (by simp); show -1 ≤ ((10 * 0 + (a.toNat - 48) : Nat) : Int) ∧ ((10 * 0 + (a.toNat - 48) : Nat) : Int) < 1000; omega
      | [a, b], _, hb => have h1 := hb a (by simp); have h2 := hb b (by simp); simp only [digF, List.foldl]; omega
      | [a, b, c], _, hb => have h1 := hb a (by simp); have h2 := hb b (by simp); have h3 := hb c (by simp); simp only [digF, List.foldl]; omega
      | a :: b :: c :: d :: r, hl, _ => simp at hl
    · cases h
  · exact ⟨by decide, by decide⟩

theorem digB_lo {c : UInt8} (h : (c.toNat : Int) < 48) : digB c = false := by
  unfold digB
  rw [decide_eq_false (by omega)]; rfl
theorem digB_hi {c : UInt8} (h : (57 : Int) < (c.toNat : Int)) : digB c = false := by
  unfold digB
  rw [decide_eq_false (p := c.toNat ≤ 57) (by omega)]
  simp
theorem digB_in {c : UInt8} (h1 : ¬ (c.toNat : Int) < 48) (h2 : ¬ (57 : Int) < (c.toNat : Int)) : digB c = true := by
  unfold digB
  rw [decide_eq_true (by omega), decide_eq_true (by omega)]; rfl
set_option maxHeartbeats 2000000 in
theorem spec_l20Digits (s : ByteArray) (w : World) (hs : s.size ≤ 3) : Calls Tryd.prog 24 #[.string s] w fun e w' => e = .returned (.int .i64 (digN s.data.toList)) ∧ w = w' := by
  go_enter Tryd.func24, Tryd.ntmps24
  go_wp2
  go_loop [3, 4] (fun n i => ∃ k q : Nat, k ≤ s.size ∧ i = .int .i64 k ∧ n = .int .i64 q ∧ q = digF (s.data.toList.take k) ∧ ((k = 0 ∧ q = 0) ∨ (k = 1 ∧ q < 10) ∨ (k = 2 ∧ q < 100) ∨ (k = 3 ∧ q < 1000)) ∧ ∀ j (hj : j < s.size), j < k → digB s[j] = true) (fun _ i => s.size - (intOf i).toNat)
  case atStart => exact ⟨0, 0, Nat.zero_le _, rfl, rfl, rfl, .inl ⟨rfl, rfl⟩, fun j _ hj => absurd hj (Nat.not_lt_zero _)⟩
  case round =>
    obtain ⟨k, q, hk, rfl, rfl, hq, hbd, hall⟩ := hrel
    have HQ := Lib.hid hq
    have HA := Lib.hid hall
    have HBD := Lib.hid hbd
    have hq9 : q < 1000 := by omega
    clear hq hall
    by_cases hlt : k < s.size
    · have HS := Lib.hid (take_byteT hlt)
      have HN := Lib.hid (fun h => digN_no hlt h)
      have u0 : (0 : Int) ≤ (s[k].toNat : Int) := by omega
      have u1 : (s[k].toNat : Int) ≤ 255 := by have := s[k].toNat_lt; omega
      by_cases h1 : (s[k].toNat : Int) < 48
      · have HW := Lib.hid (HN.out (digB_lo h1))
        clear hbd
        go_wp2
        go_ret
        exact ⟨ret_int HW.out.symm, rfl⟩
      by_cases h2 : (57 : Int) < (s[k].toNat : Int)
      · have HW := Lib.hid (HN.out (digB_hi h2))
        clear hbd
        go_wp2
        go_ret
        exact ⟨ret_int HW.out.symm, rfl⟩
      have HD := Lib.hid (digB_in h1 h2)
      obtain ⟨c, hc⟩ : ∃ c : Nat, (s[k].toNat : Int) - 48 = c := ⟨s[k].toNat - 48, by omega⟩
      have hc2 : c = s[k].toNat - 48 := by omega
      have hq10 : q < 100 := by omega
      have HC := Lib.hid hc2
      clear hbd hc2
      go_wp2
      go_round
      case rel => exact ⟨k + 1, 10 * q + c, by omega, by go_num, by go_num, by rw [HS.out, digF_snoc, ← HQ.out, HC.out], by have := HBD.out; have := HC.out; omega, fun j hj hjk => by
        rcases Nat.lt_or_ge j k with h | h
        · exact HA.out j hj h
        · obtain rfl : j = k := by omega
          exact HD.out⟩
      case measure => simp [intOf]; omega
    · obtain rfl : k = s.size := by omega
      have HY := Lib.hid (digN_yes (digit_bytes fun j hj => HA.out j hj hj))
      have HF := Lib.hid (take_fullT s)
      clear hbd
      go_wp2
      go_ret
      exact ⟨ret_int (by rw [HY.out, HQ.out, HF.out]), rfl⟩

theorem ext_dataT (s : ByteArray) (a b : Nat) : (s.extract a b).data.toList = (s.data.toList.drop a).take (b - a) := by
  rw [ByteArray.data_extract]
  simp only [Array.toList_extract, List.extract_eq_take_drop]
theorem digN_some {l : List UInt8} {n : Nat} (h : numD l = some n) : digN l = n := by unfold digN; rw [h]
def ParseTS (l : List UInt8) (w : World) (x : Ending) (w' : World) : Prop := ∃ z b, x = .returned (.tuple #[.int .i64 z, .bool b]) ∧ TimeOk l z b ∧ Below w.heap.size w w'
theorem parseTS_no {l : List UInt8} {w w' : World} (h : ∀ t : Nat, t ≤ 99999999 → timeOf t ≠ l) (hb : Below w.heap.size w w') : ParseTS l w (.returned (.tuple #[.int .i64 0, .bool false])) w' := ⟨0, false, rfl, .inr ⟨rfl, rfl, h⟩, hb⟩
/-- What the reference adds up, at a time. -/
theorem time_digits {t : Nat} (h : t ≤ 99999999) {s : ByteArray} (hl : timeOf t = s.data.toList) (hs : s.size = 12) :
    digN (s.extract 0 2).data.toList = (t / 3600000 : Nat) ∧ digN (s.extract 3 5).data.toList = (t / 60000 % 60 : Nat) ∧ digN (s.extract 6 8).data.toList = (t / 1000 % 60 : Nat) ∧ digN (s.extract 9 12).data.toList = (t % 1000 : Nat) := by
  obtain ⟨-, h1, h2, h3, h4⟩ := time_read h hl
  rw [ext_dataT, ext_dataT, ext_dataT, ext_dataT]
  refine ⟨digN_some h1, digN_some h2, digN_some h3, ?_⟩
  have hl : (s.data.toList.drop 9).take (12 - 9) = s.data.toList.drop 9 := List.take_of_length_le (by
    have : s.data.toList.length = s.size := rfl
    rw [List.length_drop, this, hs]; exact Nat.le_refl _)
  rw [hl]
  exact digN_some h4

set_option maxHeartbeats 8000000 in
theorem spec_ParseTime (s : ByteArray) (w : World) (hs : s.size ≤ 4194304) : Calls Tryd.prog 6 #[.string s] w (ParseTS s.data.toList w) := by
  by_cases h12 : s.size = 12
  case neg =>
    have e1 : ((s.size : Int) != 12) = true := by simp; omega
    have HNO := Lib.hid (show ∀ t : Nat, t ≤ 99999999 → timeOf t ≠ s.data.toList from fun t ht he => h12 (time_read ht he).1)
    clear h12
    go_enter Tryd.func6, Tryd.ntmps6
    go_wp2
    go_ret2
    exact parseTS_no HNO.out (Below.refl _ _)
  have e1 : ((s.size : Int) != 12) = false := by simp; omega
  have k2 : (2 : Int) ≤ (s.size : Int) := by omega
  have k5 : (5 : Int) ≤ (s.size : Int) := by omega
  have k8 : (8 : Int) ≤ (s.size : Int) := by omega
  have k12 : (12 : Int) ≤ (s.size : Int) := by omega
  obtain ⟨a, hda⟩ : ∃ a, a = digN (s.extract 0 2).data.toList := ⟨_, rfl⟩
  obtain ⟨b, hdb⟩ : ∃ b, b = digN (s.extract 3 5).data.toList := ⟨_, rfl⟩
  obtain ⟨c, hdc⟩ : ∃ c, c = digN (s.extract 6 8).data.toList := ⟨_, rfl⟩
  obtain ⟨d, hdd⟩ : ∃ d, d = digN (s.extract 9 12).data.toList := ⟨_, rfl⟩
  have lena : ∀ i j, j - i ≤ 3 → (s.extract i j).data.toList.length ≤ 3 := fun i j hij => by rw [ext_dataT, List.length_take]; omega
  have ba := digN_bd _ (lena 0 2 (by omega)); rw [← hda] at ba
  have bb := digN_bd _ (lena 3 5 (by omega)); rw [← hdb] at bb
  have bc := digN_bd _ (lena 6 8 (by omega)); rw [← hdc] at bc
  have bd := digN_bd _ (lena 9 12 (by omega)); rw [← hdd] at bd
  have H0 := Lib.hid (fun W => (show Calls Tryd.prog 24 #[.string (s.extract 0 2)] W fun e w' => e = .returned (.int .i64 a) ∧ W = w' by rw [hda]; exact spec_l20Digits _ W (lena 0 2 (by omega))))
  have H3 := Lib.hid (fun W => (show Calls Tryd.prog 24 #[.string (s.extract 3 5)] W fun e w' => e = .returned (.int .i64 b) ∧ W = w' by rw [hdb]; exact spec_l20Digits _ W (lena 3 5 (by omega))))
  have H6 := Lib.hid (fun W => (show Calls Tryd.prog 24 #[.string (s.extract 6 8)] W fun e w' => e = .returned (.int .i64 c) ∧ W = w' by rw [hdc]; exact spec_l20Digits _ W (lena 6 8 (by omega))))
  have H9 := Lib.hid (fun W => (show Calls Tryd.prog 24 #[.string (s.extract 9 12)] W fun e w' => e = .returned (.int .i64 d) ∧ W = w' by rw [hdd]; exact spec_l20Digits _ W (lena 9 12 (by omega))))
  have HTD := Lib.hid (show ∀ t : Nat, t ≤ 99999999 → timeOf t = s.data.toList → a = (t / 3600000 : Nat) ∧ b = (t / 60000 % 60 : Nat) ∧ c = (t / 1000 % 60 : Nat) ∧ d = (t % 1000 : Nat) from fun t ht he => by
    rw [hda, hdb, hdc, hdd]
    exact time_digits ht he h12)
  clear hda hdb hdc hdd lena h12
  by_cases ng : a < 0 ∨ b < 0 ∨ c < 0 ∨ d < 0
  · have HNO := Lib.hid (show ∀ t : Nat, t ≤ 99999999 → timeOf t ≠ s.data.toList from fun t ht he => by
      obtain ⟨h1, h2, h3, h4⟩ := HTD.out t ht he
      omega)
    have hcase : (a < 0) ∨ (¬ a < 0 ∧ b < 0) ∨ (¬ a < 0 ∧ ¬ b < 0 ∧ c < 0) ∨ (¬ a < 0 ∧ ¬ b < 0 ∧ ¬ c < 0 ∧ d < 0) := by omega
    clear ng
    rcases hcase with h1 | ⟨h1, h2⟩ | ⟨h1, h2, h3⟩ | ⟨h1, h2, h3, h4⟩
    all_goals
      go_enter Tryd.func6, Tryd.ntmps6
      go_wp2
      go_quiet (first | (go_at_call 24; with_reducible exact quiet_left (H0.out _)) | (go_at_call 24; with_reducible exact quiet_left (H3.out _)) | (go_at_call 24; with_reducible exact quiet_left (H6.out _)) | (go_at_call 24; with_reducible exact quiet_left (H9.out _)))
      go_wp2
      go_ret2
      exact parseTS_no HNO.out (below_drewN (Below.refl _ _) _)
  have h1 : ¬ a < 0 := by omega
  have h2 : ¬ b < 0 := by omega
  have h3 : ¬ c < 0 := by omega
  have h4 : ¬ d < 0 := by omega
  obtain ⟨n, hn⟩ : ∃ n : Nat, a * 3600000 + b * 60000 + c * 1000 + d = n := ⟨(a * 3600000 + b * 60000 + c * 1000 + d).toNat, by omega⟩
  have HN := Lib.hid hn
  have hnb : n < 4000000000 := by omega
  clear ng hn
  go_enter Tryd.func6, Tryd.ntmps6
  go_wp2
  go_quiet (first | (go_at_call 24; with_reducible exact quiet_left (H0.out _)) | (go_at_call 24; with_reducible exact quiet_left (H3.out _)) | (go_at_call 24; with_reducible exact quiet_left (H6.out _)) | (go_at_call 24; with_reducible exact quiet_left (H9.out _)))
  have hn := HN.out
  by_cases h9 : n ≤ 99999999
  case neg =>
    have j1 : (99999999 : Int) < (n : Int) := by omega
    have HNO := Lib.hid (show ∀ t : Nat, t ≤ 99999999 → timeOf t ≠ s.data.toList from fun t ht he => by
      obtain ⟨h1, h2, h3, h4⟩ := HTD.out t ht he
      have := time_parts t
      omega)
    clear h9
    go_wp2
    go_ret2
    exact parseTS_no HNO.out (below_drewN (Below.refl _ _) _)
  have j1 : ¬ (99999999 : Int) < (n : Int) := by omega
  obtain ⟨X, hX⟩ : ∃ X : ByteArray, X = ⟨(timeOf n).toArray⟩ := ⟨_, rfl⟩
  have HX := Lib.hid (fun W => (show Calls Tryd.prog 25 #[.int .i64 n] W fun e w' => e = .returned (.string X) ∧ ∃ m, w' = W.drewN m by rw [hX]; exact spec_l20Time n W h9))
  have HXE := Lib.hid hX
  clear hX
  go_wp2_with fail
  refine (HX.out _).mono ?_
  rintro e w2 ⟨rfl, m2, rfl⟩
  by_cases hxs : X = s
  · have HYES := Lib.hid (show TimeOk s.data.toList n true from .inl ⟨rfl, n, rfl, h9, by rw [← hxs, HXE.out]⟩)
    subst hxs
    go_wp2
    go_ret2
    exact ⟨n, true, rfl, HYES.out, below_drewN (Below.refl _ _) _⟩
  · have hne := str_other hxs
    have HNO := Lib.hid (show ∀ t : Nat, t ≤ 99999999 → timeOf t ≠ s.data.toList from fun t ht he => by
      obtain ⟨h1, h2, h3, h4⟩ := HTD.out t ht he
      have h5 := time_parts t
      have h6 := HN.out
      refine hxs ?_
      rw [HXE.out, show n = t by omega, he])
    clear hxs
    go_wp2
    go_ret2
    exact parseTS_no HNO.out (below_drewN (Below.refl _ _) _)
end Go.Proofs.YtjdnmknegpikcaaDoor
