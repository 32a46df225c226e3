/-
  Checksums and the lines of a log: both sides.
-/
import Derived.Test.YtjfhidaibpgpeaaDoorRec
import Derived.Test.YtjfhidaibpgpeaaDoorNum
import Derived.Test.YtjfhidaibpgpeaaDoorBase
namespace Go.Proofs.YtjfhidaibpgpeaaDoor
open Go.RowKit
set_option linter.unusedVariables false
set_option maxRecDepth 100000

theorem take_byte' {s : ByteArray} {k : Nat} (h : k < s.size) : s.data.toList.take (k + 1) = s.data.toList.take k ++ [s[k]] := by
  rw [List.take_succ_eq_append_getElem (by simpa using h)]
  rfl
theorem take_full (s : ByteArray) : s.data.toList.take s.size = s.data.toList := List.take_of_length_le (Nat.le_refl _)

set_option maxHeartbeats 1000000 in
theorem spec_l1Sum (s : ByteArray) (w : World) (hs : s.size ≤ 4194304) :
    Calls Tryd.prog 40 #[.string s] w fun e w' => e = .returned (.int .i64 (sumL s.data.toList)) ∧ w = w' := by
  go_enter Tryd.func40, Tryd.ntmps40
  go_wp2
  go_loop [3, 4] (fun n i => ∃ k q : Nat, k ≤ s.size ∧ i = .int .i64 k ∧ n = .int .i64 q ∧ q = sumL (s.data.toList.take k)) (fun _ i => s.size - (intOf i).toNat)
  case atStart => exact ⟨0, 7, Nat.zero_le _, rfl, rfl, rfl⟩
  case round =>
    obtain ⟨k, q, hk, rfl, rfl, hq⟩ := hrel
    have hq9 : q < 999979 := by rw [hq]; exact sumL_lt _
    have HQ := Lib.hid hq
    clear hq
    by_cases hlt : k < s.size
    · have HS := Lib.hid (take_byte' hlt)
      have u0 : (0 : Int) ≤ (s[k].toNat : Int) := by omega
      have u1 : (s[k].toNat : Int) ≤ 255 := by have := s[k].toNat_lt; omega
      obtain ⟨c, hc⟩ : ∃ c : Nat, c = s[k].toNat := ⟨_, rfl⟩
      have hm : Int.tmod (41 * (q : Int) + (s[k].toNat : Int) + 1) 999979 = (((41 * q + s[k].toNat + 1) % 999979 : Nat) : Int) := by
        rw [Int.tmod_eq_emod_of_nonneg (by omega)]; omega
      have HC := Lib.hid hc
      clear hc
      go_wp2
      go_round
      case rel => exact ⟨k + 1, (41 * q + s[k].toNat + 1) % 999979, by omega, by go_num, by go_num, by rw [HS.out, sumL_snoc, ← HQ.out]⟩
      case measure => simp [intOf]; omega
    · obtain rfl : k = s.size := by omega
      go_wp2
      go_ret
      exact ⟨ret_int (by rw [HQ.out, take_full]), rfl⟩

set_option maxHeartbeats 1000000 in
theorem impl_Checksum (s : ByteArray) (w : World) (hs : s.size ≤ 4000) :
    Calls Tryd.prog 35 #[.string s] w fun e w' => e = .returned (.tuple #[.int .i64 (sumL s.data.toList), .bool true]) ∧ w = w' := by
  go_enter Tryd.func35, Tryd.ntmps35
  go_wp2
  go_loop [4, 11] (fun n i => ∃ k q : Nat, k ≤ s.size ∧ i = .int .i64 k ∧ n = .int .i64 q ∧ q = sumL (s.data.toList.take k)) (fun _ i => s.size - (intOf i).toNat)
  case atStart => exact ⟨0, 7, Nat.zero_le _, rfl, rfl, rfl⟩
  case round =>
    obtain ⟨k, q, hk, rfl, rfl, hq⟩ := hrel
    have hq9 : q < 999979 := by rw [hq]; exact sumL_lt _
    have HQ := Lib.hid hq
    clear hq
    by_cases hlt : k < s.size
    · have HS := Lib.hid (take_byte' hlt)
      have u0 : (0 : Int) ≤ (s[k].toNat : Int) := by omega
      have u1 : (s[k].toNat : Int) ≤ 255 := by have := s[k].toNat_lt; omega
      have hm : Int.tmod (41 * (q : Int) + (s[k].toNat : Int) + 1) 999979 = (((41 * q + s[k].toNat + 1) % 999979 : Nat) : Int) := by
        rw [Int.tmod_eq_emod_of_nonneg (by omega)]; omega
      go_wp2
      go_round
      case rel => exact ⟨k + 1, (41 * q + s[k].toNat + 1) % 999979, by omega, by go_num, by go_num, by rw [HS.out, sumL_snoc, ← HQ.out]⟩
      case measure => simp [intOf]; omega
    · obtain rfl : k = s.size := by omega
      have HF := Lib.hid (take_full s)
      go_wp2
      go_ret2
      have h1 := HQ.out
      rw [HF.out] at h1
      subst h1
      exact ⟨rfl, rfl⟩

theorem num_at (n : Nat) (D : List UInt8) (hD : D = Lib.decDigits n) (z : Int) (hz : z = n) (w : World) (hn : n ≤ 999999999) :
    Calls Tryd.prog 31 #[.int .i64 z] w fun e w' => e = .returned (.string ⟨D.toArray⟩) ∧ ∃ m, w' = w.drewN m := by
  subst hD hz
  exact spec_l1Num n w hn
def StrT (l : List UInt8) (w : World) (e : Ending) (w' : World) : Prop := e = .returned (.string ⟨l.toArray⟩) ∧ Below w.heap.size w w'
theorem seal_dec (l : List UInt8) : (Lib.decDigits (sumL l)).length ≤ 6 := dec_pow 5 _ (by have := sumL_lt l; omega)

set_option maxHeartbeats 1000000 in
theorem spec_l1Seal (s : ByteArray) (w : World) (hs : s.size ≤ 4194304) :
    Calls Tryd.prog 30 #[.string s] w fun e w' => e = .returned (.string ⟨(sealL s.data.toList).toArray⟩) ∧ ∃ m, w' = w.drewN m := by
  have hd := seal_dec s.data.toList
  have h9 := sumL_lt s.data.toList
  have HS := Lib.hid (show (⟨(sealL s.data.toList).toArray⟩ : ByteArray) = s ++ ⟨[35].toArray⟩ ++ ⟨(Lib.decDigits (sumL s.data.toList)).toArray⟩ by
    obtain ⟨⟨l⟩⟩ := s
    simp only [bytes_add]
    simp [sealL])
  obtain ⟨q, hq⟩ : ∃ q, q = sumL s.data.toList := ⟨_, rfl⟩
  rw [← hq] at hd h9
  obtain ⟨D, hD⟩ : ∃ D, D = Lib.decDigits q := ⟨_, rfl⟩
  rw [← hD] at hd
  have HN := Lib.hid (fun w => num_at q D hD q rfl w (by omega))
  have HD := Lib.hid hD
  have HQ := Lib.hid hq
  clear hD
  have y1 : ¬ (9223372036854775807 < s.size + 1) := by omega
  have y2 : ¬ (9223372036854775807 < s.size + 1 + D.length) := by omega
  go_enter Tryd.func30, Tryd.ntmps30
  go_wp2_with fail
  refine (spec_l1Sum s _ hs).mono ?_
  rw [← HQ.out]
  rintro e w1 ⟨rfl, rfl⟩
  clear hq
  go_wp2_with fail
  refine (HN.out _).mono ?_
  rintro e w2 ⟨rfl, m, rfl⟩
  go_wp2
  refine bodyPost_ret (v := .string (s ++ ⟨[35].toArray⟩ ++ ⟨D.toArray⟩)) (by simp [results, go_sem]) rfl ?_
  exact ⟨by rw [HS.out, HD.out, HQ.out], m, rfl⟩

theorem quiet_at {P : Program} {f : FuncId} {args : Array Value} {w : World} {n : Nat} {v : Value}
    (h : Calls P f args (w.drewN n) fun e w' => e = .returned v ∧ ∃ m, w' = (w.drewN n).drewN m) : Calls P f args (w.drewN n) fun e w'' => e = .returned v ∧ ∃ m, w'' = w.drewN m :=
  h.mono fun _ _ ⟨he, m, hm⟩ => ⟨he, n + m, by rw [hm]; simp [World.drewN, Nat.add_assoc]⟩
theorem seal_at (s : ByteArray) (w : World) (hs : s.size ≤ 4194304) :
    Calls Tryd.prog 30 #[.string s] w fun e w' => e = .returned (.string ⟨(sealL s.data.toList).toArray⟩) ∧ ∃ m, w' = w.drewN m := spec_l1Seal s w hs
/-- What both EncodeRecord give. -/
def EncOk (z : Int) (e : RecD) (t : ByteArray) (b : Bool) : Prop :=
  (b = true ∧ ∃ k : Nat, z = k ∧ k ≤ 59 ∧ recB e = true ∧ t = ⟨(lineR k e ++ [10]).toArray⟩) ∨ (b = false ∧ t = ⟨#[]⟩ ∧ ¬ (0 ≤ z ∧ z ≤ 59 ∧ recB e = true))
theorem enc_one {z : Int} {e : RecD} {t t' : ByteArray} {b b' : Bool} (h : EncOk z e t b) (h' : EncOk z e t' b') : t = t' ∧ b = b' := by
  rcases h with ⟨rfl, k, rfl, hk, hr, rfl⟩ | ⟨rfl, rfl, hn⟩ <;> rcases h' with ⟨rfl, k', hk', hk2, hr', rfl⟩ | ⟨rfl, rfl, hn'⟩
  · obtain rfl : k = k' := by omega
    exact ⟨rfl, rfl⟩
  · exact absurd ⟨by omega, by omega, hr⟩ hn'
  · exact absurd ⟨by omega, by omega, hr'⟩ hn
  · exact ⟨rfl, rfl⟩
def EncRes (z : Int) (e : RecD) (w : World) (x : Ending) (w' : World) : Prop := ∃ t b, x = .returned (.tuple #[.string t, .bool b]) ∧ EncOk z e t b ∧ Below w.heap.size w w'

theorem lineR_bytes (k : Nat) (c r : ByteArray) (D : List UInt8) (hD : D = Lib.decDigits k) :
    (⟨(headR k (c, r)).toArray⟩ : ByteArray) = ⟨D.toArray⟩ ++ ⟨[32].toArray⟩ ++ c ++ ⟨[62].toArray⟩ ++ r := by
  subst hD
  obtain ⟨⟨c⟩⟩ := c
  obtain ⟨⟨r⟩⟩ := r
  simp only [bytes_add]
  simp [headR]

set_option maxHeartbeats 2000000 in
theorem spec_l24Line (k : Nat) (c r : ByteArray) (w : World) (hk : k ≤ 59) (h1 : c.size ≤ 1048576) (h2 : r.size ≤ 1048576) :
    Calls Tryd.prog 19 #[.int .i64 k, .agg #[.string c, .string r]] w fun e w' => e = .returned (.string ⟨(lineR k (c, r) ++ [10]).toArray⟩) ∧ Below w.heap.size w w' := by
  have hb0 : Below w.heap.size w (w.alloc (.cells #[.string c, .string r] 27)) := (Below.refl _ _).alloc (Nat.le_refl _) _
  obtain ⟨D, hD⟩ : ∃ D, D = Lib.decDigits k := ⟨_, rfl⟩
  have hd : D.length ≤ 2 := by rw [hD]; exact dec_pow 1 k (by omega)
  have HN := Lib.hid (fun w => num_at k D hD k rfl w (by omega))
  obtain ⟨H, hH⟩ : ∃ H : ByteArray, H = ⟨D.toArray⟩ ++ ⟨[32].toArray⟩ ++ c ++ ⟨[62].toArray⟩ ++ r := ⟨_, rfl⟩
  have HL := Lib.hid ((lineR_bytes k c r D hD).trans hH.symm)
  have hHs : H.size = D.length + 1 + c.size + 1 + r.size := by rw [hH]; simp only [ByteArray.size_append]; rfl
  have HH := Lib.hid hH
  clear hD
  have y1 : ¬ (9223372036854775807 < D.length + 1) := by omega
  have y2 : ¬ (9223372036854775807 < D.length + 1 + c.size) := by omega
  have y3 : ¬ (9223372036854775807 < D.length + 1 + c.size + 1) := by omega
  have y4 : ¬ (9223372036854775807 < D.length + 1 + c.size + 1 + r.size) := by omega
  clear hH
  have HS := Lib.hid (fun w => seal_at H w (by omega))
  have HHs := Lib.hid hHs
  have hsl := seal_len H.data.toList
  have hsz : H.size = H.data.toList.length := rfl
  have y5 : ¬ (9223372036854775807 < (sealL H.data.toList).length + 1) := by omega
  have y6 : ¬ (9223372036854775806 < (sealL H.data.toList).length) := by omega
  clear hHs hsl hsz
  go_enter Tryd.func19, Tryd.ntmps19
  go_wp2
  go_quiet (first | (go_at_call 31; exact (quiet_at (HN.out _))) | (go_at_call 30; rw [← HH.out]; exact (quiet_at (HS.out _))))
  go_wp2
  refine bodyPost_ret (v := .string (⟨(sealL H.data.toList).toArray⟩ ++ ⟨#[10]⟩)) (by simp [results, go_sem]) rfl ?_
  have he : headR k (c, r) = H.data.toList := by rw [← HL.out]
  refine ⟨?_, below_drewN hb0 nq⟩
  unfold lineR
  rw [he]
  exact congrArg (fun b => Ending.returned (Value.string b)) (ByteArray.mk_append_mk (sealL H.data.toList) [10])

set_option maxHeartbeats 2000000 in
theorem spec_EncodeRecord (z : Int) (c r : ByteArray) (w : World) (h1 : c.size ≤ 1048576) (h2 : r.size ≤ 1048576) :
    Calls Tryd.prog 7 #[.int .i64 z, .agg #[.string c, .string r]] w (EncRes z (c, r) w) := by
  have hb0 : Below w.heap.size w (w.alloc (.cells #[.string c, .string r] 27)) := (Below.refl _ _).alloc (Nat.le_refl _) _
  by_cases hz : 0 ≤ z ∧ z ≤ 59
  case neg =>
    have hin : inB z 0 59 = false := inB_no hz
    have HNO := Lib.hid (show ¬ (0 ≤ z ∧ z ≤ 59 ∧ recB (c, r) = true) from fun h => hz ⟨h.1, h.2.1⟩)
    clear hz
    go_enter Tryd.func7, Tryd.ntmps7
    go_wp2_with fail
    refine (spec_l1In _ _ _ _).mono ?_
    rw [hin]
    rintro e w' ⟨rfl, rfl⟩
    go_wp2
    go_ret2
    exact ⟨_, _, rfl, .inr ⟨rfl, rfl, HNO.out⟩, hb0⟩
  obtain ⟨k, rfl⟩ : ∃ k : Nat, z = k := ⟨z.toNat, by omega⟩
  have hk : k ≤ 59 := by omega
  have hin : inB (k : Int) 0 59 = true := inB_yes hz.1 hz.2
  clear hz
  cases hr : recB (c, r)
  · have HNO := Lib.hid (show ¬ (0 ≤ (k : Int) ∧ (k : Int) ≤ 59 ∧ recB (c, r) = true) by rw [hr]; simp)
    go_enter Tryd.func7, Tryd.ntmps7
    go_wp2_with fail
    refine (spec_l1In _ _ _ _).mono ?_
    rw [hin]
    rintro e w' ⟨rfl, rfl⟩
    go_wp2_with fail
    refine (spec_l24Good c r _ (by omega) (by omega)).mono ?_
    rw [hr]
    rintro e w1 ⟨rfl, b1⟩
    have B1 := hb0.trans (b1.mono hb0.size)
    go_wp2
    go_ret2
    exact ⟨_, _, rfl, .inr ⟨rfl, rfl, HNO.out⟩, B1⟩
  · have HR := Lib.hid hr
    have t0 := Two.new w 27 (.string c) (.string r)
    go_enter Tryd.func7, Tryd.ntmps7
    go_wp2_with fail
    refine (spec_l1In _ _ _ _).mono ?_
    rw [hin]
    rintro e w' ⟨rfl, rfl⟩
    go_wp2_with fail
    refine (spec_l24Good c r _ (by omega) (by omega)).mono ?_
    rw [hr]
    rintro e w1 ⟨rfl, b1⟩
    have B1 := hb0.trans (b1.mono hb0.size)
    have t1 := t0.far b1
    have c0 := t1.cell0
    have c1 := t1.cell1
    go_wp2_with fail
    refine (spec_l24Line k c r _ hk h1 h2).mono ?_
    rintro e w2 ⟨rfl, b2⟩
    go_wp2
    go_ret2
    exact ⟨_, _, rfl, .inl ⟨rfl, k, rfl, hk, HR.out, rfl⟩, B1.trans (b2.mono B1.size)⟩
end Go.Proofs.YtjfhidaibpgpeaaDoor
