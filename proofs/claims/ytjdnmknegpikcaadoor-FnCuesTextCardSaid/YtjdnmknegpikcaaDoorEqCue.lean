/-
  Contracts of eqCue, eqCueS, markCueS, heldCueS: the laws' comparison of tracks, their marks.
-/
import Derived.Test.YtjdnmknegpikcaaDoorCap
import Derived.IntWalk
import Derived.StillTailTactics
namespace Go.Proofs.YtjdnmknegpikcaaDoor
open Go.RowKit
set_option linter.unusedVariables false
set_option maxRecDepth 100000

theorem eqCue_calls (c d : CueD) (w : World) :
    Calls Tryd.prog 44 #[.agg #[.int .i64 c.1, .int .i64 c.2.1, .string c.2.2], .agg #[.int .i64 d.1, .int .i64 d.2.1, .string d.2.2]] w fun e' w' => e' = .returned (.bool (decide (c = d))) ∧ Below w.heap.size w w' := by
  obtain ⟨s, e, t⟩ := c
  obtain ⟨s', e', t'⟩ := d
  have hb : ∀ o o', Below w.heap.size w ((w.alloc o).alloc o') := fun o o' => ((Below.refl _ _).alloc (Nat.le_refl _) o).alloc (by simp) o'
  by_cases h1 : s = s'
  · by_cases h2 : e = e'
    · by_cases h3 : t = t'
      · subst h1 h2 h3
        go_enter Tryd.func44, Tryd.ntmps44
        go_wp2
        go_ret
        exact ⟨ret_bool (by simp), hb _ _⟩
      · subst h1 h2
        have h4 : (t.toList == t'.toList) = false := by rw [str_beq, decide_eq_false h3]
        have H3 := Lib.hid h3
        clear h3
        go_enter Tryd.func44, Tryd.ntmps44
        go_wp2
        go_ret
        exact ⟨ret_bool (by simp [H3.out]), hb _ _⟩
    · subst h1
      have h4 : (e != e') = true := by simpa using h2
      have H2 := Lib.hid h2
      clear h2
      go_enter Tryd.func44, Tryd.ntmps44
      go_wp2
      go_ret
      exact ⟨ret_bool (by simp [H2.out]), hb _ _⟩
  · have h4 : (s != s') = true := by simpa using h1
    have H1 := Lib.hid h1
    clear h1
    go_enter Tryd.func44, Tryd.ntmps44
    go_wp2
    go_ret
    exact ⟨ret_bool (by simp [H1.out]), hb _ _⟩

set_option maxHeartbeats 1000000 in
theorem eqCueS_calls (A B : Option Addr) (ca cb : Nat) (xs ys : List CueD) (w : World) (hx : Reads w w.heap.size 3 A xs.length (cuesV xs)) (hy : Reads w w.heap.size 3 B ys.length (cuesV ys)) (hn : xs.length ≤ 1048576) :
    Calls Tryd.prog 21 #[.slice A xs.length ca, .slice B ys.length cb] w fun e w' => e = .returned (.bool (decide (xs = ys))) ∧ Below w.heap.size w w' := by
  by_cases hl : xs.length = ys.length
  · have h2 : ((xs.length : Int) != (ys.length : Int)) = false := by rw [hl]; simp
    have HL := Lib.hid hl
    clear hl
    go_enter Tryd.func21, Tryd.ntmps21
    go_wp2
    go_loopw [5] (fun i wr => ∃ k : Nat, k ≤ xs.length ∧ i = .int .i64 k ∧ (∀ j, j < k → xs[j]? = ys[j]?) ∧ Below w.heap.size w wr)
      (fun i _ => xs.length - (intOf i).toNat)
    case atStart => exact ⟨0, Nat.zero_le _, rfl, fun j hj => absurd hj (Nat.not_lt_zero _), Below.refl _ _⟩
    case round =>
      obtain ⟨k, hk, rfl, hall, hb⟩ := hrel
      have HA := Lib.hid hall
      clear hall
      by_cases hlt : k < xs.length
      · have hlt2 : k < ys.length := by have := HL.out; omega
        obtain ⟨b, off, rfl, hb0, hc⟩ := (hx.below hb).2 (by omega)
        obtain ⟨b', off', rfl, hb0', hc'⟩ := (hy.below hb).2 (by omega)
        obtain ⟨x, hxk⟩ := some_at xs hlt
        obtain ⟨y, hyk⟩ := some_at ys hlt2
        obtain ⟨c1, c2, c3⟩ := Reads.cue (B := 0) (n := 0) hc hxk
        obtain ⟨d1, d2, d3⟩ := Reads.cue (B := 0) (n := 0) hc' hyk
        have HX := Lib.hid hxk
        have HY := Lib.hid hyk
        have i1 : (k : Int) < (xs.length : Int) := by omega
        have i2 : (k : Int) < (ys.length : Int) := by omega
        have i0 : (0 : Int) ≤ (k : Int) := by omega
        clear hxk hyk hc hc'
        by_cases hxy : x = y
        · have E := Lib.hid (decide_eq_true hxy)
          have EQ := Lib.hid hxy
          clear hxy
          go_wp2
          go_still_tail 8, (by kernel_rfl)
          go_wp2_with fail
          refine (eqCue_calls x y _).mono ?_
          rw [E.out]
          rintro e w1 ⟨rfl, hb1⟩
          go_wp2
          go_roundw
          case rel => exact ⟨k + 1, by omega, by go_num, fun j hj => by
            rcases Nat.lt_or_ge j k with h | h
            · exact HA.out j h
            · rw [show j = k by omega, HX.out, HY.out, EQ.out], hb.drew.trans (hb1.mono (by exact hb.size))⟩
          case measure => simp [intOf]; omega
        · have E := Lib.hid (decide_eq_false hxy)
          have HN := Lib.hid (ne_of_at HX.out HY.out hxy)
          clear hxy
          go_wp2
          go_still_tail 8, (by kernel_rfl)
          go_wp2_with fail
          refine (eqCue_calls x y _).mono ?_
          rw [E.out]
          rintro e w1 ⟨rfl, hb1⟩
          go_wp2
          go_ret
          exact ⟨ret_bool HN.out, hb.drew.trans (hb1.mono (by exact hb.size))⟩
      · obtain rfl : k = xs.length := by omega
        go_wp2
        go_ret
        exact ⟨ret_bool (eq_of_all HL.out HA.out), hb⟩
  · have h2 : ((xs.length : Int) != (ys.length : Int)) = true := by simp; omega
    have HL := Lib.hid hl
    clear hl
    go_enter Tryd.func21, Tryd.ntmps21
    go_wp2
    go_ret
    exact ⟨ret_bool (ne_of_length HL.out), Below.refl _ _⟩

/-! ### The laws' marks -/
def mtGo : Nat → Nat → ByteArray → ByteArray
  | 0, _, acc => acc
  | f + 1, n, acc => if n = 0 then acc else mtGo f (n / 10) (⟨#[UInt8.ofNat (48 + n % 10)]⟩ ++ acc)
theorem mtGo_zero (f : Nat) (acc : ByteArray) : mtGo f 0 acc = acc := by cases f <;> rfl
theorem mtGo_step {f n : Nat} (hf : n < f) (h : 0 < n) (acc : ByteArray) : mtGo f n acc = mtGo (f - 1) (n / 10) (⟨#[UInt8.ofNat (48 + n % 10)]⟩ ++ acc) := by
  cases f with
  | zero => omega
  | succ f => rw [mtGo, if_neg (by omega)]; rfl
def mtext (n : Nat) : ByteArray := ⟨#[109]⟩ ++ mtGo (n + 1) n ⟨#[]⟩

set_option maxHeartbeats 1000000 in
theorem markText_calls (n : Nat) (w : World) (h0 : 0 < n) (h1 : n < 4611686018427387904) :
    Calls Tryd.prog 45 #[.int .i64 n] w fun e w' => e = .returned (.string (mtext n)) ∧ Below w.heap.size w w' := by
  go_enter Tryd.func45, Tryd.ntmps45
  go_wp2
  go_loopw [0, 3] (fun i t wr => ∃ (m j f : Nat) (acc : ByteArray), i = .int .i64 m ∧ t = .string acc ∧ mtGo f m acc = mtGo (n + 1) n ⟨#[]⟩ ∧ m < f ∧ acc.size ≤ j ∧ j ≤ 62 ∧ m * 2 ^ j ≤ n ∧ m < 4611686018427387904 ∧ Below w.heap.size w wr)
    (fun i _ _ => (intOf i).toNat)
  case atStart => exact ⟨n, 0, n + 1, ⟨#[]⟩, rfl, rfl, rfl, by omega, by decide, by omega, by omega, h1, Below.refl _ _⟩
  case round =>
    obtain ⟨m, j, f, acc, rfl, rfl, hg, hmf, hsz, hj, hm, hml, hb⟩ := hrel
    have HG := Lib.hid hg
    clear hg
    by_cases hlt : 0 < m
    · have hj62 : j < 62 := by
        rcases Nat.lt_or_ge j 62 with h | h
        · exact h
        · have h2 : 2 ^ 62 ≤ 2 ^ j := Nat.pow_le_pow_right (by omega) h
          have h3 : 2 ^ j ≤ m * 2 ^ j := Nat.le_mul_of_pos_left _ hlt
          omega
      have hcv := run_string_of_one (P := Tryd.prog) (wr := wr) (x := 48 + (m : Int) % 10) (src := 25) (dst := 9) (by omega) (by omega) Tryd.underlying25 Tryd.underlying5 Tryd.underlying9
      obtain ⟨d, hd⟩ : ∃ d, d = UInt8.ofNat (48 + m % 10) := ⟨_, rfl⟩
      rw [show UInt8.ofNat (48 + (m : Int) % 10).toNat = d by rw [hd, show (48 + (m : Int) % 10).toNat = 48 + m % 10 by omega]] at hcv
      have hx1 : (ByteArray.mk #[d]).size = 1 := rfl
      have hx2 : (ByteArray.mk #[d] ++ acc).size ≤ j + 1 := by rw [ByteArray.size_append, hx1]; omega
      have HX2 := Lib.hid hx2
      have HX3 := Lib.hid hd
      clear hx1 hx2 hd
      go_wp2
      go_roundw
      case rel => exact ⟨m / 10, j + 1, f - 1, _, by go_num, rfl, by rw [HX3.out, ← mtGo_step hmf hlt]; exact HG.out, by omega, HX2.out, by omega, by
        have h2 : m / 10 * 2 ≤ m := by omega
        have h3 : m / 10 * 2 * 2 ^ j ≤ m * 2 ^ j := Nat.mul_le_mul_right _ h2
        rw [Nat.pow_succ, Nat.mul_comm (2 ^ j) 2, ← Nat.mul_assoc]
        omega, by omega, hb.alloc hb.size _⟩
      case measure => simp [intOf]; omega
    · obtain rfl : m = 0 := by omega
      go_wp2
      go_ret
      exact ⟨by have := HG.out; rw [mtGo_zero] at this; rw [mtext, ← this]; rfl, hb⟩
end Go.Proofs.YtjdnmknegpikcaaDoor
