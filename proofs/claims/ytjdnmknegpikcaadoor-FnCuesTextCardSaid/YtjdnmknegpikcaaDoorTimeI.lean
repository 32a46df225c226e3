/-
  The program's ParseTime: strconv.Atoi at three bytes at most; a range over a literal map.
-/
import Derived.Test.YtjdnmknegpikcaaDoorTimePl
import Derived.Test.YtjdnmknegpikcaaDoorFormatTimeW
import Derived.Lib.AtoiErrMem
import Derived.Maps.RangeWalk
import Derived.Maps.Own
namespace Go.Proofs.YtjdnmknegpikcaaDoor
open Go.RowKit Go.Maps
set_option linter.unusedVariables false
set_option linter.unusedSimpArgs false
set_option maxRecDepth 100000

/-! ### Atoi -/
def ErrOk (w : World) : Prop := ∃ ev, w.cell? ⟨0, 0, none⟩ = some ev ∧ (ev = .nilIface ∨ ∃ te pe, ev = .iface te pe)
theorem ErrOk.below {w w' : World} (h : ErrOk w) (hb : Below w.heap.size w w') : ErrOk w' := by
  obtain ⟨ev, hv, he⟩ := h
  exact ⟨ev, (hb.cell (p := ⟨_, 0, none⟩) (World.block_lt_of_cell? w _ hv)).trans hv, he⟩
/-- What Atoi's first result is. -/
def numA (l : List UInt8) : Int := (Lib.atoi l).getD 0
theorem impl_Atoi (s : ByteArray) (w : World) (hs : s.size ≤ 18) (he : ErrOk w) : Calls Tryd.prog 26 #[.string s] w fun e w' => ∃ ev, e = .returned (.tuple #[.int .i64 (numA s.data.toList), ev]) ∧ Below w.heap.size w w' := by
  cases h : Lib.atoi s.data.toList with
  | some n =>
    refine (Tryd.strconv_Atoi s n hs h w).mono ?_
    rintro e w' ⟨rfl, t, rfl⟩
    exact ⟨_, by rw [numA, h]; rfl, Lib.bytesWorld_below _ _ _⟩
  | none =>
    obtain ⟨ev, hv, he⟩ := he
    refine (Tryd.strconv_Atoi_err s hs h ev w hv he).mono ?_
    rintro e w' ⟨N, rfl, -, -, hb⟩
    exact ⟨_, by rw [numA, h]; rfl, hb⟩
theorem digitVal_dig {n : Nat} (h : n < 10) : Lib.digitVal (dig n) = some n := by
  have := dig_nat h
  unfold Lib.digitVal
  rw [if_pos (by omega), this]
  congr 1; omega
theorem dig_ne {n : Nat} (h : n < 10) : (dig n == 45) = false ∧ (dig n == 43) = false := by
  have h1 := dig_nat h
  constructor
  · rw [beq_eq_false_iff_ne]
    intro he
    rw [he] at h1
    have : (45 : UInt8).toNat = 45 := rfl
    omega
  · rw [beq_eq_false_iff_ne]
    intro he
    rw [he] at h1
    have : (43 : UInt8).toNat = 43 := rfl
    omega
theorem atoi_cons (b : UInt8) (r : List UInt8) : Lib.atoi (b :: r) = if b == 45 then (Lib.decNat r).map fun (m : Nat) => -(m : Int) else if b == 43 then (Lib.decNat r).map fun (m : Nat) => (m : Int) else (Lib.decNat (b :: r)).map fun (m : Nat) => (m : Int) := rfl
theorem numA_two {a b : Nat} (ha : a < 10) (hb : b < 10) : numA [dig a, dig b] = ((10 * a + b : Nat) : Int) := by
  unfold numA
  rw [atoi_cons, (dig_ne ha).1, (dig_ne ha).2]
  simp [Lib.decNat, Lib.decFrom, digitVal_dig ha, digitVal_dig hb]
  omega
theorem numA_three {a b c : Nat} (ha : a < 10) (hb : b < 10) (hc : c < 10) : numA [dig a, dig b, dig c] = ((100 * a + 10 * b + c : Nat) : Int) := by
  unfold numA
  rw [atoi_cons, (dig_ne ha).1, (dig_ne ha).2]
  simp [Lib.decNat, Lib.decFrom, digitVal_dig ha, digitVal_dig hb, digitVal_dig hc]
  omega
theorem decFrom_lt : ∀ (l : List UInt8) (acc n : Nat), Lib.decFrom acc l = some n → n < (acc + 1) * 10 ^ l.length
  | [], acc, n, h => by simp [Lib.decFrom] at h; subst h; simp
  | b :: r, acc, n, h => by
    unfold Lib.decFrom at h
    cases hd : Lib.digitVal b with
    | none => rw [hd] at h; cases h
    | some d =>
      rw [hd] at h
      have hd9 : d ≤ 9 := by
        unfold Lib.digitVal at hd
        split at hd
        · injection hd with hd; omega
        · cases hd
      have h1 := decFrom_lt r _ _ h
      have h2 : (acc * 10 + d + 1) * 10 ^ r.length ≤ (acc + 1) * 10 * 10 ^ r.length := Nat.mul_le_mul_right _ (by omega)
      rw [List.length_cons, Nat.pow_succ, Nat.mul_comm (10 ^ r.length) 10, ← Nat.mul_assoc]
      omega
theorem decNat_lt {l : List UInt8} {n : Nat} (h : Lib.decNat l = some n) (hl : l.length ≤ 3) : n < 1000 := by
  unfold Lib.decNat at h
  split at h
  · cases h
  · have h1 := decFrom_lt _ _ _ h
    have h2 : 10 ^ l.length ≤ 10 ^ 3 := Nat.pow_le_pow_right (by decide) hl
    omega
theorem numA_bd {l : List UInt8} (hl : l.length ≤ 3) : -1000 < numA l ∧ numA l < 1000 := by
  unfold numA
  cases l with
  | nil => exact ⟨by decide, by decide⟩
  | cons b r =>
    simp only [List.length_cons] at hl
    rw [atoi_cons]
    split
    · cases h : Lib.decNat r with
      | none => exact ⟨by decide, by decide⟩
      | some m =>
        have := decNat_lt h (by omega)
        show -1000 < -(m : Int) ∧ -(m : Int) < 1000
        omega
    · split
      · cases h : Lib.decNat r with
        | none => exact ⟨by decide, by decide⟩
        | some m =>
          have := decNat_lt h (by omega)
          show -1000 < (m : Int) ∧ (m : Int) < 1000
          omega
      · cases h : Lib.decNat (b :: r) with
        | none => exact ⟨by decide, by decide⟩
        | some m =>
          have := decNat_lt h (by rw [List.length_cons]; omega)
          show -1000 < (m : Int) ∧ (m : Int) < 1000
          omega
/-- What the program adds up. -/
def numT (l : List UInt8) : Int := numA (l.take 2) * 3600000 + numA ((l.drop 3).take 2) * 60000 + numA ((l.drop 6).take 2) * 1000 + numA (l.drop 9)
theorem numT_time {t : Nat} (h : t ≤ 99999999) {l : List UInt8} (hl : timeOf t = l) : numT l = t := by
  subst hl
  rw [timeOf_bytes h]
  show numA [_, _] * 3600000 + numA [_, _] * 60000 + numA [_, _] * 1000 + numA [_, _, _] = _
  rw [numA_two (by omega) (by omega), numA_two (by omega) (by omega), numA_two (by omega) (by omega), numA_three (by omega) (by omega) (by omega)]
  omega

/-! ### The map of units -/
section
variable {H : Type} {P : Program} (w : World) {ops : Array Oper} {rest : List Oper} {o : Oper} {a : Act} {Q : Exit → Act → World → Prop}
/-- An entry of a map literal. -/
theorem wpList_insert_own (hg : o.guard = none) (m x v : Operand) (t : TypeId) (hop : o.op = Op.insert t m x v)
    (k e : TypeId) (K : Keyed P k) (ht : P.underlying t = some (.map k e)) (R : Value → Option (DataW H × List MemPlace)) (b n : Nat) (D : DataW H)
    (hm : a.eval m = .map (some b)) (hown : w.ownsMap P k R b n D) (hn : n < maxLen) (key val : Value) (kl : Lit) (hx : a.eval x = key) (hv : a.eval v = val) (hkey : keyOf P k key = some kl)
    (d : DataW H) (ps : List MemPlace) (hval : R val = some (d, ps))
    (hK : ∀ w', w'.ownsMap P k R b (n + 1) (D.put kl d) → w.grownBy w' (some b) → wpList P ops Q rest (a.put o.dst undef) w') :
    wpList P ops Q (o :: rest) a w := by
  refine wpList_plain hg fun K' hK' => ?_
  obtain ⟨w', hrun, r1, r2⟩ := hown.update K ht hn hkey hval
  unfold Oper.wp
  simp [execOp, hop, hm, hx, hv, hrun, Result.andThen]
  exact hK' _ _ (hK w' r1 r2)
end
theorem lawI : Keyed Tryd.prog 3 := int_keyed Tryd.underlying3
def lI (x : Int) : Lit := .int .i64 x
def dI (x : Int) : DataW Unit := .lit (.int .i64 x)
def unitsD : DataW Unit := .map [(lI 0, dI 3600000), (lI 3, dI 60000), (lI 6, dI 1000)]
theorem units_put : (((DataW.map ([] : List (Lit × DataW Unit))).put (lI 0) (dI 3600000)).put (lI 3) (dI 60000)).put (lI 6) (dI 1000) = unitsD := rfl
theorem units_has {x : Int} (h : has unitsD (lI x) = true) : x = 0 ∨ x = 3 ∨ x = 6 := by
  simp [unitsD, has, lI, Lit.sameKey] at h
  omega
end Go.Proofs.YtjdnmknegpikcaaDoor
