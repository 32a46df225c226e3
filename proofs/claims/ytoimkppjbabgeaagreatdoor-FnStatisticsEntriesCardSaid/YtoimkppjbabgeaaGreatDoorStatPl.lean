/-
  What StrokesPerPiece, EntryCounts and UnusedEntries return: plain values. No program is named here.
-/
import Derived.Test.YtoimkppjbabgeaaGreatDoorDictPl
namespace Go.Proofs.YtoimkppjbabgeaaGreatDoor
set_option linter.unusedVariables false

def covN (ps : List PieceD) : Nat → Nat
  | 0 => 0
  | k + 1 => covN ps k + (match ps[k]? with | some p => if p.2.2.size = 0 then 0 else p.2.1 | none => 0)
def covP (ps : List PieceD) : Nat → Nat
  | 0 => 0
  | k + 1 => covP ps k + (match ps[k]? with | some p => if p.2.2.size = 0 then 0 else 1 | none => 0)
section
variable {ps : List PieceD} {k : Nat} {p : PieceD}
theorem covN_yes (h : ps[k]? = some p) (ht : ¬ p.2.2.size = 0) : covN ps (k + 1) = covN ps k + p.2.1 := by simp [covN, h, ht]
theorem covN_no (h : ps[k]? = some p) (ht : p.2.2.size = 0) : covN ps (k + 1) = covN ps k := by simp [covN, h, ht]
theorem covP_yes (h : ps[k]? = some p) (ht : ¬ p.2.2.size = 0) : covP ps (k + 1) = covP ps k + 1 := by simp [covP, h, ht]
theorem covP_no (h : ps[k]? = some p) (ht : p.2.2.size = 0) : covP ps (k + 1) = covP ps k := by simp [covP, h, ht]
end
theorem covP_le (ps : List PieceD) : ∀ k, covP ps k ≤ k
  | 0 => by simp [covP]
  | k + 1 => by
    have := covP_le ps k
    rw [covP]
    split
    · split <;> omega
    · omega
theorem covN_le {ps : List PieceD} {m : Nat} (h : ∀ p ∈ ps, p.2.1 ≤ m) : ∀ k, covN ps k ≤ m * k
  | 0 => by simp [covN]
  | k + 1 => by
    have := covN_le h k
    rw [covN, Nat.mul_succ]
    split
    · rename_i p hp
      have := h p (List.mem_of_getElem? hp)
      split <;> omega
    · omega
theorem seg_count {l : List EntD} {zs : List Int} : ∀ p ∈ segD l zs, p.2.1 ≤ zs.length := fun p hp => by
  have := segD_ok hp
  unfold PieceOk at this
  omega
def okD (l : List EntD) (zs : List Int) : Bool := dictB l && strokesB zs
def perN (l : List EntD) (zs : List Int) : Int := if okD l zs then ((covN (segD l zs) (segD l zs).length : Nat) : Int) else 0
def perP (l : List EntD) (zs : List Int) : Int := if okD l zs then ((covP (segD l zs) (segD l zs).length : Nat) : Int) else 0

/-! ### How often the entries are used -/
def entJ (l : List EntD) (zs : List Int) (p : PieceD) : Nat := (findD l (part zs p.1 p.2.1)).toNat
def cntE (l : List EntD) (zs : List Int) (ps : List PieceD) : Nat → List Int
  | 0 => List.replicate l.length 0
  | k + 1 => match ps[k]? with
    | some p => if p.2.2.size = 0 then cntE l zs ps k else (cntE l zs ps k).set (entJ l zs p) ((cntE l zs ps k).getD (entJ l zs p) 0 + 1)
    | none => cntE l zs ps k
section
variable {l : List EntD} {zs : List Int} {ps : List PieceD} {k : Nat} {p : PieceD}
theorem cntE_yes (h : ps[k]? = some p) (ht : ¬ p.2.2.size = 0) : cntE l zs ps (k + 1) = (cntE l zs ps k).set (entJ l zs p) ((cntE l zs ps k).getD (entJ l zs p) 0 + 1) := by simp [cntE, h, ht]
theorem cntE_no (h : ps[k]? = some p) (ht : p.2.2.size = 0) : cntE l zs ps (k + 1) = cntE l zs ps k := by simp [cntE, h, ht]
end
theorem cntE_length (l : List EntD) (zs : List Int) (ps : List PieceD) : ∀ k, (cntE l zs ps k).length = l.length
  | 0 => by simp [cntE]
  | k + 1 => by
    have := cntE_length l zs ps k
    rw [cntE]
    split
    · split <;> simp [this]
    · exact this
theorem cntE_bd (l : List EntD) (zs : List Int) (ps : List PieceD) : ∀ k, ∀ x ∈ cntE l zs ps k, 0 ≤ x ∧ x ≤ (k : Int)
  | 0, x, h => by simp [cntE] at h; omega
  | k + 1, x, h => by
    have ih := cntE_bd l zs ps k
    rw [cntE] at h
    split at h
    · split at h
      · have := ih x h; omega
      · rcases List.mem_or_eq_of_mem_set h with h | h
        · have := ih x h; omega
        · rw [h, List.getD_eq_getElem?_getD]
          cases hg : (cntE l zs ps k)[entJ l zs _]? with
          | none => simp; omega
          | some y => have := ih y (List.mem_of_getElem? hg); simp; omega
    · have := ih x h; omega
/-- A piece with a text is an entry. -/
theorem piece_entry {l : List EntD} {zs : List Int} {p : PieceD} (h : p ∈ segD l zs) (ht : ¬ p.2.2.size = 0) : findD l (part zs p.1 p.2.1) = ((entJ l zs p : Nat) : Int) ∧ entJ l zs p < l.length := by
  obtain ⟨k, c, h1, h2, -, -⟩ := lookD_mem (piece_text (segD_ok h) ht)
  have hk := (List.getElem?_eq_some_iff.1 h2).1
  unfold entJ
  rw [h1]
  exact ⟨by simp, by simpa using hk⟩
def useD (l : List EntD) (zs : List Int) : List Int := cntE l zs (segD l zs) (segD l zs).length
def usesD (l : List EntD) (zs : List Int) : List Int := if okD l zs then useD l zs else []

/-! ### The unused ones -/
def zerosT (cs : List Int) : Nat → List Int
  | 0 => []
  | k + 1 => zerosT cs k ++ (if cs[k]? = some 0 then [(k : Int)] else [])
theorem zerosT_yes {cs : List Int} {k : Nat} (h : cs[k]? = some 0) : zerosT cs (k + 1) = zerosT cs k ++ [(k : Int)] := by simp [zerosT, h]
theorem zerosT_no {cs : List Int} {k : Nat} {x : Int} (h : cs[k]? = some x) (hx : ¬ x = 0) : zerosT cs (k + 1) = zerosT cs k := by simp [zerosT, h, hx]
theorem zerosT_len (cs : List Int) : ∀ k, (zerosT cs k).length ≤ k
  | 0 => by simp [zerosT]
  | k + 1 => by
    have := zerosT_len cs k
    rw [zerosT, List.length_append]
    split <;> simp <;> omega
def unusedD (l : List EntD) (zs : List Int) : List Int := if okD l zs then zerosT (useD l zs) (useD l zs).length else []
end Go.Proofs.YtoimkppjbabgeaaGreatDoor
