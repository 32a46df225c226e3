/-
  The laws' helpers over dictionaries: sizes.
-/
import Derived.Test.YtoimkppjbabgeaaGreatDoorDictPl
import Derived.Test.YtoimkppjbabgeaaGreatDoorRows
namespace Go.Proofs.YtoimkppjbabgeaaGreatDoor
open Go.RowKit
set_option linter.unusedVariables false
set_option maxRecDepth 100000

/-- What is left when an outline and a text are taken off. -/
def szE2 (a b : Nat) (left : Int) : Int := if (a : Int) + (b : Int) ≤ left then left - a - b else -1
theorem szE2_yes {a b : Nat} {left : Int} (h : (a : Int) + (b : Int) ≤ left) : szE2 a b left = left - a - b := if_pos h
theorem szE2_no {a b : Nat} {left : Int} (h : ¬ (a : Int) + (b : Int) ≤ left) : szE2 a b left = -1 := if_neg h
def totalD (l : List EntD) : Nat := (l.map fun c => c.1.length + c.2.size).sum
theorem totalD_take_succ {l : List EntD} {k : Nat} {c : EntD} (h : l[k]? = some c) : totalD (l.take (k + 1)) = totalD (l.take k) + (c.1.length + c.2.size) := by
  rw [List.take_add_one, h]
  simp [totalD]
theorem totalD_mem {l : List EntD} {c : EntD} (h : c ∈ l) : c.1.length + c.2.size ≤ totalD l := by
  induction l with
  | nil => simp at h
  | cons d l ih =>
    simp only [totalD, List.map_cons, List.sum_cons] at *
    rcases List.mem_cons.1 h with rfl | h
    · omega
    · have := ih h
      omega
def SmallD (l : List EntD) (left : Int) : Prop := (l.length : Int) + totalD l ≤ left
def SizedD (l : List EntD) (left : Int) (w : World) (e : Ending) (w' : World) : Prop := ∃ r : Int, e = .returned (.int .i64 r) ∧ (r < 0 ∨ 0 ≤ r ∧ SmallD l left) ∧ Below w.heap.size w w'
def LongD (l : List EntD) : Prop := ∀ c ∈ l, c.1.length ≤ maxLen ∧ c.2.size ≤ maxLen
/-- Every outline and every text is short enough. -/
def ShortD (l : List EntD) : Prop := ∀ c ∈ l, c.1.length ≤ 1048576 ∧ c.2.size ≤ 1048576
theorem shortD_of {l : List EntD} (h : SmallD l 1048576) : l.length ≤ 1048576 ∧ ShortD l := by
  unfold SmallD at h
  refine ⟨by omega, fun c hc => ?_⟩
  have := totalD_mem hc
  omega
/-- What a walk reads of the k-th entry. -/
theorem DictR.at_ {w : World} {B b off : Nat} {l : List EntD} (h : ∀ (j : Nat) c, l[j]? = some c → ∃ (a : Option Addr) (cap : Nat), w.cell? ⟨b, off + j * 2, none⟩ = some (.slice a c.1.length cap) ∧ w.cell? ⟨b, off + j * 2 + 1, none⟩ = some (.string c.2) ∧ Reads w B 1 a c.1.length (ints c.1) ∧ c.1.length ≤ cap ∧ cap ≤ maxLen)
    {k : Nat} {o : List Int} {t : ByteArray} (hk : l[k]? = some (o, t)) : ∃ (a : Option Addr) (cap : Nat), w.cell? ⟨b, off + k * 2, none⟩ = some (.slice a o.length cap) ∧ w.cell? ⟨b, off + k * 2 + 1, none⟩ = some (.string t) ∧ Reads w B 1 a o.length (ints o) ∧ o.length ≤ cap ∧ cap ≤ maxLen := h k _ hk

end Go.Proofs.YtoimkppjbabgeaaGreatDoor
