/-
  Both AppendTurn.
-/
import Derived.Test.YtnndkdkmhjpcpaaDoorFormTrans
import Derived.Test.YtnndkdkmhjpcpaaDoorBase
import Derived.Test.YtnndkdkmhjpcpaaDoorTurns
import Derived.StillTailTactics
namespace Go.Proofs.YtnndkdkmhjpcpaaDoor
open Go.RowKit
set_option linter.unusedVariables false
set_option maxRecDepth 100000

/-- A text with another one behind it. -/
def behind (a b : ByteArray) : ByteArray := a ++ ⟨#[32]⟩ ++ b
def canMerge (l : List TurnD) (sp tx : ByteArray) : Bool :=
  match l.getLast? with
  | some c => decide (c.1 = sp) && textB (behind c.2 tx)
  | none => false
def outT (l : List TurnD) (sp tx : ByteArray) : List TurnD :=
  match l.getLast? with
  | some c => if decide (c.1 = sp) && textB (behind c.2 tx) then l.set (l.length - 1) (c.1, behind c.2 tx) else l ++ [(sp, tx)]
  | none => l ++ [(sp, tx)]
def appB (l : List TurnD) (sp tx : ByteArray) : Bool := transB l && (turnB (sp, tx) && decide ((outT l sp tx).length ≤ 30))
def resT (l : List TurnD) (sp tx : ByteArray) : List TurnD := if appB l sp tx then outT l sp tx else []
def AppRes (l : List TurnD) (sp tx : ByteArray) (w : World) (e : Ending) (w' : World) : Prop :=
  ∃ v, e = .returned (.tuple #[.agg #[v], .bool (appB l sp tx)]) ∧ Own w' w.heap.size w'.heap.size 77 2 v (resT l sp tx).length (turnsV (resT l sp tx)) ∧ Below w.heap.size w w'
theorem resT_no {l : List TurnD} {sp tx : ByteArray} (h : appB l sp tx = false) : resT l sp tx = [] := by simp [resT, h]
theorem resT_yes {l : List TurnD} {sp tx : ByteArray} (h : appB l sp tx = true) : resT l sp tx = outT l sp tx := by simp [resT, h]
theorem resT_len (l : List TurnD) (sp tx : ByteArray) : (resT l sp tx).length ≤ 30 := by
  unfold resT
  split
  · rename_i h
    unfold appB at h
    simp only [Bool.and_eq_true, decide_eq_true_eq] at h
    exact h.2.2
  · simp
/-- The turns that come out are in order. -/
theorem outT_turns {l : List TurnD} {sp tx : ByteArray} (hl : transB l = true) (ht : turnB (sp, tx) = true) : ∀ c ∈ outT l sp tx, turnB c = true := by
  have h0 : ∀ c ∈ l, turnB c = true := fun c hc => by
    obtain ⟨j, hj⟩ := List.mem_iff_getElem?.1 hc
    exact trans_at hl hj
  intro c hc
  have h1 : c ∈ l ++ [(sp, tx)] → turnB c = true := fun h => by
    rcases List.mem_append.1 h with h | h
    · exact h0 c h
    · simp at h; subst h; exact ht
  unfold outT at hc
  cases hg : l.getLast? with
  | none => rw [hg] at hc; exact h1 hc
  | some d =>
    rw [hg] at hc
    simp only at hc
    split at hc
    · rename_i hm
      simp only [Bool.and_eq_true, decide_eq_true_eq] at hm
      rcases List.mem_or_eq_of_mem_set hc with h | h
      · exact h0 c h
      · subst h
        have hd := h0 d (List.mem_of_getLast? hg)
        unfold turnB at hd ⊢
        simp only [Bool.and_eq_true] at hd ⊢
        exact ⟨hd.1, hm.2⟩
    · exact h1 hc
theorem outT_valid {l : List TurnD} {sp tx : ByteArray} (hl : transB l = true) (ht : turnB (sp, tx) = true) : transB (outT l sp tx) = decide ((outT l sp tx).length ≤ 30) := by
  unfold transB
  rw [show (outT l sp tx).all turnB = true from List.all_eq_true.2 (outT_turns hl ht), Bool.and_true]
theorem last_at {l : List TurnD} {m : Nat} (h : l.length = m + 1) : ∃ c, l[m]? = some c ∧ l.getLast? = some c := by
  obtain ⟨c, hc⟩ := some_at l (show m < l.length by omega)
  exact ⟨c, hc, by rw [List.getLast?_eq_getElem?, h]; exact hc⟩
theorem outT_nil (sp tx : ByteArray) : outT [] sp tx = [(sp, tx)] := rfl
theorem outT_merge {l : List TurnD} {sp tx : ByteArray} {c : TurnD} {m : Nat} (hm : l.length = m + 1) (hg : l.getLast? = some c) (h1 : c.1 = sp) (h2 : textB (behind c.2 tx) = true) : outT l sp tx = l.set m (sp, behind c.2 tx) := by
  unfold outT
  rw [hg]
  simp [h1, h2, hm]
theorem outT_other {l : List TurnD} {sp tx : ByteArray} {c : TurnD} (hg : l.getLast? = some c) (h : ¬ (c.1 = sp ∧ textB (behind c.2 tx) = true)) : outT l sp tx = l ++ [(sp, tx)] := by
  unfold outT
  rw [hg]
  simp only
  rw [if_neg (by simpa using h)]

theorem copyOf_turn (A : Option Addr) (cap : Nat) (l : List TurnD) (w : World) (hr : Reads w w.heap.size 2 A l.length (turnsV l)) (hn : l.length ≤ 1048576) :
    Calls Tryd.prog 44 #[.slice A l.length cap] w (NewTurns l w) := by
  have hb0 : Below w.heap.size w (w.alloc (.cells #[] 77)) := (Below.refl _ _).alloc (Nat.le_refl _) _
  have ho : (w.alloc (.cells #[] 77)).ownsRow w.heap.size 77 2 (.slice (some ⟨w.heap.size, 0, none⟩) 0 0) 0 [] := World.ownsRow_made _ _ _ (Nat.le_refl _) (by simp) rfl
  have h1 : ∀ u ∈ turnsV l, u.oneCell' = true := by
    intro u hu
    simp only [turnsV, List.mem_flatMap, turnV] at hu
    obtain ⟨c, -, hc⟩ := hu
    simp at hc
    rcases hc with rfl | rfl <;> rfl
  have H1 := Lib.hid h1
  clear h1
  go_enter Tryd.func44, Tryd.ntmps44
  go_wp2_with (at_builtin; refine wpList_append_src ho (by simp) ((hr.alloc (Nat.le_refl _) _).more (B' := (w.alloc (.cells #[] 77)).heap.size) (by simp)) H1.out (.tmp 3) (.tmp 4) 24 Tryd.underlying24 info_turn (by omega) (by unfold maxLen; omega) ⟨rfl, rfl, rfl, rfl, rfl, by decide⟩ ?_; intro v1 w1 hown1 hb1)
  go_ret
  rw [Nat.zero_add, List.nil_append] at hown1
  exact ⟨_, rfl, Own.of_row hown1, hb0.trans hb1⟩
end Go.Proofs.YtnndkdkmhjpcpaaDoor
