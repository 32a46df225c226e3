/-
  A dictionary's entries that a call owns; copies of dictionaries.
-/
import Derived.Test.YtoimkppjbabgeaaGreatDoorDictPl
import Derived.Test.YtoimkppjbabgeaaGreatDoorBase
import Derived.Test.YtoimkppjbabgeaaGreatDoorRowsMark
import Derived.Test.YtoimkppjbabgeaaGreatDoorMarkText
import Derived.Test.YtoimkppjbabgeaaGreatDoorDictSz
namespace Go.Proofs.YtoimkppjbabgeaaGreatDoor
open Go.RowKit
set_option linter.unusedVariables false
set_option maxRecDepth 100000

theorem info_entry : (Tryz.prog.info? 68).map (fun i => (i.zero, i.size, i.bytes)) = some (some (.agg #[.slice none 0 0, .string ⟨#[]⟩]), 2, 40) := by kernel_rfl

def headsP (us : List Value) (l : List EntD) : List (Value × Value) := us.zip (l.map fun c => Value.string c.2)
theorem headsP_length {us : List Value} {l : List EntD} (h : us.length = l.length) : (headsP us l).length = l.length := by simp [headsP, h]
theorem headsP_at {us : List Value} {l : List EntD} {k : Nat} {u : Value} {c : EntD} (hu : us[k]? = some u) (hc : l[k]? = some c) : (headsP us l)[k]? = some (u, .string c.2) := by
  simp [headsP, List.getElem?_zip_eq_some, hu, hc]
theorem headsP_snoc {us : List Value} {l : List EntD} (h : us.length = l.length) (u : Value) (c : EntD) : headsP (us ++ [u]) (l ++ [c]) = headsP us l ++ [(u, .string c.2)] := by
  unfold headsP
  rw [List.map_append, List.zip_append (by simpa using h)]
  rfl
/-- Entries of the call's own, in blocks of [lo, hi). -/
def OwnD (w : World) (lo hi : Nat) (v : Value) (l : List EntD) : Prop :=
  ∃ us, Own w lo hi 68 2 v l.length (flat2 (headsP us l)) ∧ RowsAt w lo us (l.map (·.1)) ∧ (∀ u ∈ us, ∀ g, u.ownBlock = some g → g < hi)
section
variable {w w' : World} {lo hi : Nat} {v : Value} {l : List EntD}
theorem OwnD.below (h : OwnD w lo hi v l) (hb : Below w.heap.size w w') : OwnD w' lo hi v l := by
  obtain ⟨us, h1, h2, h3⟩ := h
  exact ⟨us, h1.below hb, h2.below hb, h3⟩
theorem OwnD.only {lo' hi' : Nat} (h : OwnD w lo hi v l) (ho : Only lo' hi' w w') (hd : hi ≤ lo' ∨ hi' ≤ lo) : OwnD w' lo hi v l := by
  obtain ⟨us, h1, h2, h3⟩ := h
  refine ⟨us, h1.only ho hd, ⟨h2.len, fun j u r hu hr => ?_, h2.apart⟩, h3⟩
  exact ownsRow_only (h2.row j u r hu hr) ho (fun g hg => by
    have k1 := h3 u (List.mem_of_getElem? hu) g hg
    have k2 := ((h2.row j u r hu hr).lt g hg).1
    omega)
theorem OwnD.slice (h : OwnD w lo hi v l) : ∃ A cap, v = .slice A l.length cap ∧ DictR w w.heap.size A l ∧ l.length ≤ cap ∧ cap ≤ maxLen := by
  obtain ⟨us, h1, h2, h3⟩ := h
  obtain ⟨A, cap, rfl, hr, hn, hm⟩ := h1.slice
  refine ⟨A, cap, rfl, fun hp => ?_, hn, hm⟩
  obtain ⟨b, off, hA, hb, hc⟩ := hr.2 hp
  refine ⟨b, off, hA, hb, fun j c hj => ?_⟩
  obtain ⟨u, hu, ru⟩ := h2.at_ (show (l.map (·.1))[j]? = some c.1 by simp [hj])
  obtain ⟨c1, c2⟩ := flat2_reads (B := 0) hc (headsP_at hu hj)
  obtain ⟨a, cp, rfl, rd, k1, k2⟩ := (Own.of_row ru).slice
  exact ⟨a, cp, c1, c2, rd, k1, k2⟩
end

/-- A copy of a dictionary in new memory. -/
def NewEnts (l : List EntD) (w : World) (e : Ending) (w' : World) : Prop := ∃ v, e = .returned v ∧ OwnD w' w.heap.size w'.heap.size v l ∧ Below w.heap.size w w'
def NewDict (l : List EntD) (w : World) (e : Ending) (w' : World) : Prop := ∃ v, e = .returned (.agg #[v]) ∧ OwnD w' w.heap.size w'.heap.size v l ∧ Below w.heap.size w w'
def NewEnt (c : EntD) (w : World) (e : Ending) (w' : World) : Prop := ∃ v, e = .returned (.agg #[v, .string c.2]) ∧ Own w' w.heap.size w'.heap.size 3 1 v c.1.length (ints c.1) ∧ Below w.heap.size w w'

/-- The heads of the entries that have been copied. -/
theorem zip_len (us : List Value) (l : List EntD) {k : Nat} (h : us.length = k) (hk : k ≤ l.length) : (headsP us (l.take k)).length = k := by
  rw [headsP_length (by simp; omega)]; simp; omega
end Go.Proofs.YtoimkppjbabgeaaGreatDoor
