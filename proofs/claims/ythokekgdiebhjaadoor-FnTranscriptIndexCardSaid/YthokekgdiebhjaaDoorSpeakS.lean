/-
  The reference's SpeakerWords.
-/
import Derived.Test.YthokekgdiebhjaaDoorSpeakPl
import Derived.Test.YthokekgdiebhjaaDoorIns
import Derived.Test.YthokekgdiebhjaaDoorConcS
import Derived.Test.YthokekgdiebhjaaDoorInts
import Derived.Test.YthokekgdiebhjaaDoorRowsSS
namespace Go.Proofs.YthokekgdiebhjaaDoor
open Go.RowKit
set_option linter.unusedVariables false
set_option linter.unusedSimpArgs false
set_option maxRecDepth 100000

/-- The speakers, and how many words each said. -/
def spkN (l : List TurnD) : List ByteArray := if transB l then namesL l else []
def spkC (l : List TurnD) : List Int := if transB l then saysL (namesL l) l else []
theorem spkC_len (l : List TurnD) : (spkC l).length = (spkN l).length := by unfold spkC spkN; split <;> simp [says_len]
theorem spkN_len (l : List TurnD) : (spkN l).length ≤ 30 := by
  unfold spkN
  split
  · next h => exact Nat.le_trans (names_len l) (trans_len h)
  · simp
def SpeakRes (l : List TurnD) (w : World) (e : Ending) (w' : World) : Prop :=
  ∃ v u, e = .returned (.tuple #[v, u, .bool (transB l)]) ∧ Own w' w.heap.size w'.heap.size 9 1 v (spkN l).length (strsV (spkN l)) ∧ Own w' w.heap.size w'.heap.size 3 1 u (spkC l).length (ints (spkC l)) ∧ Below w.heap.size w w'
theorem speak_no {l : List TurnD} {w w' : World} (h : transB l = false) (hb : Below w.heap.size w w') : SpeakRes l w (.returned (.tuple #[.slice none 0 0, .slice none 0 0, .bool false])) w' :=
  ⟨_, _, by rw [h], by rw [spkN, h]; exact Own.none_, by rw [spkC, h]; exact Own.none_, hb⟩
/-- Two rows of different types, each in a block of its own. -/
theorem own_tight {w : World} {lo hi size n : Nat} {e : TypeId} {v : Value} {xs : List Value} (h : Own w lo hi e size v n xs) : ∃ a, lo ≤ a ∧ Own w a (a + 1) e size v n xs ∧ (v.ownBlock = some a ∨ v.ownBlock = none) := by
  rcases h.1.2 with ⟨rfl, rfl⟩ | ⟨g, cap, cur, rfl, hb, hh, h1, h2, h3, h4⟩
  · have h0 : xs = [] := List.eq_nil_of_length_eq_zero (by simpa using h.1.1)
    subst h0
    exact ⟨lo, Nat.le_refl _, Own.none_, .inr rfl⟩
  · exact ⟨g, hb, ⟨⟨h.1.1, .inr ⟨g, cap, cur, rfl, Nat.le_refl _, hh, h1, h2, h3, h4⟩⟩, fun x hx => by simp [Value.ownBlock] at hx; omega⟩, .inl rfl⟩
theorem own_two {w : World} {lo hi s1 s2 n1 n2 : Nat} {e1 e2 : TypeId} {v1 v2 : Value} {xs1 xs2 : List Value} (h1 : Own w lo hi e1 s1 v1 n1 xs1) (h2 : Own w lo hi e2 s2 v2 n2 xs2) (hne : e1 ≠ e2) :
    ∃ a b, Own w a (a + 1) e1 s1 v1 n1 xs1 ∧ Own w b (b + 1) e2 s2 v2 n2 xs2 ∧ lo ≤ a ∧ lo ≤ b ∧ (a + 1 ≤ b ∨ b + 1 ≤ a) := by
  obtain ⟨a, ha, oa, ca⟩ := own_tight h1
  obtain ⟨b, hb, ob, cb⟩ := own_tight h2
  have free : ∀ {x : Value} {e : TypeId} {s n : Nat} {xs : List Value} {a : Nat}, x.ownBlock = none → Own w a (a + 1) e s x n xs → ∀ c, Own w c (c + 1) e s x n xs := by
    intro x e s n xs a hx h c
    rcases h.1.2 with ⟨rfl, rfl⟩ | ⟨g, cap, cur, rfl, _⟩
    · have h0 : xs = [] := List.eq_nil_of_length_eq_zero (by simpa using h.1.1)
      subst h0
      exact Own.none_
    · simp [Value.ownBlock] at hx
  rcases ca with ca | ca
  · rcases cb with cb | cb
    · have := rows_apart oa.1 ob.1 hne a ca
      rw [cb] at this
      exact ⟨a, b, oa, ob, ha, hb, by
        rcases Nat.lt_trichotomy a b with h | h | h
        · omega
        · subst h; exact absurd rfl this
        · omega⟩
    · exact ⟨a, a + 1, oa, free cb ob _, ha, by omega, by omega⟩
  · exact ⟨b + 1, b, free ca oa _, ob, by omega, hb, by omega⟩
theorem ints_set (xs : List Int) (j : Nat) (x : Int) : (ints xs).set j (.int .i64 x) = ints (xs.set j x) := by simp [ints]
theorem strsV_ins (l : List ByteArray) (p : Nat) (s : ByteArray) : strsV (l.take p ++ [s] ++ l.drop p) = (strsV l).take p ++ [.string s] ++ (strsV l).drop p := by simp [strsV]
theorem ints_ins (l : List Int) (p : Nat) (s : Int) : ints (l.take p ++ [s] ++ l.drop p) = (ints l).take p ++ [.int .i64 s] ++ (ints l).drop p := by simp [ints]
theorem strs_one : ∀ l : List ByteArray, ∀ u ∈ strsV l, u.oneCell' = true := fun l u hu => by obtain ⟨z, _, rfl⟩ := List.mem_map.1 hu; rfl
theorem ints_one : ∀ l : List Int, ∀ u ∈ ints l, u.oneCell' = true := fun l u hu => by obtain ⟨z, _, rfl⟩ := List.mem_map.1 hu; rfl

end Go.Proofs.YthokekgdiebhjaaDoor
