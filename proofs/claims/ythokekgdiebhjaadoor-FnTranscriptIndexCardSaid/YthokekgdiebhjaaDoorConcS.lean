/-
  The reference's Concordance.
-/
import Derived.Test.YthokekgdiebhjaaDoorConcPl
import Derived.Test.YthokekgdiebhjaaDoorBase
namespace Go.Proofs.YthokekgdiebhjaaDoor
open Go.RowKit
set_option linter.unusedVariables false
set_option maxRecDepth 100000

def ConcRes (l : List TurnD) (word : ByteArray) (wd : Int) (w : World) (e : Ending) (w' : World) : Prop :=
  ∃ v, e = .returned (.tuple #[v, .bool (concB l word wd)]) ∧ Own w' w.heap.size w'.heap.size 9 1 v (concL l word wd).length (strsV (concL l word wd)) ∧ Below w.heap.size w w'
theorem conc_no {l : List TurnD} {word : ByteArray} {wd : Int} {w w' : World} (h : concB l word wd = false) (hb : Below w.heap.size w w') : ConcRes l word wd w (.returned (.tuple #[.slice none 0 0, .bool false])) w' :=
  ⟨_, by rw [h], by rw [concL, h]; exact Own.none_, hb⟩

theorem spec_l21Words (s : ByteArray) (w : World) (hs : s.size ≤ 4194304) (ht : textB s = true) : Calls Tryd.prog 30 #[.string s] w (NewStrs (wordsV s) w) := by
  have HS := Lib.hid (text_split ht)
  clear ht
  go_enter Tryd.func30, Tryd.ntmps30
  go_wp2_with fail
  refine (spec_SplitWords s _ hs).mono ?_
  rintro e w1 ⟨v, rfl, hv, b1⟩
  have ho : Own w1 w.heap.size w1.heap.size 9 1 v (wordsV s).length (strsV (wordsV s)) := by
    rcases hv with h | h
    · exact h.2
    · rw [HS.out] at h; cases h.1
  clear hv
  go_wp2
  go_ret
  exact ⟨v, rfl, ho, b1⟩
theorem spec_l19Join_int (A : Option Addr) (cap : Nat) (l : List ByteArray) (x y : Int) (a b : Nat) (w : World) (hx : x = a) (hy : y = b) (hr : Reads w w.heap.size 1 A l.length (strsV l)) (hab : a ≤ b) (hbl : b ≤ l.length) (hn : l.length ≤ 1048576) (ht : ∀ t ∈ l, t.size ≤ 4194304) :
    Calls Tryd.prog 82 #[.slice A l.length cap, .int .i64 x, .int .i64 y] w fun e w' => e = .returned (.string (strB (joinR l a (b - a)))) ∧ w = w' := by
  subst hx hy
  exact spec_l19Join A cap l a b w hr hab hbl hn ht

end Go.Proofs.YthokekgdiebhjaaDoor
