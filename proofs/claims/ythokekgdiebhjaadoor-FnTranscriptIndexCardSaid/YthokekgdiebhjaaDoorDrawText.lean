/-
  The reference's draw of a turn's text.
-/
import Derived.Test.YthokekgdiebhjaaDoorCur
import Derived.Test.YthokekgdiebhjaaDoorBase
namespace Go.Proofs.YthokekgdiebhjaaDoor
open Go.RowKit
set_option linter.unusedVariables false
set_option linter.unusedSimpArgs false
set_option maxRecDepth 100000

theorem new_atT {w : World} {xs : List Value} {e : TypeId} {j : Nat} {u : Value} (h : xs[j]? = some u) : (w.alloc (.cells xs.toArray e)).cell? ⟨w.heap.size, j, none⟩ = some u := by
  rw [World.cell?_alloc_mark]
  simpa using h
/-- A text of some list was drawn. -/
def DrewS (n g m : Nat) (w : World) (e : Ending) (w' : World) : Prop := ∃ t, e = .returned (.string t) ∧ t.size ≤ n ∧ Cur w' g m ∧ Only g (g + 1) w w'
def DrewIn (ts : List ByteArray) (g m : Nat) (w : World) (e : Ending) (w' : World) : Prop := ∃ t, e = .returned (.string t) ∧ t ∈ ts ∧ Cur w' g m ∧ Only g (g + 1) w w'
theorem only_allocT {lo hi : Nat} {a w : World} (h : Only lo hi a w) (o : Obj) : Only lo hi a (w.alloc o) := h.trans (Only.of_below ((Below.refl _ _).alloc (Nat.le_refl _) o))
theorem of_newT (g m : Nat) (ts : List ByteArray) (w : World) (h : Cur w g m) (hm : m ≤ 100000000) (h0 : 1 ≤ ts.length) (h9 : ts.length ≤ 65535) :
    Calls Tryd.prog 63 #[.pointer (some ⟨g, 0, none⟩), .slice (some ⟨w.heap.size, 0, none⟩) ts.length ts.length] (w.alloc (.cells (ts.map Value.string).toArray 9)) (DrewIn ts g (m + 2) w) := by
  have hg := h.1
  refine (of_calls g m w.heap.size ts.length ts _ (h.alloc _) hm h0 h9 (by omega) (by simp) (fun j t ht => new_atT (w := w) (xs := ts.map Value.string) (by simp [ht]))).mono ?_
  rintro e w' ⟨t, rfl, ht, hc, ho⟩
  exact ⟨t, rfl, ht, hc, (only_allocT (Only.refl w) _).trans ho⟩
def txA : List ByteArray := [⟨#[121, 101, 115]⟩, ⟨#[84, 104, 101]⟩, ⟨#[99, 111, 117, 114, 116]⟩, ⟨#[110, 111, 44]⟩, ⟨#[45, 45]⟩]
def txB : List ByteArray := [⟨#[116, 104, 101]⟩, ⟨#[84, 104, 101]⟩, ⟨#[99, 111, 117, 114, 116]⟩, ⟨#[119, 105, 108, 108]⟩, ⟨#[114, 105, 115, 101, 46]⟩, ⟨#[78, 111]⟩, ⟨#[110, 111, 44]⟩, ⟨#[105, 116, 39, 115]⟩, ⟨#[53]⟩]
def txC : List ByteArray := [⟨#[]⟩, ⟨#[32, 97]⟩, ⟨#[97, 32, 32, 98]⟩, ⟨#[97, 10]⟩]
theorem txA_size : ∀ t ∈ txA, t.size ≤ 10 := by
  intro t ht
  simp only [txA, List.mem_cons, List.not_mem_nil, or_false] at ht
  rcases ht with rfl | rfl | rfl | rfl | rfl <;> decide
theorem txB_size : ∀ t ∈ txB, t.size ≤ 10 := by
  intro t ht
  simp only [txB, List.mem_cons, List.not_mem_nil, or_false] at ht
  rcases ht with rfl | rfl | rfl | rfl | rfl | rfl | rfl | rfl | rfl <;> decide
theorem txC_size : ∀ t ∈ txC, t.size ≤ 10 := by
  intro t ht
  simp only [txC, List.mem_cons, List.not_mem_nil, or_false] at ht
  rcases ht with rfl | rfl | rfl | rfl <;> decide

set_option maxHeartbeats 4000000 in
theorem drawText_calls (g m : Nat) (w : World) (h : Cur w g m) (hm : m ≤ 50000000) : Calls Tryd.prog 64 #[.pointer (some ⟨g, 0, none⟩)] w (DrewS 100 g (m + 16) w) := by
  have HA := Lib.hid (of_newT g m txA w h (by omega) (by decide) (by decide))
  go_enter Tryd.func64, Tryd.ntmps64
  go_wp2_with fail
  refine HA.out.mono ?_
  rintro e w1 ⟨t1, rfl, ht1, hc1, ho1⟩
  have hs1 := txA_size t1 ht1
  clear HA ht1
  go_wp2_with fail
  refine (pick_calls g (m + 2) 5 _ hc1 (by omega) (by omega) (by omega)).mono ?_
  rintro e w2 ⟨x, rfl, hx, hc2, ho2⟩
  have HO2 := Lib.hid (ho1.trans ho2)
  have HC2 := Lib.hid hc2
  have hx5 : x < 5 := by omega
  clear hc1 ho1 ho2 hc2
  go_wp2
  go_loopw [3, 4] (fun v kv wr => ∃ (k : Nat) (t : ByteArray), k ≤ 4 ∧ kv = .int .i64 k ∧ v = .string t ∧ t.size + 11 * k ≤ 60 ∧ Cur wr g (m + 4 + 2 * (4 - k)) ∧ Only g (g + 1) w wr) (fun _ k _ => (intOf k).toNat)
  case atStart => exact ⟨x, t1, by omega, rfl, rfl, by omega, HC2.out.more (by omega), HO2.out⟩
  case round =>
    obtain ⟨k, t, hk, rfl, rfl, hts, hcur, hon⟩ := hrel
    have HK := Lib.hid hcur
    have HN := Lib.hid hon
    clear hcur hon
    rcases k with _ | k
    · go_wp2_with fail
      refine (one_calls g (m + 12) 25 _ (HK.out.more (by omega)) (by omega) (by omega) (by omega)).mono ?_
      rintro e w3 ⟨b1, rfl, hc3, ho3⟩
      have HC3 := Lib.hid hc3
      have HO3 := Lib.hid (HN.out.trans ho3)
      clear hc3 ho3
      cases b1
      · go_wp2
        go_ret
        exact ⟨t, rfl, by omega, HC3.out.more (by omega), HO3.out⟩
      · have HF := Lib.hid (of_newT g (m + 14) txC w3 HC3.out (by omega) (by decide) (by decide))
        go_wp2_with fail
        refine HF.out.mono ?_
        rintro e w4 ⟨t4, rfl, ht4, hc4, ho4⟩
        have HC4 := Lib.hid hc4
        have HO4 := Lib.hid (HO3.out.trans ho4)
        have hs4 := txC_size t4 ht4
        clear hc4 ho4 ht4
        go_wp2
        go_ret
        exact ⟨t4, rfl, by omega, HC4.out.more (by omega), HO4.out⟩
    · have HF := Lib.hid (of_newT g (m + 4 + 2 * (4 - (k + 1))) txB wr HK.out (by omega) (by decide) (by decide))
      have i0 : (0 : Int) < (k : Int) + 1 := by omega
      have y0 : ¬ (9223372036854775807 < t.size + 1) := by omega
      go_wp2_with fail
      refine HF.out.mono ?_
      rintro e w4 ⟨t4, rfl, ht4, hc4, ho4⟩
      have HC4 := Lib.hid hc4
      have HO4 := Lib.hid (HN.out.trans ho4)
      have hs4 := txB_size t4 ht4
      have y1 : ¬ (9223372036854775807 < t.size + 1 + t4.size) := by omega
      clear hc4 ho4 ht4
      go_wp2
      go_roundw
      case rel => exact ⟨k, _, by omega, by go_num, rfl, by simp only [ByteArray.size_append]; have : (⟨#[32]⟩ : ByteArray).size = 1 := rfl; omega, HC4.out.more (by omega), HO4.out⟩
      case measure => simp [intOf]
end Go.Proofs.YthokekgdiebhjaaDoor
