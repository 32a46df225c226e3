/-
  A word without a blank is found as often as the concordance has lines; the words that are drawn.
-/
import Derived.Test.YtnndkdkmhjpcpaaDoorFindPl
namespace Go.Proofs.YtnndkdkmhjpcpaaDoor
set_option linter.unusedVariables false
set_option maxRecDepth 100000

theorem stands_one {zs : List ByteArray} {x y : ByteArray} {k : Nat} (h : zs[k]? = some y) : stands [x] zs k = decide (normS y = normS x) := by
  have hk : k < (normL zs).length := by rw [normL_length]; exact (List.getElem?_eq_some_iff.1 h).1
  have h1 : ((normL zs).drop k).take 1 = [normS y] := by
    rw [List.drop_eq_getElem_cons hk]
    have := normL_at h
    rw [List.getElem?_eq_getElem hk] at this
    injection this with this
    simp [this]
  unfold stands
  rw [List.length_singleton, h1]
  simp [normL]
theorem places_lines (zs : List ByteArray) (x : ByteArray) (i W : Nat) : ∀ m, m ≤ zs.length → (placesK [x] zs i m).length = (linesK zs (normS x) W m).length
  | 0, _ => by simp [placesK, linesK]
  | m + 1, hm => by
    have ih := places_lines zs x i W m (by omega)
    have hz : zs[m]? = some zs[m] := List.getElem?_eq_getElem (by omega)
    have hs := stands_one (x := x) hz
    by_cases hn : normS zs[m] = normS x
    · rw [placesK_yes (by rw [hs, hn]; simp), linesK_yes hz hn, List.length_append, List.length_append, ih]
      rfl
    · rw [placesK_no (by rw [hs]; simpa using hn), linesK_no hz hn, ih]
theorem placesT_linesT (ts : List TurnD) (x : ByteArray) (W : Nat) : ∀ k, k ≤ ts.length → (placesT [x] ts k).length = (linesT ts (normS x) W k).length
  | 0, _ => by simp [placesT, linesT]
  | k + 1, hk => by
    have ih := placesT_linesT ts x W k (by omega)
    have hz : ts[k]? = some ts[k] := List.getElem?_eq_getElem (by omega)
    rw [placesT_next hz, linesT_next hz, List.length_append, List.length_append, ih]
    have := places_lines (wordsV ts[k].2) x k W (wordsV ts[k].2).length (Nat.le_refl _)
    simp only [List.length_singleton, Nat.add_sub_cancel]
    omega
theorem conc_find {ts : List TurnD} {x : ByteArray} {wd : Int} (hx : wordsV x = [x]) (hc : concB ts x wd = true) (hf : findB ts x = true) : (findL ts x).length = (concL ts x wd).length := by
  rw [findL, if_pos hf, concL, if_pos hc, hx]
  exact placesT_linesT ts x _ _ (Nat.le_refl _)
def wdL : List ByteArray := [⟨#[116, 104, 101]⟩, ⟨#[99, 111, 117, 114, 116]⟩, ⟨#[78, 111]⟩, ⟨#[84, 72, 69, 44]⟩, ⟨#[114, 105, 115, 101]⟩, ⟨#[45, 45]⟩, ⟨#[120]⟩]
theorem wdL_words : ∀ t ∈ wdL, wordsV t = [t] := by
  intro t ht
  simp only [wdL, List.mem_cons, List.not_mem_nil, or_false] at ht
  rcases ht with rfl | rfl | rfl | rfl | rfl | rfl | rfl <;> decide
theorem wdL_size : ∀ t ∈ wdL, t.size ≤ 10 := by
  intro t ht
  simp only [wdL, List.mem_cons, List.not_mem_nil, or_false] at ht
  rcases ht with rfl | rfl | rfl | rfl | rfl | rfl | rfl <;> decide
end Go.Proofs.YtnndkdkmhjpcpaaDoor
