/-
  Contracts of the laws' small words: rBig, and rInts, rTexts, rLists at equal values.
-/
import Derived.Test.YtekidodfcanjaaaGreatDoorRowsSS
import Derived.Test.YtekidodfcanjaaaGreatDoorStrs
import Derived.Test.YtekidodfcanjaaaGreatDoorBase
namespace Go.Proofs.YtekidodfcanjaaaGreatDoor
open Go.RowKit
set_option linter.unusedVariables false
set_option maxRecDepth 100000

theorem rBigT_calls (A : Option Addr) (n cap : Nat) (w : World) : Calls Tryz.prog 17 #[.slice A n cap] w fun e w' => e = .returned (.bool (decide (65536 < n))) ∧ w = w' := by
  by_cases h : 65536 < n
  · have h' : (65536 : Int) < (n : Int) := by omega
    go_enter Tryz.func17, Tryz.ntmps17
    go_wp2
    go_ret
    exact ⟨ret_bool (by simp [h]), rfl⟩
  · have h' : ¬ (65536 : Int) < (n : Int) := by omega
    go_enter Tryz.func17, Tryz.ntmps17
    go_wp2
    go_ret
    exact ⟨ret_bool (by simp), rfl⟩

set_option maxHeartbeats 2000000 in
theorem rInts_same (A B : Option Addr) (ca cb : Nat) (l : List Int) (w : World) (hn : l.length ≤ 1048576) (ha : Reads w w.heap.size 1 A l.length (ints l)) (hb : Reads w w.heap.size 1 B l.length (ints l)) :
    Calls Tryz.prog 27 #[.slice A l.length ca, .slice B l.length cb] w fun e w' => e = .returned (.bool true) ∧ Below w.heap.size w w' := by
  go_enter Tryz.func27, Tryz.ntmps27
  go_wp2
  go_loopw [5] (fun i wr => ∃ k : Nat, k ≤ l.length ∧ i = .int .i64 k ∧ Below w.heap.size w wr) (fun i _ => l.length - (intOf i).toNat)
  case atStart => exact ⟨0, Nat.zero_le _, rfl, Below.refl _ _⟩
  case round =>
    obtain ⟨k, hk, rfl, hbl⟩ := hrel
    by_cases hlt : k < l.length
    · obtain ⟨b, off, rfl, hb0, hc⟩ := (ha.below hbl).2 (by omega)
      obtain ⟨b', off', rfl, hb0', hc'⟩ := (hb.below hbl).2 (by omega)
      obtain ⟨x, hx⟩ := some_at l hlt
      have c1 : wr.cell? ⟨b, off + k, none⟩ = some (.int .i64 x) := hc k _ (ints_at l hx)
      have d1 : wr.cell? ⟨b', off' + k, none⟩ = some (.int .i64 x) := hc' k _ (ints_at l hx)
      have i1 : (k : Int) < (l.length : Int) := by omega
      have i0 : (0 : Int) ≤ (k : Int) := by omega
      clear hc hc' hx
      go_wp2
      go_quiet (fail)
      go_wp2
      go_roundw
      case rel => exact ⟨k + 1, by omega, by go_num, below_drewN hbl _⟩
      case measure => simp [intOf]; omega
    · obtain rfl : k = l.length := by omega
      go_wp2
      go_ret
      exact ⟨rfl, hbl⟩

set_option maxHeartbeats 2000000 in
theorem rLists_same (lo hi lo' hi' : Nat) (v v' : Value) (xs : List (List Int)) (w : World) (hx : OwnSS w lo hi v xs) (hy : OwnSS w lo' hi' v' xs) (hn : xs.length ≤ 1048576) (hm : ∀ r ∈ xs, r.length ≤ 1048576) :
    Calls Tryz.prog 23 #[v, v'] w fun e w' => e = .returned (.bool true) ∧ Below w.heap.size w w' := by
  obtain ⟨vs, o1, r1, -⟩ := hx
  obtain ⟨us, o2, r2, -⟩ := hy
  obtain ⟨A, ca, rfl, rd1, -, -⟩ := o1.slice
  obtain ⟨B, cb, rfl, rd2, -, -⟩ := o2.slice
  have HMX := Lib.hid hm
  clear hm o1 o2
  go_enter Tryz.func23, Tryz.ntmps23
  go_wp2
  go_loopw [5] (fun i wr => ∃ k : Nat, k ≤ xs.length ∧ i = .int .i64 k ∧ Below w.heap.size w wr)
    (fun i _ => xs.length - (intOf i).toNat)
  case atStart => exact ⟨0, Nat.zero_le _, rfl, Below.refl _ _⟩
  case round =>
    obtain ⟨k, hk, rfl, hb⟩ := hrel
    by_cases hlt : k < xs.length
    · obtain ⟨b, off, rfl, hb0, hc⟩ := rd1.2 (by omega)
      obtain ⟨b', off', rfl, hb0', hc'⟩ := rd2.2 (by omega)
      obtain ⟨x, hxk⟩ := some_at xs hlt
      obtain ⟨u, hu, ru⟩ := r1.at_ hxk
      obtain ⟨u', hu', ru'⟩ := r2.at_ hxk
      obtain ⟨Au, cu, rfl, -, -, -⟩ := (Own.of_row ru).slice
      obtain ⟨Bu, cu', rfl, -, -, -⟩ := (Own.of_row ru').slice
      have cx : wr.cell? ⟨b, off + k, none⟩ = some (.slice Au x.length cu) := (hb.cell hb0).trans (hc k _ hu)
      have cy : wr.cell? ⟨b', off' + k, none⟩ = some (.slice Bu x.length cu') := (hb.cell hb0').trans (hc' k _ hu')
      have hxl := HMX.out x (List.mem_of_getElem? hxk)
      have i1 : (k : Int) < (xs.length : Int) := by omega
      have i0 : (0 : Int) ≤ (k : Int) := by omega
      have RU := Lib.hid (show ∀ W, Below w.heap.size w W → Reads W W.heap.size 1 Au x.length (ints x) from fun W hW => Reads.of_own (row_below ru hW))
      have RU' := Lib.hid (show ∀ W, Below w.heap.size w W → Reads W W.heap.size 1 Bu x.length (ints x) from fun W hW => Reads.of_own (row_below ru' hW))
      clear hxk hc hc' hu hu' ru ru'
      have ha1 : (⟨b, off + k, none⟩ : Addr).block < w.heap.size := hb0
      have ha2 : (⟨b', off' + k, none⟩ : Addr).block < w.heap.size := hb0'
      have S0 : wr.cell? ⟨b, off + k, none⟩ = some (.slice Au x.length cu) ∧ wr.cell? ⟨b', off' + k, none⟩ = some (.slice Bu x.length cu') ∧ Below w.heap.size w wr := ⟨cx, cy, hb⟩
      go_wp2
      go_region_held3 (fun w' => w'.cell? ⟨b, off + k, none⟩ = some (.slice Au x.length cu) ∧ w'.cell? ⟨b', off' + k, none⟩ = some (.slice Bu x.length cu') ∧ Below w.heap.size w w') (first | exact S0 | exact pair_drew S0 | assumption | exact pair_step ha1 ha2 (by assumption) (by assumption) | exact pair_drew (by assumption)) (first | (go_at_call 27; refine (rInts_same Au Bu cu cu' x _ hxl (RU.out _ (by first | exact hb | exact hb.drew | (rename_i SS; exact SS.2.2) | assumption)) (RU'.out _ (by first | exact hb | exact hb.drew | (rename_i SS; exact SS.2.2) | assumption))).mono ?_; rintro e w1 ⟨rfl, hbw⟩))
      have S1 : w1.cell? ⟨b, off + k, none⟩ = some (.slice Au x.length cu) ∧ w1.cell? ⟨b', off' + k, none⟩ = some (.slice Bu x.length cu') ∧ Below w.heap.size w w1 := by assumption
      have hb3 := S1.2.2
      go_wp2
      go_roundw
      case rel => exact ⟨k + 1, by omega, by go_num, hb3⟩
      case measure => simp [intOf]; omega
    · obtain rfl : k = xs.length := by omega
      go_wp2
      go_ret
      exact ⟨rfl, hb⟩
end Go.Proofs.YtekidodfcanjaaaGreatDoor
