/-
  The program's SplitWords at a text that splits; the laws' rTurns and rSum.
-/
import Derived.Test.YtnndkdkmhjpcpaaDoorTurnText
import Derived.Test.YtnndkdkmhjpcpaaDoorSpecText
import Derived.Test.YtnndkdkmhjpcpaaDoorBase
import Derived.Test.YtnndkdkmhjpcpaaDoorConcI
import Derived.Test.YtnndkdkmhjpcpaaDoorRText
namespace Go.Proofs.YtnndkdkmhjpcpaaDoor
open Go.RowKit
set_option linter.unusedVariables false
set_option linter.unusedSimpArgs false
set_option maxRecDepth 100000

theorem empty_size {x : ByteArray} : x = ⟨#[]⟩ ↔ x.size = 0 := by
  constructor
  · rintro rfl; rfl
  · intro h
    obtain ⟨⟨l⟩⟩ := x
    have : l = [] := List.eq_nil_of_length_eq_zero h
    subst this
    rfl
theorem impl_split1 (x : ByteArray) (w : World) : Calls Tryd.prog 57 #[.string x] w fun e w' => e = .returned (.bool (decide (x.size ≠ 0))) ∧ w = w' := by
  by_cases h : x = ⟨#[]⟩
  · subst h
    go_enter Tryd.func57, Tryd.ntmps57
    go_wp2
    go_ret
    exact ⟨rfl, rfl⟩
  · obtain ⟨h1, h2, h3⟩ := str_nonempty h
    have h4 : x.size ≠ 0 := fun e => h (empty_size.2 e)
    have H4 := Lib.hid h4
    clear h h4
    go_enter Tryd.func57, Tryd.ntmps57
    go_wp2
    go_ret
    exact ⟨ret_bool (by simp [H4.out]), rfl⟩

set_option maxHeartbeats 2000000 in
theorem impl_filter (f : Nat) (p : ByteArray → Bool) (A : Option Addr) (cap : Nat) (l : List ByteArray) (w : World) (hr : Reads w w.heap.size 1 A l.length (strsV l)) (hn : l.length ≤ 1048576)
    (hin : ∀ args W, (callFunc f args).run Tryd.prog W = .ok (.enter f args) W) (hcall : ∀ (x : ByteArray) (W : World), Calls Tryd.prog f #[.string x] W fun e w' => e = .returned (.bool (p x)) ∧ W = w') :
    Calls Tryd.prog 55 #[.slice A l.length cap, .func (.func f) #[] #[]] w (NewStrs (l.filter p) w) := by
  have HC := Lib.hid hcall
  clear hcall
  have on0 : (w.alloc (.cells #[] 9)).ownsRow w.heap.size 9 1 (.slice (some ⟨w.heap.size, 0, none⟩) 0 0) 0 [] := World.ownsRow_made _ _ _ (Nat.le_refl _) (by simp) rfl
  have b0 : Below w.heap.size w (w.alloc (.cells #[] 9)) := (Below.refl _ _).alloc (Nat.le_refl _) _
  go_enter Tryd.func55, Tryd.ntmps55
  go_wp2
  go_loopw [5, 11] (fun v i wr => ∃ k : Nat, k ≤ l.length ∧ i = .int .i64 k ∧ wr.ownsRow w.heap.size 9 1 v ((l.take k).filter p).length (strsV ((l.take k).filter p)) ∧ Below w.heap.size w wr) (fun _ i _ => l.length - (intOf i).toNat)
  case atStart => exact ⟨0, Nat.zero_le _, rfl, on0, b0⟩
  case round =>
    clear on0 b0
    obtain ⟨k, hk, rfl, own, hb⟩ := hrel
    have hz := hb.size
    have hfl : ((l.take k).filter p).length ≤ k := Nat.le_trans (List.length_filter_le _ _) (by rw [List.length_take]; exact Nat.min_le_left _ _)
    obtain ⟨Av, kv, rfl, -, -, -⟩ := (Own.of_row own).slice
    by_cases hlt : k < l.length
    · obtain ⟨b, off, rfl, hb0, hc⟩ := (hr.below hb).2 (by omega)
      obtain ⟨x, hx⟩ := some_at l hlt
      have c1 : wr.cell? ⟨b, off + k, none⟩ = some (.string x) := hc k _ (strsV_at hx)
      have HT := Lib.hid (take_succ_of hx)
      have i0 : (0 : Int) ≤ (k : Int) := by omega
      have i1 : (k : Int) < (l.length : Int) := by omega
      clear hx hc
      go_wp2_with fail
      refine (HC.out x _).mono ?_
      cases hp : p x
      · rintro e w3 ⟨rfl, rfl⟩
        have HP := Lib.hid hp
        clear hp
        go_wp2
        go_roundw
        case rel => exact ⟨k + 1, by omega, by go_num, by rw [HT.out, List.filter_append, List.filter_cons_of_neg (by simp [HP.out])]; simpa using own, hb⟩
        case measure => simp [intOf]; omega
      · rintro e w3 ⟨rfl, rfl⟩
        have HP := Lib.hid hp
        clear hp
        go_wp2_with (at_builtin; refine wpList_append_one own hz (.tmp 18) (.tmp 20) 36 Tryd.underlying36 info_string (by omega) (by unfold maxLen; omega) ⟨rfl, rfl, rfl, rfl, rfl, rfl⟩ (by simp) ?_; intro v5 w5 own5 gr5 at5)
        go_roundw
        case rel =>
          refine ⟨k + 1, by omega, by go_num, ?_, hb.trans gr5⟩
          rw [HT.out, List.filter_append, List.filter_cons_of_pos (by simp [HP.out]), List.filter_nil, strsV_snoc, List.length_append]
          exact own5
        case measure => simp [intOf]; omega
    · obtain rfl : k = l.length := by omega
      go_wp2
      go_ret
      refine ⟨.slice Av ((l.take l.length).filter p).length kv, rfl, ?_, hb⟩
      have o := Own.of_row own
      rw [List.take_length] at o ⊢
      exact o

theorem impl_SplitWords (s : ByteArray) (w : World) (hs : splitB s = true) (hm : MaxOk w) : Calls Tryd.prog 16 #[.string s] w fun e w' => ∃ v, e = .returned (.tuple #[v, .bool true]) ∧ Own w' w.heap.size w'.heap.size 9 1 v (wordsV s).length (strsV (wordsV s)) ∧ Below w.heap.size w w' := by
  have hs' := hs
  simp only [splitB, Bool.and_eq_true, decide_eq_true_eq] at hs'
  obtain ⟨h2, hw⟩ := hs'
  have i1 : ¬ (2000 : Int) < (s.size : Int) := by omega
  have HSP := Lib.hid (impl_Split s 32 w (by omega) hm)
  have HW := Lib.hid hw
  have hpl : (partsV 32 s).length ≤ 2001 := by
    have := partsV_length 32 s
    omega
  have hps : ∀ x ∈ partsV 32 s, x.size ≤ maxLen := fun x hx => by
    have := partsV_size 32 s x hx
    unfold maxLen
    omega
  have HPS := Lib.hid hps
  clear hm hs hw hps
  go_enter Tryd.func16, Tryd.ntmps16
  go_wp2_with fail
  refine HSP.out.mono ?_
  rintro e w1 ⟨v1, rfl, o1, b1⟩
  obtain ⟨A1, c1, rfl, r1, -, -⟩ := o1.slice
  clear HSP o1
  go_wp2_with fail
  refine (impl_filter 57 (fun x => decide (x.size ≠ 0)) A1 c1 (partsV 32 s) _ r1 (by omega) (fun args W => run_enter Tryd.func57 (by kernel_rfl) rfl args W) impl_split1).mono ?_
  rintro e w2 ⟨v2, rfl, o2, b2⟩
  change Own w2 _ _ _ _ v2 (wordsV s).length (strsV (wordsV s)) at o2
  obtain ⟨A2, c2, rfl, r2, -, -⟩ := o2.slice
  have O2 := Lib.hid o2
  have B2 := b1.trans (b2.mono b1.size)
  have hwl : (wordsV s).length ≤ 2001 := Nat.le_trans (List.length_filter_le _ _) hpl
  clear r1 o2
  go_wp2_with fail
  refine (impl_areWords A2 c2 (wordsV s) _ r2 (by omega) (fun x hx => HPS.out x ((List.mem_filter.1 hx).1))).mono ?_
  rw [HW.out]
  rintro e w3 ⟨rfl, b3⟩
  have B3 := B2.trans (b3.mono B2.size)
  have O3 := Lib.hid (O2.out.below b3)
  clear r2
  go_wp2
  go_ret2
  exact ⟨_, rfl, Own.of_row (O3.out.1.base (lo' := w.heap.size) b1.size), B3⟩

/-! ### The laws' own comparisons -/
set_option maxHeartbeats 2000000 in
theorem rSum_calls (A : Option Addr) (ca : Nat) (l : List Int) (w : World) (hr : Reads w w.heap.size 1 A l.length (ints l)) (hn : l.length ≤ 1000) (hz : ∀ z ∈ l, 0 ≤ z ∧ z ≤ 1000000) :
    Calls Tryd.prog 17 #[.slice A l.length ca] w fun e w' => e = .returned (.int .i64 l.sum) ∧ w = w' := by
  have HZ := Lib.hid hz
  clear hz
  go_enter Tryd.func17, Tryd.ntmps17
  go_wp2
  go_loop [3, 4] (fun s i => ∃ k : Nat, k ≤ l.length ∧ i = .int .i64 k ∧ s = .int .i64 (l.take k).sum ∧ 0 ≤ (l.take k).sum ∧ (l.take k).sum ≤ 1000000 * k) (fun _ i => l.length - (intOf i).toNat)
  case atStart => exact ⟨0, Nat.zero_le _, rfl, rfl, by simp, by simp⟩
  case round =>
    obtain ⟨k, hk, rfl, rfl, h0, h1⟩ := hrel
    by_cases hlt : k < l.length
    · obtain ⟨b, off, rfl, hb0, hc⟩ := hr.2 (by omega)
      obtain ⟨x, hx⟩ := some_at l hlt
      have c1 : w.cell? ⟨b, off + k, none⟩ = some (.int .i64 x) := hc k _ (ints_at _ hx)
      have hxz := HZ.out x (List.mem_of_getElem? hx)
      have hsum : (l.take (k + 1)).sum = (l.take k).sum + x := by rw [take_succ_of hx, List.sum_append]; simp
      have HS := Lib.hid hsum
      obtain ⟨s, hs⟩ : ∃ s, s = (l.take k).sum := ⟨_, rfl⟩
      rw [← hs] at h0 h1 HS ⊢
      have i0 : (0 : Int) ≤ (k : Int) := by omega
      have i1 : (k : Int) < (l.length : Int) := by omega
      clear hx hc hsum hs
      go_wp2
      go_round
      case rel => exact ⟨k + 1, by omega, by go_num, by first | (rw [HS.out]; done) | (rw [HS.out]; congr 1; exact IntWalk.i64_in _ (by omega)), by rw [HS.out]; omega, by rw [HS.out]; omega⟩
      case measure => simp [intOf]; omega
    · obtain rfl : k = l.length := by omega
      rw [List.take_length]
      go_wp2
      go_ret
      exact ⟨rfl, rfl⟩
end Go.Proofs.YtnndkdkmhjpcpaaDoor
