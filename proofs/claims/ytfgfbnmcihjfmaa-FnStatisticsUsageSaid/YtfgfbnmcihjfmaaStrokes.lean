/-
  Contracts over lists of strokes: validity, the reference's and the program's.
-/
import Derived.Test.YtfgfbnmcihjfmaaInts
namespace Go.Proofs.Ytfgfbnmcihjfmaa
open Go.RowKit
set_option linter.unusedVariables false

theorem spec_l2Good (n : Int) (w : World) : Calls Try.prog 35 #[.int .i64 n] w fun e w' => e = .returned (.bool (inB n 1 8388607)) ∧ w = w' := by
  go_enter Try.func35, Try.ntmps35
  go_wp2_with (go_at_call 44; refine (spec_l1In _ _ _ _).mono ?_; rintro e w' ⟨rfl, rfl⟩)
  go_ret
  exact ⟨rfl, rfl⟩
theorem impl_IsValidStroke (n : Int) (w : World) : Calls Try.prog 37 #[.int .i64 n] w fun e w' => e = .returned (.bool (inB n 1 8388607)) ∧ w = w' := by
  go_enter Try.func37, Try.ntmps37
  go_wp2_with (go_at_call 47; refine (impl_in _ _ _ _).mono ?_; rintro e w' ⟨rfl, rfl⟩)
  go_ret
  exact ⟨rfl, rfl⟩

def goodB (zs : List Int) : Bool := zs.all fun s => inB s 1 8388607
def strokesB (zs : List Int) : Bool := decide (zs.length ≤ 60) && goodB zs
theorem good_false {zs : List Int} {k : Nat} {x : Int} (hx : zs[k]? = some x) (h : inB x 1 8388607 = false) : goodB zs = false := by
  unfold goodB
  rw [List.all_eq_false]
  exact ⟨x, List.mem_of_getElem? hx, by simp [h]⟩
theorem good_true {zs : List Int} (h : ∀ (j : Nat) (x : Int), zs[j]? = some x → inB x 1 8388607 = true) : goodB zs = true := by
  unfold goodB
  rw [List.all_eq_true]
  intro x hx
  obtain ⟨j, hj⟩ := List.mem_iff_getElem?.1 hx
  exact h j x hj

set_option maxHeartbeats 1000000 in
theorem spec_l7Strokes (A : Option Addr) (cap : Nat) (zs : List Int) (w : World) (hr : Reads w w.heap.size 1 A zs.length (ints zs)) (hn : zs.length ≤ 1048576) :
    Calls Try.prog 18 #[.slice A zs.length cap] w fun e w' => e = .returned (.bool (strokesB zs)) ∧ w = w' := by
  go_enter Try.func18, Try.ntmps18
  go_wp2
  go_loop [3] (fun i => ∃ k : Nat, k ≤ zs.length ∧ i = .int .i64 k ∧ ∀ j x, j < k → zs[j]? = some x → inB x 1 8388607 = true)
    (fun i => zs.length - (intOf i).toNat)
  case atStart => exact ⟨0, Nat.zero_le _, rfl, fun j _ hj => absurd hj (Nat.not_lt_zero _)⟩
  case round =>
    obtain ⟨k, hk, rfl, hall⟩ := hrel
    have HA := Lib.hid hall
    clear hall
    by_cases hlt : k < zs.length
    · obtain ⟨b, off, rfl, hb0, hc⟩ := hr.2 (by omega)
      obtain ⟨x, hx⟩ := some_at zs hlt
      have cx : w.cell? ⟨b, off + k, none⟩ = some (.int .i64 x) := hc k _ (ints_at zs hx)
      have HX := Lib.hid hx
      clear hx hc
      by_cases hg : inB x 1 8388607 = true
      · go_wp2_with (go_at_call 35; refine (spec_l2Good _ _).mono ?_; rintro e w' ⟨rfl, rfl⟩)
        go_round
        case rel => exact ⟨k + 1, by omega, by go_num, fun j y hj hy => by
          rcases Nat.lt_or_ge j k with h | h
          · exact HA.out j y h hy
          · obtain rfl : j = k := by omega
            rw [HX.out] at hy
            rw [← Option.some.inj hy]; exact hg⟩
        case measure => simp [intOf]; omega
      · have hg' : inB x 1 8388607 = false := by simpa using hg
        clear hg
        go_wp2_with (go_at_call 35; refine (spec_l2Good _ _).mono ?_; rintro e w' ⟨rfl, rfl⟩)
        go_ret
        exact ⟨ret_bool (by simp [strokesB, good_false HX.out hg']), rfl⟩
    · obtain rfl : k = zs.length := by omega
      go_wp2
      go_ret
      have hg := good_true fun j x h => HA.out j x (List.getElem?_eq_some_iff.1 h).1 h
      exact ⟨ret_bool (by simp only [strokesB, hg, Bool.and_true]; exact decide_eq_decide.2 (by omega)), rfl⟩

set_option maxHeartbeats 1000000 in
/-- slices.IndexFunc over ints, whatever quiet function value. -/
theorem IndexFunc_int (f : Nat) (caps : Array Value) (p : Int → Bool) (A : Option Addr) (cap : Nat) (zs : List Int) (w : World) (hr : Reads w w.heap.size 1 A zs.length (ints zs)) (hn : zs.length ≤ 1048576)
    (hin : ∀ args W, (callFunc f args).run Try.prog W = .ok (.enter f args) W)
    (hcall : ∀ x : Int, Calls Try.prog f (#[.int .i64 x] ++ caps) w fun e w' => e = .returned (.bool (p x)) ∧ w = w') :
    Calls Try.prog 61 #[.slice A zs.length cap, .func (.func f) #[] caps] w fun e w' => ∃ i : Int, e = .returned (.int .i64 i) ∧ (decide (0 ≤ i) = zs.any p) ∧ w = w' := by
  go_enter Try.func61, Try.ntmps61
  go_wp2
  go_loop [8] (fun i => ∃ k : Nat, k ≤ zs.length ∧ i = .int .i64 k ∧ ∀ j x, j < k → zs[j]? = some x → p x = false)
    (fun i => zs.length - (intOf i).toNat)
  case atStart => exact ⟨0, Nat.zero_le _, rfl, fun j _ hj => absurd hj (Nat.not_lt_zero _)⟩
  case round =>
    obtain ⟨k, hk, rfl, hall⟩ := hrel
    have HA := Lib.hid hall
    clear hall
    by_cases hlt : k < zs.length
    · obtain ⟨b, off, rfl, hb0, hc⟩ := hr.2 (by omega)
      obtain ⟨x, hx⟩ := some_at zs hlt
      have cx : w.cell? ⟨b, off + k, none⟩ = some (.int .i64 x) := hc k _ (ints_at zs hx)
      have HX := Lib.hid hx
      have HC := Lib.hid hcall
      clear hx hc hcall
      cases hp : p x
      · go_wp2_with fail
        refine (HC.out x).mono ?_
        rintro e w' ⟨rfl, rfl⟩
        go_wp2
        go_round
        case rel => exact ⟨k + 1, by omega, by go_num, fun j y hj hy => by
          rcases Nat.lt_or_ge j k with h | h
          · exact HA.out j y h hy
          · obtain rfl : j = k := by omega
            rw [HX.out] at hy
            rw [← Option.some.inj hy]; exact hp⟩
        case measure => simp [intOf]; omega
      · go_wp2_with fail
        refine (HC.out x).mono ?_
        rintro e w' ⟨rfl, rfl⟩
        go_wp2
        go_ret
        refine ⟨_, rfl, ?_, rfl⟩
        have : zs.any p = true := List.any_eq_true.2 ⟨x, List.mem_of_getElem? HX.out, hp⟩
        rw [this]
        simp
    · obtain rfl : k = zs.length := by omega
      clear hcall
      go_wp2
      go_ret
      refine ⟨_, rfl, ?_, rfl⟩
      have : zs.any p = false := by
        rw [List.any_eq_false]
        intro x hx
        obtain ⟨j, hj⟩ := List.mem_iff_getElem?.1 hx
        rw [HA.out j x (List.getElem?_eq_some_iff.1 hj).1 hj]
        simp
      rw [this]
      rfl

theorem ContainsFunc_int (f : Nat) (caps : Array Value) (p : Int → Bool) (A : Option Addr) (cap : Nat) (zs : List Int) (w : World) (hr : Reads w w.heap.size 1 A zs.length (ints zs)) (hn : zs.length ≤ 1048576)
    (hin : ∀ args W, (callFunc f args).run Try.prog W = .ok (.enter f args) W)
    (hcall : ∀ x : Int, Calls Try.prog f (#[.int .i64 x] ++ caps) w fun e w' => e = .returned (.bool (p x)) ∧ w = w') :
    Calls Try.prog 45 #[.slice A zs.length cap, .func (.func f) #[] caps] w fun e w' => e = .returned (.bool (zs.any p)) ∧ w = w' := by
  have H := IndexFunc_int f caps p A cap zs w hr hn hin hcall
  have HH := Lib.hid H
  clear H hcall hin
  go_enter Try.func45, Try.ntmps45
  go_wp2_with fail
  refine HH.out.mono ?_
  rintro e w' ⟨i, rfl, hi, rfl⟩
  have HI := Lib.hid hi
  clear hi
  go_wp2
  go_ret
  exact ⟨ret_bool HI.out, rfl⟩

theorem all1_int (f : Nat) (p : Int → Bool) (x : Int) (a : Addr) (w : World) (ha : w.cell? a = some (.func (.func f) #[] #[]))
    (hin : ∀ args W, (callFunc f args).run Try.prog W = .ok (.enter f args) W)
    (hcall : ∀ (x : Int) (W : World), Calls Try.prog f #[.int .i64 x] W fun e w' => e = .returned (.bool (p x)) ∧ W = w') :
    Calls Try.prog 46 #[.int .i64 x, .pointer (some a)] w fun e w' => e = .returned (.bool (!p x)) ∧ w = w' := by
  have HC := Lib.hid hcall
  clear hcall
  go_enter Try.func46, Try.ntmps46
  go_wp2_with fail
  refine (HC.out x _).mono ?_
  rintro e w' ⟨rfl, rfl⟩
  go_wp2
  go_ret
  exact ⟨rfl, rfl⟩

/-- all(list, f), f a quiet function. -/
theorem all_int (f : Nat) (p : Int → Bool) (A : Option Addr) (cap : Nat) (zs : List Int) (w : World) (hr : Reads w w.heap.size 1 A zs.length (ints zs)) (hn : zs.length ≤ 1048576)
    (hin : ∀ args W, (callFunc f args).run Try.prog W = .ok (.enter f args) W)
    (hcall : ∀ (x : Int) (W : World), Calls Try.prog f #[.int .i64 x] W fun e w' => e = .returned (.bool (p x)) ∧ W = w') :
    Calls Try.prog 36 #[.slice A zs.length cap, .func (.func f) #[] #[]] w fun e w' => e = .returned (.bool (zs.all p)) ∧ Below w.heap.size w w' := by
  have hmf : ∀ (fn : Fn) (first cap : Array Value) (w : World), (Instr.makeFunc fn first cap).run Try.prog w = .ok (.func fn first cap) w := fun _ _ _ _ => rfl
  have hb : Below w.heap.size w (w.alloc (.cells #[.func (.func f) #[] #[]] 46)) := (Below.refl _ _).alloc (Nat.le_refl _) _
  have hc := ContainsFunc_int 46 #[.pointer (some ⟨w.heap.size, 0, none⟩)] (fun x => !p x) A cap zs (w.alloc (.cells #[.func (.func f) #[] #[]] 46)) ((hr.alloc (Nat.le_refl _) _).more (by simp)) hn
    (fun args W => run_enter Try.func46 (by kernel_rfl) rfl args W) (fun x => all1_int f p x _ _ (by simp [World.cell?_alloc_at]) hin hcall)
  have HC := Lib.hid hc
  clear hc hcall hin
  go_enter Try.func36, Try.ntmps36
  go_wp2_with fail
  refine HC.out.mono ?_
  rintro e w' ⟨rfl, rfl⟩
  go_wp2
  go_ret
  exact ⟨ret_bool (by simp [List.all_eq_not_any_not]), hb⟩

theorem impl_isStrokeList (A : Option Addr) (cap : Nat) (zs : List Int) (w : World) (hr : Reads w w.heap.size 1 A zs.length (ints zs)) (hn : zs.length ≤ 1048576) :
    Calls Try.prog 19 #[.slice A zs.length cap] w fun e w' => e = .returned (.bool (strokesB zs)) ∧ Below w.heap.size w w' := by
  have hc := all_int 37 (fun s => inB s 1 8388607) A cap zs w hr hn (fun args W => run_enter Try.func37 (by kernel_rfl) rfl args W) impl_IsValidStroke
  have HC := Lib.hid hc
  clear hc
  by_cases hl : zs.length ≤ 60
  · go_enter Try.func19, Try.ntmps19
    go_wp2_with fail
    refine HC.out.mono ?_
    rintro e w' ⟨rfl, hb⟩
    go_wp2
    go_ret
    exact ⟨ret_bool (by simp [strokesB, hl, goodB]), hb⟩
  · go_enter Try.func19, Try.ntmps19
    go_wp2
    go_ret
    exact ⟨ret_bool (by simp [strokesB]; omega), Below.refl _ _⟩
end Go.Proofs.Ytfgfbnmcihjfmaa
