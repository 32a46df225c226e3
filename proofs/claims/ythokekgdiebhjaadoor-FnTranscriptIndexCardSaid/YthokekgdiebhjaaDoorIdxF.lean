/-
  The program's look-up of a word in its index, and whether a turn is listed.
-/
import Derived.Test.YthokekgdiebhjaaDoorIdxS
import Derived.Test.YthokekgdiebhjaaDoorBase
import Derived.Test.YthokekgdiebhjaaDoorShelf
namespace Go.Proofs.YthokekgdiebhjaaDoor
open Go.RowKit
set_option linter.unusedVariables false
set_option linter.unusedSimpArgs false
set_option maxRecDepth 100000


set_option maxHeartbeats 2000000 in
theorem idx1_calls (bx : Nat) (x y : ByteArray) (u : Value) (w : World) (hB : Box w bx 9 (.string x)) :
    Calls Tryd.prog 24 #[.agg #[.string y, u], .pointer (some ⟨bx, 0, none⟩)] w fun e w' => e = .returned (.bool (decide (y = x))) ∧ Below w.heap.size w w' := by
  have c1 := (Two.new w 33 (.string y) u).cell0
  have c2 := (hB.alloc (.cells #[.string y, u] 33)).cell
  have hbl := hB.lt
  by_cases he : y = x
  · subst he
    go_enter Tryd.func24, Tryd.ntmps24
    go_wp2
    go_ret
    exact ⟨by simp, (Below.refl _ _).alloc (Nat.le_refl _) _⟩
  · have hne := str_other he
    have HE := Lib.hid (decide_eq_false he)
    clear he
    go_enter Tryd.func24, Tryd.ntmps24
    go_wp2
    go_ret
    exact ⟨by rw [HE.out]; rfl, (Below.refl _ _).alloc (Nat.le_refl _) _⟩

def FindW (us : List ByteArray) (x : ByteArray) (r : Int) : Prop := (r = -1 ∧ x ∉ us) ∨ ∃ k : Nat, r = k ∧ us[k]? = some x
set_option maxHeartbeats 2000000 in
theorem IndexFunc_idx {lo : Nat} (v : Value) (bx : Nat) (L : List IdxD) (x : ByteArray) (w : World) (h : IdxS lo w v L) (hB : Box w bx 9 (.string x)) (hn : L.length ≤ 1048576) :
    Calls Tryd.prog 23 #[v, .func (.func 24) #[] #[.pointer (some ⟨bx, 0, none⟩)]] w fun e w' => (∃ r, e = .returned (.int .i64 r) ∧ FindW (L.map (·.1)) x r) ∧ Below w.heap.size w w' := by
  obtain ⟨A, c, rfl, hlc, hcm⟩ := h.slice
  have hin : ∀ args W, (callFunc 24 args).run Tryd.prog W = .ok (.enter 24 args) W := fun args W => run_enter Tryd.func24 (by kernel_rfl) rfl args W
  go_enter Tryd.func23, Tryd.ntmps23
  go_wp2
  go_loopw [8] (fun i wr => ∃ k : Nat, k ≤ L.length ∧ i = .int .i64 k ∧ (∀ (j : Nat) d, j < k → L[j]? = some d → d.1 ≠ x) ∧ Below w.heap.size w wr) (fun i _ => L.length - (intOf i).toNat)
  case atStart => exact ⟨0, Nat.zero_le _, rfl, fun j _ hj => absurd hj (Nat.not_lt_zero _), Below.refl _ _⟩
  case round =>
    obtain ⟨k, hk, rfl, hall, hb⟩ := hrel
    have HA := Lib.hid hall
    clear hall
    by_cases hlt : k < L.length
    · obtain ⟨g, cap, hv, -, -, -, -, -, hat⟩ := (h.far hb).open_ (by omega)
      injection hv with hva _ hvc
      subst hva hvc
      obtain ⟨⟨y, ts⟩, hy⟩ := some_at L hlt
      obtain ⟨u, d1, d2, -⟩ := hat k _ hy
      simp only at d1
      have HY := Lib.hid hy
      have HF1 := Lib.hid (idx1_calls bx x y u wr (hB.far hb))
      have i0 : (0 : Int) ≤ (k : Int) := by omega
      have i1 : (k : Int) < (L.length : Int) := by omega
      clear hy hat
      by_cases he : y = x
      · have HE := Lib.hid (decide_eq_true he)
        have HF := Lib.hid he
        clear he
        go_wp2_with fail
        refine HF1.out.mono ?_
        rw [HE.out]
        rintro e w1 ⟨rfl, b1⟩
        go_wp2
        go_ret
        exact ⟨⟨_, rfl, .inr ⟨k, rfl, by rw [List.getElem?_map, HY.out, ← HF.out]; rfl⟩⟩, hb.trans (b1.mono hb.size)⟩
      · have HE := Lib.hid (decide_eq_false he)
        have HN := Lib.hid he
        clear he
        go_wp2_with fail
        refine HF1.out.mono ?_
        rw [HE.out]
        rintro e w1 ⟨rfl, b1⟩
        go_wp2
        go_roundw
        case rel => exact ⟨k + 1, by omega, by go_num, fun j d hj hd => by
          rcases Nat.lt_or_ge j k with h | h
          · exact HA.out j d h hd
          · obtain rfl : j = k := by omega
            rw [HY.out] at hd
            obtain rfl := Option.some.inj hd
            exact HN.out, hb.trans (b1.mono hb.size)⟩
        case measure => simp [intOf]; omega
    · obtain rfl : k = L.length := by omega
      clear hin
      go_wp2
      go_ret
      refine ⟨⟨_, rfl, .inl ⟨rfl, fun hm => ?_⟩⟩, hb⟩
      obtain ⟨d, hd, e⟩ := List.mem_map.1 hm
      obtain ⟨j, hj⟩ := List.mem_iff_getElem?.1 hd
      exact HA.out j d (List.getElem?_eq_some_iff.1 hj).1 hj e

theorem contains_ints (A : Option Addr) (cap : Nat) (ts : List Int) (z : Int) (w : World) (h : Reads w w.heap.size 1 A ts.length (ints ts)) (hn : ts.length ≤ 1048576) :
    Calls Tryd.prog 48 #[.slice A ts.length cap, .int .i64 z] w fun e w' => e = .returned (.bool (decide (z ∈ ts))) ∧ w' = w := by
  by_cases h0 : ts.length = 0
  · have e0 : ts = [] := List.eq_nil_of_length_eq_zero h0
    subst e0
    refine (Tryd.slices_Contains_int_empty A cap z w).mono ?_
    rintro e w' ⟨rfl, rfl⟩
    exact ⟨by simp, rfl⟩
  · obtain ⟨b, off, rfl, -, hc⟩ := h.2 (by omega)
    refine (Tryd.slices_Contains_int b off ts.length cap ts z w (Nat.le_refl _) (by omega) (fun j hj => by obtain ⟨x, hx⟩ := some_at ts hj; rw [hc j _ (ints_at ts hx), List.getD_eq_getElem?_getD, hx]; rfl)).mono ?_
    rintro e w' ⟨rfl, rfl⟩
    refine ⟨?_, rfl⟩
    rw [List.take_of_length_le (Nat.le_refl _), List.contains_eq_mem]
set_option maxHeartbeats 1000000 in
theorem impl_has (A : Option Addr) (cap : Nat) (ts : List Int) (z : Int) (w : World) (h : Reads w w.heap.size 1 A ts.length (ints ts)) (hn : ts.length ≤ 1048576) :
    Calls Tryd.prog 25 #[.slice A ts.length cap, .int .i64 z] w fun e w' => e = .returned (.bool (decide (z ∈ ts))) ∧ w' = w := by
  have HC := Lib.hid (contains_ints A cap ts z w h hn)
  clear h
  go_enter Tryd.func25, Tryd.ntmps25
  go_wp2_with fail
  refine HC.out.mono ?_
  rintro e w1 ⟨rfl, rfl⟩
  go_wp2
  go_ret
  exact ⟨rfl, rfl⟩
end Go.Proofs.YthokekgdiebhjaaDoor
