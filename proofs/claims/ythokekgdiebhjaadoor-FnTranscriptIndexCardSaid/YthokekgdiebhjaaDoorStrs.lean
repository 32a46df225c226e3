/-
  Slices of strings: l1Split, strings.Split, all over strings.
-/
import Derived.Test.YthokekgdiebhjaaDoorBase
import Derived.Test.YthokekgdiebhjaaDoorIn
import Derived.Test.YthokekgdiebhjaaDoorShelf
namespace Go.Proofs.YthokekgdiebhjaaDoor
open Go.RowKit
set_option linter.unusedVariables false
set_option maxRecDepth 100000

def strsV (l : List ByteArray) : List Value := l.map Value.string
theorem strsV_length (l : List ByteArray) : (strsV l).length = l.length := by simp [strsV]
theorem strsV_at {l : List ByteArray} {k : Nat} {x : ByteArray} (h : l[k]? = some x) : (strsV l)[k]? = some (.string x) := by simp [strsV, h]
theorem strsV_snoc (l : List ByteArray) (x : ByteArray) : strsV (l ++ [x]) = strsV l ++ [.string x] := by simp [strsV]
theorem info_string : (Tryd.prog.info? 9).map (fun i => (i.zero, i.size, i.bytes)) = some (some (.string ⟨#[]⟩), 1, 16) := by kernel_rfl

/-- A new slice of strings. -/
def NewStrs (l : List ByteArray) (w : World) (e : Ending) (w' : World) : Prop := ∃ v, e = .returned v ∧ Own w' w.heap.size w'.heap.size 9 1 v l.length (strsV l) ∧ Below w.heap.size w w'

/-! ### l1Split -/
def PartsAt (c : UInt8) (s : ByteArray) (k f : Nat) (d : List ByteArray) : Prop := parts c (s.data.toList.take k) = d.map (·.data.toList) ++ [(s.data.toList.take k).drop f]
theorem partsAt_zero (c : UInt8) (s : ByteArray) : PartsAt c s 0 0 [] := by simp [PartsAt, parts]
theorem take_byte {s : ByteArray} {k : Nat} (h : k < s.size) : s.data.toList.take (k + 1) = s.data.toList.take k ++ [s[k]] := by
  rw [List.take_succ_eq_append_getElem (by simpa using h)]
  rfl
theorem partsAt_sep {c : UInt8} {s : ByteArray} {k f : Nat} {d : List ByteArray} (h : PartsAt c s k f d) (hk : k < s.size) (hc : s[k] = c) (hf : f ≤ k) : PartsAt c s (k + 1) (k + 1) (d ++ [s.extract f k]) := by
  unfold PartsAt at *
  rw [take_byte hk, hc, parts_snoc_sep, h]
  have h1 : (s.data.toList.take k ++ [c]).drop (k + 1) = [] := List.drop_eq_nil_of_le (by simp only [List.length_append, List.length_take, List.length_singleton]; omega)
  rw [h1]
  simp [List.drop_take]
theorem partsAt_other {c : UInt8} {s : ByteArray} {k f : Nat} {d : List ByteArray} (h : PartsAt c s k f d) (hk : k < s.size) (hc : s[k] ≠ c) (hf : f ≤ k) : PartsAt c s (k + 1) f d := by
  unfold PartsAt at *
  obtain ⟨d', p, h1, h2⟩ := parts_snoc_other hc (s.data.toList.take k)
  rw [take_byte hk, h2]
  rw [h1] at h
  obtain ⟨h3, h4⟩ := List.append_inj' h rfl
  rw [h3]
  have hl : f ≤ (s.data.toList.take k).length := by
    rw [List.length_take]
    have : s.data.toList.length = s.size := rfl
    omega
  rw [List.drop_append_of_le_length hl]
  simp only [List.cons.injEq, and_true] at h4
  rw [h4]
theorem partsAt_end {c : UInt8} {s : ByteArray} {f : Nat} {d : List ByteArray} (h : PartsAt c s s.size f d) : partsV c s = d ++ [s.extract f s.size] := by
  unfold PartsAt at h
  have ht : s.data.toList.take s.size = s.data.toList := List.take_of_length_le (Nat.le_refl _)
  rw [ht] at h
  unfold partsV
  rw [h]
  simp only [List.map_append, List.map_map, List.map_cons, List.map_nil]
  congr 1
  · conv => rhs; rw [← List.map_id d]
    exact List.map_congr_left fun x _ => by cases x; simp
  · rw [← Lib.extract_to_end]

set_option maxHeartbeats 2000000 in
theorem spec_l1Split (s : ByteArray) (z : Int) (c : UInt8) (hz : z = (c.toNat : Int)) (w : World) (hs : s.size ≤ 4194304) :
    Calls Tryd.prog 83 #[.string s, .int .u8 z] w (NewStrs (partsV c s) w) := by
  subst hz
  go_enter Tryd.func83, Tryd.ntmps83
  go_wp2
  go_loopw [5, 6, 7] (fun v fr i wr => ∃ k f : Nat, ∃ d : List ByteArray, k ≤ s.size ∧ f ≤ k ∧ i = .int .i64 k ∧ fr = .int .i64 f ∧ wr.ownsRow w.heap.size 9 1 v d.length (strsV d) ∧ d.length ≤ k ∧ PartsAt c s k f d ∧ Below w.heap.size w wr) (fun _ _ i _ => s.size - (intOf i).toNat)
  case atStart => exact ⟨0, 0, [], Nat.zero_le _, Nat.zero_le _, rfl, rfl, World.ownsRow_made _ _ _ (Nat.le_refl _) (by simp) rfl, Nat.zero_le _, partsAt_zero c s, (Below.refl _ _).alloc (Nat.le_refl _) _⟩
  case round =>
    obtain ⟨k, f, d, hk, hf, rfl, rfl, hown, hdk, hp, hb⟩ := hrel
    have hsz := hb.size
    have HP := Lib.hid hp
    clear hp
    by_cases hlt : k < s.size
    · by_cases hc : s[k] = c
      · have he : ((s[k].toNat : Int) == (c.toNat : Int)) = true := by rw [hc]; simp
        have HC := Lib.hid hc
        clear hc
        go_wp2_with (at_builtin; refine wpList_append_one hown hsz (.tmp 20) (.tmp 25) 53 Tryd.underlying53 info_string (by omega) (by unfold maxLen; omega) ⟨rfl, rfl, rfl, rfl, rfl, rfl⟩ (by simp) ?_; intro v1 w1 hown1 hb1 _)
        go_roundw
        case rel => exact ⟨k + 1, k + 1, d ++ [s.extract f k], by omega, by omega, by go_num, by go_num, by rw [strsV_snoc, List.length_append]; exact hown1, by simp; omega, partsAt_sep HP.out hlt HC.out hf, hb.trans hb1⟩
        case measure => simp [intOf]; omega
      · have he : ((s[k].toNat : Int) == (c.toNat : Int)) = false := by
          rw [beq_eq_false_iff_ne]
          intro h
          exact hc (UInt8.toNat_inj.1 (by omega))
        have HC := Lib.hid hc
        clear hc
        go_wp2
        go_roundw
        case rel => exact ⟨k + 1, f, d, by omega, by omega, by go_num, rfl, hown, by omega, partsAt_other HP.out hlt HC.out hf, hb⟩
        case measure => simp [intOf]; omega
    · obtain rfl : k = s.size := by omega
      go_wp2_with (at_builtin; refine wpList_append_one hown hsz (.tmp 29) (.tmp 33) 53 Tryd.underlying53 info_string (by omega) (by unfold maxLen; omega) ⟨rfl, rfl, rfl, rfl, rfl, rfl⟩ (by simp) ?_; intro v1 w1 hown1 hb1 _)
      go_ret
      exact ⟨_, rfl, by rw [partsAt_end HP.out, strsV_snoc, List.length_append]; exact Own.of_row hown1, hb.trans hb1⟩

/-! ### strings.Split at one byte -/
def MaxOk (w : World) : Prop := ∃ m : Int, w.cell? ⟨0, 0, none⟩ = some (.int .i64 m)
theorem MaxOk.below {w w' : World} (h : MaxOk w) (hb : Below w.heap.size w w') : MaxOk w' := by
  obtain ⟨m, hm⟩ := h
  exact ⟨m, (hb.cell (p := ⟨_, 0, none⟩) (World.block_lt_of_cell? w _ hm)).trans hm⟩
theorem impl_Split (s : ByteArray) (c : UInt8) (w : World) (hs : s.size ≤ 4194304) (hm : MaxOk w) : Calls Tryd.prog 35 #[.string s, .string ⟨#[c]⟩] w (NewStrs (partsV c s) w) := by
  obtain ⟨m, hm⟩ := hm
  refine (Tryd.strings_Split s ⟨#[c]⟩ m w (by omega) hm (Nat.le_refl 1)).mono ?_
  rintro e w1 ⟨rfl, rfl⟩
  rw [splitB_parts, countB_parts]
  have hl : ((strsV (partsV c s)).toArray).size = (partsV c s).length * 1 := by simp [strsV]
  refine ⟨_, rfl, ⟨?_, fun g hg => by simp [Value.ownBlock] at hg; subst hg; simp⟩, (Below.refl _ _).alloc (Nat.le_refl _) _⟩
  have hc : (partsV c s).length ≤ maxLen := by
    have h1 := parts_count c s.data.toList
    have h2 : s.data.toList.count c ≤ s.data.toList.length := List.count_le_length
    have h3 : s.data.toList.length = s.size := rfl
    unfold maxLen partsV
    rw [List.length_map]
    omega
  have h := World.ownsRow_lit (base := w.heap.size) (e := 9) (size := 1) w (strsV (partsV c s)).toArray (partsV c s).length (Nat.le_refl _) hc hl
  simpa [strsV] using h

/-! ### all over strings -/
set_option maxHeartbeats 1000000 in
theorem IndexFunc_str (f : Nat) (caps : Array Value) (p : ByteArray → Bool) (A : Option Addr) (cap : Nat) (l : List ByteArray) (w : World) (hr : Reads w w.heap.size 1 A l.length (strsV l)) (hn : l.length ≤ 8388608)
    (hcall : ∀ x ∈ l, Calls Tryd.prog f (#[.string x] ++ caps) w fun e w' => e = .returned (.bool (p x)) ∧ w = w')
    (hin : ∀ args W, (callFunc f args).run Tryd.prog W = .ok (.enter f args) W) :
    Calls Tryd.prog 108 #[.slice A l.length cap, .func (.func f) #[] caps] w fun e w' => ∃ i : Int, e = .returned (.int .i64 i) ∧ (decide (0 ≤ i) = l.any p) ∧ w = w' := by
  go_enter Tryd.func108, Tryd.ntmps108
  go_wp2
  go_loop [8] (fun i => ∃ k : Nat, k ≤ l.length ∧ i = .int .i64 k ∧ ∀ j x, j < k → l[j]? = some x → p x = false)
    (fun i => l.length - (intOf i).toNat)
  case atStart => exact ⟨0, Nat.zero_le _, rfl, fun j _ hj => absurd hj (Nat.not_lt_zero _)⟩
  case round =>
    obtain ⟨k, hk, rfl, hall⟩ := hrel
    have HA := Lib.hid hall
    clear hall
    by_cases hlt : k < l.length
    · obtain ⟨b, off, rfl, hb0, hc⟩ := hr.2 (by omega)
      obtain ⟨x, hx⟩ := some_at l hlt
      have cx : w.cell? ⟨b, off + k, none⟩ = some (.string x) := hc k _ (strsV_at hx)
      have HX := Lib.hid hx
      have HC := Lib.hid (hcall x (List.mem_of_getElem? hx))
      clear hx hc hcall
      cases hp : p x
      · go_wp2_with fail
        refine HC.out.mono ?_
        rintro e w' ⟨rfl, rfl⟩
        go_wp2
        go_round
        case rel => exact ⟨k + 1, by omega, by go_num, fun j y hj hy => by
          rcases Nat.lt_or_ge j k with h | h
          · exact HA.out j y h hy
          · obtain rfl : j = k := by omega
            rw [HX.out] at hy
            rw [← Option.some.inj hy]; exact hp⟩
        case measure => simp [intOf]; omega
      · go_wp2_with fail
        refine HC.out.mono ?_
        rintro e w' ⟨rfl, rfl⟩
        go_wp2
        go_ret
        refine ⟨_, rfl, ?_, rfl⟩
        have : l.any p = true := List.any_eq_true.2 ⟨x, List.mem_of_getElem? HX.out, hp⟩
        rw [this]
        simp
    · obtain rfl : k = l.length := by omega
      clear hcall
      go_wp2
      go_ret
      refine ⟨_, rfl, ?_, rfl⟩
      have : l.any p = false := by
        rw [List.any_eq_false]
        intro x hx
        obtain ⟨j, hj⟩ := List.mem_iff_getElem?.1 hx
        rw [HA.out j x (List.getElem?_eq_some_iff.1 hj).1 hj]
        simp
      rw [this]
      rfl
theorem ContainsFunc_str (f : Nat) (caps : Array Value) (p : ByteArray → Bool) (A : Option Addr) (cap : Nat) (l : List ByteArray) (w : World) (hr : Reads w w.heap.size 1 A l.length (strsV l)) (hn : l.length ≤ 8388608)
    (hcall : ∀ x ∈ l, Calls Tryd.prog f (#[.string x] ++ caps) w fun e w' => e = .returned (.bool (p x)) ∧ w = w')
    (hin : ∀ args W, (callFunc f args).run Tryd.prog W = .ok (.enter f args) W) :
    Calls Tryd.prog 99 #[.slice A l.length cap, .func (.func f) #[] caps] w fun e w' => e = .returned (.bool (l.any p)) ∧ w = w' := by
  have HH := Lib.hid (IndexFunc_str f caps p A cap l w hr hn hcall hin)
  clear hcall hin
  go_enter Tryd.func99, Tryd.ntmps99
  go_wp2_with fail
  refine HH.out.mono ?_
  rintro e w' ⟨i, rfl, hi, rfl⟩
  have HI := Lib.hid hi
  clear hi
  go_wp2
  go_ret
  exact ⟨ret_bool HI.out, rfl⟩
theorem all1_str (f : Nat) (p : ByteArray → Bool) (x : ByteArray) (a : Addr) (w : World) (ha : w.cell? a = some (.func (.func f) #[] #[]))
    (hin : ∀ args W, (callFunc f args).run Tryd.prog W = .ok (.enter f args) W)
    (hcall : ∀ (W : World), Calls Tryd.prog f #[.string x] W fun e w' => e = .returned (.bool (p x)) ∧ W = w') :
    Calls Tryd.prog 100 #[.string x, .pointer (some a)] w fun e w' => e = .returned (.bool (!p x)) ∧ w = w' := by
  have HC := Lib.hid hcall
  clear hcall
  go_enter Tryd.func100, Tryd.ntmps100
  go_wp2_with fail
  refine (HC.out _).mono ?_
  rintro e w' ⟨rfl, rfl⟩
  go_wp2
  go_ret
  exact ⟨rfl, rfl⟩
/-- all(list, f), f a quiet function. -/
theorem all_str (f : Nat) (p : ByteArray → Bool) (A : Option Addr) (cap : Nat) (l : List ByteArray) (w : World) (hr : Reads w w.heap.size 1 A l.length (strsV l)) (hn : l.length ≤ 8388608)
    (hin : ∀ args W, (callFunc f args).run Tryd.prog W = .ok (.enter f args) W)
    (hcall : ∀ x ∈ l, ∀ (W : World), Calls Tryd.prog f #[.string x] W fun e w' => e = .returned (.bool (p x)) ∧ W = w') :
    Calls Tryd.prog 85 #[.slice A l.length cap, .func (.func f) #[] #[]] w fun e w' => e = .returned (.bool (l.all p)) ∧ Below w.heap.size w w' := by
  have hmf : ∀ (fn : Fn) (first cap : Array Value) (w : World), (Instr.makeFunc fn first cap).run Tryd.prog w = .ok (.func fn first cap) w := fun _ _ _ _ => rfl
  have hb : Below w.heap.size w (w.alloc (.cells #[.func (.func f) #[] #[]] 62)) := (Below.refl _ _).alloc (Nat.le_refl _) _
  have hc := ContainsFunc_str 100 #[.pointer (some ⟨w.heap.size, 0, none⟩)] (fun x => !p x) A cap l (w.alloc (.cells #[.func (.func f) #[] #[]] 62)) ((hr.alloc (Nat.le_refl _) _).more (by simp)) hn
    (fun x hx => all1_str f p x _ _ (by simp [World.cell?_alloc_at]) hin (hcall x hx)) (fun args W => run_enter Tryd.func100 (by kernel_rfl) rfl args W)
  have HC := Lib.hid hc
  clear hc hcall hin
  go_enter Tryd.func85, Tryd.ntmps85
  go_wp2_with fail
  refine HC.out.mono ?_
  rintro e w' ⟨rfl, rfl⟩
  go_wp2
  go_ret
  exact ⟨ret_bool (by simp [List.all_eq_not_any_not]), hb⟩
end Go.Proofs.YthokekgdiebhjaaDoor
