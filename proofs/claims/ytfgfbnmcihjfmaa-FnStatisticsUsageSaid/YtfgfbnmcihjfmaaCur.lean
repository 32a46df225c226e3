/-
  The cursor of the reference's draws: next, pick, one, of, among. What is drawn is any number in the bounds.
-/
import Derived.Test.YtfgfbnmcihjfmaaIn
import Derived.Test.YtfgfbnmcihjfmaaBase
import Derived.StillTailTactics
import Derived.IntWalk
namespace Go.Proofs.Ytfgfbnmcihjfmaa
open Go.RowKit
set_option linter.unusedVariables false

/-- Block g is a cursor over bytes that lie below it; its place is at most m. -/
def Cur (w : World) (g m : Nat) : Prop :=
  g < w.heap.size ∧ (∀ j, w.frozen? ⟨g, j, none⟩ = false) ∧ ∃ (A : Option Addr) (n cap : Nat) (zs : List Int) (at_ : Nat) (seed : Int),
    w.cell? ⟨g, 0, none⟩ = some (.slice A n cap) ∧ w.cell? ⟨g, 1, none⟩ = some (.int .i64 at_) ∧ w.cell? ⟨g, 2, none⟩ = some (.int .u64 seed) ∧ at_ ≤ m ∧ n ≤ maxLen ∧ zs.length = n ∧
    Reads w g 1 A n (zs.map (Value.int .u8)) ∧ ∀ z ∈ zs, 0 ≤ z ∧ z ≤ 255
theorem Cur.more {w : World} {g m m' : Nat} (h : Cur w g m) (hm : m ≤ m') : Cur w g m' := by
  obtain ⟨h1, h2, A, n, cap, zs, a, s, c0, c1, c2, ha, hn, hz, hr, hb⟩ := h
  exact ⟨h1, h2, A, n, cap, zs, a, s, c0, c1, c2, by omega, hn, hz, hr, hb⟩
theorem Cur.drew {w : World} {g m : Nat} (h : Cur w g m) : Cur w.drew g m := h
theorem Cur.drewN {w : World} {g m : Nat} (h : Cur w g m) (n : Nat) : Cur (w.drewN n) g m := h
theorem Cur.below {w w' : World} {g m : Nat} (h : Cur w g m) (hb : Below (g + 1) w w') : Cur w' g m := by
  obtain ⟨h1, h2, A, n, cap, zs, a, s, c0, c1, c2, ha, hn, hz, hr, hy⟩ := h
  exact ⟨Nat.lt_of_lt_of_le h1 hb.size, fun j => (hb.frozen (by simp)).trans (h2 j), A, n, cap, zs, a, s, (hb.cell (by simp)).trans c0, (hb.cell (by simp)).trans c1, (hb.cell (by simp)).trans c2, ha, hn, hz, hr.below (hb.mono (by omega)), hy⟩
theorem Cur.alloc {w : World} {g m : Nat} (h : Cur w g m) (o : Obj) : Cur (w.alloc o) g m := h.below ((Below.refl _ _).alloc (by have := h.1; omega) o)
theorem wrap_small (y : Nat) (h : y ≤ 255) : IntKind.u64.wrap (y : Int) = y := by
  simp only [IntKind.wrap, IntKind.signed, IntKind.bits]
  simp
  omega
theorem wrap64_small (y : Nat) (h : y ≤ 255) : wrap64 (y : Int) = y := by
  unfold wrap64
  omega
theorem bits_255 (x : Int) : ∃ y : Nat, bits .and .u64 x 255 = y ∧ y ≤ 255 := by
  have h1 : (BitVec.ofInt 64 x &&& BitVec.ofInt 64 255).toNat ≤ 255 := by
    rw [BitVec.toNat_and]
    exact Nat.le_trans Nat.and_le_right (by decide)
  exact ⟨_, wrap_small _ h1, h1⟩

/-- A draw moved the cursor and gave a number below n. -/
def Drew (g m : Nat) (n : Int) (w : World) (e : Ending) (w' : World) : Prop := ∃ x : Nat, e = .returned (.int .i64 x) ∧ (x : Int) < n ∧ Cur w' g m ∧ Only g (g + 1) w w'

theorem cur_moved {w : World} {g m : Nat} {A : Option Addr} {n cap : Nat} {zs : List Int} {a : Nat} {s : Int} (h1 : g < w.heap.size) (h2 : ∀ j, w.frozen? ⟨g, j, none⟩ = false) (c0 : w.cell? ⟨g, 0, none⟩ = some (.slice A n cap))
    (c1 : w.cell? ⟨g, 1, none⟩ = some (.int .i64 a)) (c2 : w.cell? ⟨g, 2, none⟩ = some (.int .u64 s)) (ha : a ≤ m) (hn : n ≤ maxLen) (hz : zs.length = n) (hr : Reads w g 1 A n (zs.map (Value.int .u8))) (hy : ∀ z ∈ zs, 0 ≤ z ∧ z ≤ 255) (k : Nat) (ns : Int) :
    ∃ WY, WY = ((w.drewN k).setCell ⟨g, 1, none⟩ (.int .i64 ((a : Int) + 1))).setCell ⟨g, 2, none⟩ (.int .u64 ns) ∧ WY.cell? ⟨g, 0, none⟩ = some (.slice A n cap) ∧ WY.cell? ⟨g, 1, none⟩ = some (.int .i64 ((a : Int) + 1)) ∧
      WY.cell? ⟨g, 2, none⟩ = some (.int .u64 ns) ∧ RowKit.Hid (Cur WY g (m + 1)) ∧ RowKit.Hid (Only g (g + 1) w WY) := by
  have d0 : (((w.drewN k).setCell ⟨g, 1, none⟩ (.int .i64 ((a : Int) + 1))).setCell ⟨g, 2, none⟩ (.int .u64 ns)).cell? ⟨g, 0, none⟩ = some (.slice A n cap) := by
    rw [World.cell?_setCell_other _ _ _ _ (by simp), World.cell?_setCell_other _ _ _ _ (by simp)]
    exact c0
  have d1 : (((w.drewN k).setCell ⟨g, 1, none⟩ (.int .i64 ((a : Int) + 1))).setCell ⟨g, 2, none⟩ (.int .u64 ns)).cell? ⟨g, 1, none⟩ = some (.int .i64 ((a : Int) + 1)) := by
    rw [World.cell?_setCell_other _ _ _ _ (by simp)]
    exact World.cell?_setCell_same' _ _ _ (by rw [show (w.drewN k).cell? ⟨g, 1, none⟩ = _ from c1]; rfl)
  have d2 : (((w.drewN k).setCell ⟨g, 1, none⟩ (.int .i64 ((a : Int) + 1))).setCell ⟨g, 2, none⟩ (.int .u64 ns)).cell? ⟨g, 2, none⟩ = some (.int .u64 ns) := by
    have : ((w.drewN k).setCell ⟨g, 1, none⟩ (.int .i64 ((a : Int) + 1))).cell? ⟨g, 2, none⟩ = some (.int .u64 s) := by
      rw [World.cell?_setCell_other _ _ _ _ (by simp)]
      exact c2
    exact World.cell?_setCell_same' _ _ _ (by rw [this]; rfl)
  have ho : Only g (g + 1) w (((w.drewN k).setCell ⟨g, 1, none⟩ (.int .i64 ((a : Int) + 1))).setCell ⟨g, 2, none⟩ (.int .u64 ns)) :=
    (((Only.refl w).drewN k).setCell (by exact Nat.le_refl _) (by exact Nat.lt_succ_self _) _).setCell (by exact Nat.le_refl _) (by exact Nat.lt_succ_self _) _
  refine ⟨_, rfl, d0, d1, d2, Lib.hid ⟨Nat.lt_of_lt_of_le h1 ho.size, fun j => by simpa using h2 j, A, n, cap, zs, a + 1, ns, d0, d1, d2, by omega, hn, hz, ((hr.drewN k).setCell (by exact Nat.le_refl _) _).setCell (by exact Nat.le_refl _) _, hy⟩, Lib.hid ho⟩

set_option maxRecDepth 4000 in
set_option maxHeartbeats 2000000 in
theorem next_calls (g m : Nat) (w : World) (h : Cur w g m) (hm : m ≤ 1000000000) :
    Calls Try.prog 42 #[.pointer (some ⟨g, 0, none⟩)] w (Drew g (m + 1) 256 w) := by
  obtain ⟨h1, h2, A, n, cap, zs, a, s, c0, c1, c2, ha, hn, hz, hr, hy⟩ := h
  unfold maxLen at hn
  go_enter Try.func42, Try.ntmps42
  by_cases hin : a < n
  · obtain ⟨b, off, rfl, hb0, hc⟩ := hr.2 (by omega)
    obtain ⟨z, hz1⟩ := some_at zs (show a < zs.length by omega)
    have c3 : w.cell? ⟨b, off + a, none⟩ = some (.int .u8 z) := hc a _ (by simp [hz1])
    obtain ⟨z0, z9⟩ := hy z (List.mem_of_getElem? hz1)
    obtain ⟨zn, rfl⟩ : ∃ zn : Nat, z = zn := ⟨z.toNat, by omega⟩
    have hbg : b ≠ g := by omega
    have i0 : (0 : Int) ≤ (a : Int) := by omega
    have i1 : (a : Int) < (n : Int) := by omega
    have i2 : (a : Int) + 1 ≤ (n : Int) := by omega
    have HR := Lib.hid hr
    have HZ := Lib.hid hz
    have HY := Lib.hid hy
    clear hc hz1 hr hz hy
    go_wp2
    go_quiet (fail)
    go_wp2
    go_quiet (fail)
    go_wp2
    obtain ⟨WY, hWY, d0, d1, d2, HC, HO⟩ := cur_moved h1 h2 c0 c1 c2 ha hn HZ.out HR.out HY.out _ _
    rw [← hWY]
    clear hWY c0 c1 c2 c3 h2
    go_quiet (fail)
    go_wp2
    go_ret
    exact ⟨zn, rfl, by omega, HC.out.drewN _, HO.out.drewN _⟩
  · have i1 : ¬ ((a : Int) < (n : Int)) := by omega
    have i2 : ¬ ((a : Int) + 1 ≤ (n : Int)) := by omega
    have HR := Lib.hid hr
    have HZ := Lib.hid hz
    have HY := Lib.hid hy
    clear hr hz hy
    go_wp2
    go_quiet (fail)
    go_wp2
    obtain ⟨WY, hWY, d0, d1, d2, HC, HO⟩ := cur_moved h1 h2 c0 c1 c2 ha hn HZ.out HR.out HY.out _ _
    rw [← hWY]
    clear hWY c0 c1 c2 h2
    go_quiet (fail)
    go_wp2
    obtain ⟨y, hy1, hy2⟩ := bits_255 (IntKind.u64.wrap (IntKind.u64.wrap (IntKind.u64.wrap (s * 6364136223846793005)) + 882882) / 1099511627776)
    go_ret
    exact ⟨y, by rw [hy1, wrap64_small _ hy2]; rfl, by omega, HC.out.drewN _, HO.out.drewN _⟩

theorem Only.to_below {g : Nat} {w w' : World} (h : Only g (g + 1) w w') {B : Nat} (hB : B ≤ g) (hs : B ≤ w.heap.size) : Below B w w' := h.below hB hs

set_option maxRecDepth 4000 in
set_option maxHeartbeats 2000000 in
theorem pick_calls (g m : Nat) (n : Int) (w : World) (h : Cur w g m) (hm : m ≤ 100000000) (h0 : 1 ≤ n) (h9 : n ≤ 65535) :
    Calls Try.prog 26 #[.pointer (some ⟨g, 0, none⟩), .int .i64 n] w (Drew g (m + 2) n w) := by
  obtain ⟨nn, rfl⟩ : ∃ nn : Nat, n = nn := ⟨n.toNat, by omega⟩
  by_cases h1 : nn = 1
  · subst h1
    go_enter Try.func26, Try.ntmps26
    go_wp2
    go_ret
    exact ⟨0, rfl, by omega, h.more (by omega), Only.refl _⟩
  · have h2 : 2 ≤ nn := by omega
    by_cases h3 : 200 < nn
    · go_enter Try.func26, Try.ntmps26
      go_wp2_with fail
      refine (next_calls g m _ h (by omega)).mono ?_
      rintro e w1 ⟨x, rfl, hx, hc1, ho1⟩
      have HC := Lib.hid hc1
      have HO := Lib.hid ho1
      clear hc1 ho1
      have hx2 : x < 256 := by omega
      go_wp2_with fail
      refine (next_calls g (m + 1) _ HC.out (by omega)).mono ?_
      rintro e w2 ⟨y, rfl, hy, hc2, ho2⟩
      have HC2 := Lib.hid hc2
      have HO2 := Lib.hid ho2
      clear hc2 ho2
      have hy2 : y < 256 := by omega
      go_wp2
      go_ret
      exact ⟨(x * 256 + y) % nn, ret_int (by push_cast; rfl), by have := Nat.mod_lt (x * 256 + y) (show 0 < nn by omega); omega, HC2.out, HO.out.trans HO2.out⟩
    · go_enter Try.func26, Try.ntmps26
      go_wp2_with fail
      refine (next_calls g m _ h (by omega)).mono ?_
      rintro e w1 ⟨x, rfl, hx, hc1, ho1⟩
      have HC := Lib.hid hc1
      have HO := Lib.hid ho1
      clear hc1 ho1
      go_wp2
      go_ret
      exact ⟨x % nn, ret_int (by push_cast; rfl), by have := Nat.mod_lt x (show 0 < nn by omega); omega, HC.out.more (by omega), HO.out⟩

theorem Only.cell {lo hi : Nat} {w w' : World} (h : Only lo hi w w') {p : Addr} (hp : p.block < w.heap.size) (ho : p.block < lo ∨ hi ≤ p.block) : w'.cell? p = w.cell? p := World.cell?_of_block (h.block _ hp ho)

set_option maxHeartbeats 1000000 in
theorem one_calls (g m : Nat) (n : Int) (w : World) (h : Cur w g m) (hm : m ≤ 100000000) (h0 : 1 ≤ n) (h9 : n ≤ 65535) :
    Calls Try.prog 27 #[.pointer (some ⟨g, 0, none⟩), .int .i64 n] w fun e w' => ∃ b : Bool, e = .returned (.bool b) ∧ Cur w' g (m + 2) ∧ Only g (g + 1) w w' := by
  go_enter Try.func27, Try.ntmps27
  go_wp2_with fail
  refine (pick_calls g m n _ h hm h0 h9).mono ?_
  rintro e w1 ⟨x, rfl, hx, hc1, ho1⟩
  have HC := Lib.hid hc1
  have HO := Lib.hid ho1
  clear hc1 ho1
  go_wp2
  go_ret
  exact ⟨_, rfl, HC.out, HO.out⟩

set_option maxHeartbeats 1000000 in
theorem among_calls (g m b : Nat) (n cap : Nat) (ts : List Int) (w : World) (h : Cur w g m) (hm : m ≤ 100000000) (h0 : 1 ≤ n) (hn : n ≤ ts.length) (h9 : ts.length ≤ 65535) (hb : b ≠ g) (hbs : b < w.heap.size)
    (hc : ∀ j t, ts[j]? = some t → w.cell? ⟨b, j, none⟩ = some (.int .i64 t)) :
    Calls Try.prog 28 #[.pointer (some ⟨g, 0, none⟩), .slice (some ⟨b, 0, none⟩) n cap] w fun e w' => ∃ t, e = .returned (.int .i64 t) ∧ t ∈ ts ∧ Cur w' g (m + 2) ∧ Only g (g + 1) w w' := by
  have HCL := Lib.hid hc
  clear hc
  go_enter Try.func28, Try.ntmps28
  go_wp2_with fail
  refine (pick_calls g m _ _ h hm (by omega) (by omega)).mono ?_
  rintro e w1 ⟨x, rfl, hx, hc1, ho1⟩
  obtain ⟨t, ht⟩ := some_at ts (show x < ts.length by omega)
  have c1 : w1.cell? ⟨b, x, none⟩ = some (.int .i64 t) := (ho1.cell (p := ⟨b, x, none⟩) hbs (by simp; omega)).trans (HCL.out x t ht)
  have HC := Lib.hid hc1
  have HO := Lib.hid ho1
  have HT := Lib.hid ht
  have i0 : (0 : Int) ≤ (x : Int) := by omega
  clear hc1 ho1 ht
  go_wp2
  go_ret
  exact ⟨_, rfl, List.mem_of_getElem? HT.out, HC.out, HO.out⟩
end Go.Proofs.Ytfgfbnmcihjfmaa
