/-
  The laws' rCut: another code out of a code.
-/
import Derived.Test.YtekidodfcanjaaaGreatDoorCur
namespace Go.Proofs.YtekidodfcanjaaaGreatDoor
open Go.RowKit
set_option linter.unusedVariables false
set_option maxRecDepth 100000

theorem info_u8 : (Tryz.prog.info? 5).map (fun i => (i.zero, i.size, i.bytes)) = some (some (.int .u8 0), 1, 1) := by kernel_rfl
theorem wf_u8 {x : Int} (h0 : 0 ≤ x) (h1 : x ≤ 255) : (Lit.int .u8 x).wf = true := by
  simp [Lit.wf, IntKind.min, IntKind.max, IntKind.signed, IntKind.bits]
  omega
theorem u8_wf {x : Int} (h : (Lit.int .u8 x).wf = true) : 0 ≤ x ∧ x ≤ 255 := by
  simp [Lit.wf, IntKind.min, IntKind.max, IntKind.signed, IntKind.bits] at h
  omega
theorem wrap8_small (y : Nat) (h : y < 256) : IntKind.u8.wrap (y : Int) = y := by
  simp only [IntKind.wrap, IntKind.signed, IntKind.bits]
  simp
  omega
theorem wrap8_wf (x : Int) : (Lit.int .u8 (IntKind.u8.wrap x)).wf = true := by
  refine wf_u8 ?_ ?_
  · simp only [IntKind.wrap, IntKind.signed, IntKind.bits]; simp; omega
  · simp only [IntKind.wrap, IntKind.signed, IntKind.bits]; simp; omega
theorem xor_u8 (x y : Int) : (Lit.int .u8 (bits .xor .u8 x y)).wf = true := by
  have h : (BitVec.ofInt 8 x ^^^ BitVec.ofInt 8 y).toNat < 256 := (BitVec.ofInt 8 x ^^^ BitVec.ofInt 8 y).isLt
  have he : bits .xor .u8 x y = ((BitVec.ofInt 8 x ^^^ BitVec.ofInt 8 y).toNat : Int) := by
    show IntKind.u8.wrap ((BitVec.ofInt 8 x ^^^ BitVec.ofInt 8 y).toNat : Int) = _
    exact wrap8_small _ h
  rw [he]
  exact wf_u8 (by omega) (by omega)
def bytesI (zs : List Int) : List Value := zs.map (Value.int .u8)
/-- A new slice of bytes, read as integers. -/
def NewInts8 (w : World) (e : Ending) (w' : World) : Prop := ∃ A n cap zs, e = .returned (.slice A n cap) ∧ Ints .u8 w' A n cap zs ∧ Below w.heap.size w w'

set_option maxHeartbeats 1000000 in
theorem rCut_calls (A : Option Addr) (n cap : Nat) (zs : List Int) (k : Nat) (w : World) (h : Ints .u8 w A n cap zs) (hn : n ≤ 65536) (hk : k ≤ 5) :
    Calls Tryz.prog 30 #[.slice A n cap, .int .i64 k] w (NewInts8 w) := by
  obtain ⟨h1, h2, h3, h4, h5⟩ := h
  have H5 := Lib.hid h5
  have hmod : Int.tmod (n : Int) 50 = ((n % 50 : Nat) : Int) := by rw [Int.tmod_eq_emod_of_nonneg (by omega)]; omega
  have hm50 : n % 50 < 50 := Nat.mod_lt _ (by decide)
  obtain ⟨r, hr⟩ : ∃ r, r = n % 50 := ⟨_, rfl⟩
  rw [← hr] at hmod hm50
  have hw1 : IntKind.i64.wrap (37 * (k : Int) + (r : Int)) = 37 * (k : Int) + (r : Int) := IntWalk.i64_in _ (by omega)
  obtain ⟨b0, hb0⟩ : ∃ b0, b0 = 37 * (k : Int) + (r : Int) := ⟨_, rfl⟩
  have hb0f : 0 ≤ b0 ∧ b0 ≤ 255 := by
    omega
  have B0 : Below w.heap.size w (w.alloc (.cells #[.int .u8 b0] 5)) := (Below.refl _ _).alloc (Nat.le_refl _) _
  have o0 : (w.alloc (.cells #[.int .u8 b0] 5)).ownsRow w.heap.size 5 1 (.slice (some ⟨w.heap.size, 0, none⟩) 1 1) 1 (bytesI [b0]) := by
    have h := World.ownsRow_lit (base := w.heap.size) (e := 5) (size := 1) w #[.int .u8 b0] 1 (Nat.le_refl _) (by unfold maxLen; omega) rfl
    simpa [bytesI] using h
  subst hb0
  clear hr h5
  go_enter Tryz.func30, Tryz.ntmps30
  go_wp2
  go_loopw [5, 6] (fun v i wr => ∃ (j : Nat) (ys : List Int), i = .int .i64 j ∧ k ≤ j ∧ (j ≤ n ∨ j = k) ∧ ys.length = j - k + 1 ∧ wr.ownsRow w.heap.size 5 1 v ys.length (bytesI ys) ∧ (∀ y ∈ ys, (Lit.int .u8 y).wf = true) ∧ Below w.heap.size w wr) (fun _ i _ => n - (intOf i).toNat)
  case atStart => exact ⟨k, [37 * (k : Int) + (r : Int)], rfl, Nat.le_refl _, .inr rfl, by simp, o0, fun y hy => by rw [List.mem_singleton] at hy; subst hy; exact wf_u8 hb0f.1 hb0f.2, B0⟩
  case round =>
    obtain ⟨j, ys, rfl, hkj, hjn, hyl, hown, hwf, hb⟩ := hrel
    have HWF := Lib.hid hwf
    have HYL := Lib.hid hyl
    have hyl9 : ys.length ≤ 70000 := by omega
    clear hwf hyl
    by_cases hlt : j < n
    · obtain ⟨bb, off, rfl, hbb, hc⟩ := (h1.below hb).2 (by omega)
      obtain ⟨x, hx⟩ := some_at zs (show j < zs.length by omega)
      have d1 : wr.cell? ⟨bb, off + j, none⟩ = some (.int .u8 x) := hc j _ (by simp [hx])
      have i0 : (0 : Int) ≤ (j : Int) := by omega
      have i1 : (j : Int) < (n : Int) := by omega
      have hw8 : IntKind.u8.wrap (k : Int) = (k : Int) := wrap8_small k (by omega)
      have hxw := xor_u8 x (k : Int)
      obtain ⟨y, hy⟩ : ∃ y, y = bits .xor .u8 x (k : Int) := ⟨_, rfl⟩
      rw [← hy] at hxw
      have HXW := Lib.hid hxw
      have ms1 : ys.length + 1 ≤ maxLen := by unfold maxLen; omega
      have hy' := hy.symm
      clear hx hc hxw hy
      go_wp2_with (at_builtin; refine wpList_append_one hown hb.size (.tmp 22) (.tmp 30) 38 Tryz.underlying38 info_u8 (by omega) ms1 ⟨rfl, rfl, rfl, rfl, rfl, rfl⟩ (by simp) ?_; intro v1 w1 hown1 hb1 _)
      go_roundw
      case rel => exact ⟨j + 1, ys ++ [y], by go_num, by omega, .inl (by omega), by rw [List.length_append, HYL.out]; simp; omega, by rw [List.length_append]; simp only [bytesI, List.map_append] at hown1 ⊢; exact hown1, fun z hz => by
        rcases List.mem_append.1 hz with hz | hz
        · exact HWF.out z hz
        · rw [List.mem_singleton] at hz; subst hz; exact HXW.out, hb.trans hb1⟩
      case measure => simp [intOf]; omega
    · have i1 : ¬ (j : Int) < (n : Int) := by omega
      obtain ⟨A2, c2, rfl, r2, hn2, hc2⟩ := (Own.of_row hown).slice
      go_wp2
      go_ret
      exact ⟨A2, ys.length, c2, ys, rfl, ⟨r2, hn2, hc2, rfl, HWF.out⟩, hb⟩
end Go.Proofs.YtekidodfcanjaaaGreatDoor
