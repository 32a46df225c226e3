/-
  The law FnCuesMerged returns true: its walk over the contracts.
-/
import Derived.Test.YticdjneihcimeaaSpecMerge
import Derived.Test.YticdjneihcimeaaMergedPl
import Derived.Test.YticdjneihcimeaaCuesActiveW
namespace Go.Proofs.Yticdjneihcimeaa
open Go.RowKit
set_option linter.unusedVariables false

/-- Four cells and the frame are carried through a region. -/
def Held4 (W : World) (p1 p2 p3 p4 : Addr) (v1 v2 v3 v4 : Value) (w' : World) : Prop :=
  w'.cell? p1 = some v1 ∧ w'.cell? p2 = some v2 ∧ w'.cell? p3 = some v3 ∧ w'.cell? p4 = some v4 ∧ Below W.heap.size W w'
theorem held4_drew {W w' : World} {p1 p2 p3 p4 : Addr} {v1 v2 v3 v4 : Value} (h : w'.cell? p1 = some v1 ∧ w'.cell? p2 = some v2 ∧ w'.cell? p3 = some v3 ∧ w'.cell? p4 = some v4 ∧ Below W.heap.size W w') :
    w'.drew.cell? p1 = some v1 ∧ w'.drew.cell? p2 = some v2 ∧ w'.drew.cell? p3 = some v3 ∧ w'.drew.cell? p4 = some v4 ∧ Below W.heap.size W w'.drew := ⟨h.1, h.2.1, h.2.2.1, h.2.2.2.1, h.2.2.2.2.drew⟩
theorem held4_step {W w' w1 : World} {p1 p2 p3 p4 : Addr} {v1 v2 v3 v4 : Value} (h : w'.cell? p1 = some v1 ∧ w'.cell? p2 = some v2 ∧ w'.cell? p3 = some v3 ∧ w'.cell? p4 = some v4 ∧ Below W.heap.size W w') (hb : Below w'.heap.size w' w1) :
    w1.cell? p1 = some v1 ∧ w1.cell? p2 = some v2 ∧ w1.cell? p3 = some v3 ∧ w1.cell? p4 = some v4 ∧ Below W.heap.size W w1 :=
  ⟨(hb.cell (World.block_lt_of_cell? w' _ h.1)).trans h.1, (hb.cell (World.block_lt_of_cell? w' _ h.2.1)).trans h.2.1, (hb.cell (World.block_lt_of_cell? w' _ h.2.2.1)).trans h.2.2.1, (hb.cell (World.block_lt_of_cell? w' _ h.2.2.2.1)).trans h.2.2.2.1, h.2.2.2.2.trans (hb.mono h.2.2.2.2.size)⟩

set_option maxRecDepth 8000 in
set_option maxHeartbeats 4000000 in
theorem law_CuesMerged (A : Option Addr) (n cap : Nat) (zs : List Int) (W : World) (h : Ints .u8 W A n cap zs) :
    Calls Try.prog 5 #[.slice A n cap] W fun e W' => e = .returned (.bool true) ∧ Below W.heap.size W W' := by
  by_cases hbig : 65536 < n
  · go_enter Try.func5, Try.ntmps5
    go_wp2_with fail
    refine (rBig_yes A n cap _ hbig).mono ?_
    rintro e w1 ⟨rfl, rfl⟩
    go_wp2
    go_ret
    exact ⟨rfl, Below.refl _ _⟩
  go_enter Try.func5, Try.ntmps5
  go_wp2_with fail
  refine (rBig_no A n cap _ hbig).mono ?_
  rintro e w1 ⟨rfl, rfl⟩
  go_wp2_with fail
  refine (spec_DrawMergeCues A n cap zs _ h).mono ?_
  rintro e w1 ⟨v, l, gap, rfl, own1, hl, ht, ⟨ha1, ha2⟩, b1⟩
  obtain ⟨A1, c1, rfl, r1, -, -⟩ := own1.slice
  have s1 := b1.size
  have HTX := Lib.hid (tame_text ht)
  have HFT := Lib.hid (tame_fits ht (Int.le_refl _))
  have HT2 := Lib.hid (show ∀ c ∈ l, c.2.2.size ≤ 200 from fun c hc => by have := (ht c hc).2.2; omega)
  have hlm : l.length ≤ 1048576 := by omega
  clear h ht own1
  cases hm : mergeL l gap with
  | none =>
    go_wp2_with fail
    refine (impl_MergeCues A1 c1 l gap _ r1 hlm HTX.out HFT.out).mono ?_
    rw [hm]
    rintro e w5 ⟨v5, rfl, own5, b5⟩
    obtain ⟨A5, c5, rfl, r5, -, -⟩ := own5.slice
    simp only [Option.getD_none, List.length_nil] at own5 r5 ⊢
    have s5 := b5.size
    have r35 := (r1.below b5).more s5
    have B5 : Below W.heap.size W w5 := b1.trans (b5.mono (by omega))
    go_wp2_with fail
    refine (spec_MergeCues A1 c1 l gap _ r35 hlm HTX.out).mono ?_
    rw [hm]
    rintro e w6 ⟨v6, rfl, own6, b6⟩
    obtain ⟨A6, c6, rfl, r6, -, -⟩ := own6.slice
    simp only [Option.getD_none, List.length_nil] at own6 r6 ⊢
    have s6 := b6.size
    have B6 : Below W.heap.size W w6 := B5.trans (b6.mono (by omega))
    have r56 := (r5.below b6).more s6
    go_wp2_with fail
    refine (rCues_same A5 A6 c5 c6 [] _ (by simp) r56 r6).mono ?_
    rintro e w7 ⟨rfl, b7⟩
    have B7 : Below W.heap.size W w7 := B6.trans (b7.mono (by omega))
    go_wp2
    go_ret
    exact ⟨rfl, B7⟩
  | some m =>
    obtain ⟨hvm, hmg, hml⟩ := merged_of hm
    have HVM := Lib.hid hvm
    have HMG := Lib.hid hmg
    clear hvm hmg
    go_wp2_with fail
    refine (impl_MergeCues A1 c1 l gap _ r1 hlm HTX.out HFT.out).mono ?_
    rw [hm]
    rintro e w5 ⟨v5, rfl, own5, b5⟩
    obtain ⟨A5, c5, rfl, r5, -, -⟩ := own5.slice
    simp only [Option.getD_some] at own5 r5 ⊢
    have s5 := b5.size
    have r35 := (r1.below b5).more s5
    have B5 : Below W.heap.size W w5 := b1.trans (b5.mono (by omega))
    go_wp2_with fail
    refine (spec_MergeCues A1 c1 l gap _ r35 hlm HTX.out).mono ?_
    rw [hm]
    rintro e w6 ⟨v6, rfl, own6, b6⟩
    obtain ⟨A6, c6, rfl, r6, -, -⟩ := own6.slice
    simp only [Option.getD_some] at own6 r6 ⊢
    have s6 := b6.size
    have B6 : Below W.heap.size W w6 := B5.trans (b6.mono (by omega))
    have r56 := (r5.below b6).more s6
    have r36 := (r35.below b6).more s6
    clear hm r5 r35 r1 own5
    go_wp2_with fail
    refine (rCues_same A5 A6 c5 c6 m _ (by omega) r56 r6).mono ?_
    rintro e w7 ⟨rfl, b7⟩
    have s7 := b7.size
    have B7 : Below W.heap.size W w7 := B6.trans (b7.mono (by omega))
    have r57 := (r56.below b7).more s7
    have r37 := (r36.below b7).more s7
    clear r56 r36 r6 own6 b6 b5 b1 b7 B5 B6
    by_cases hl0 : l.length = 0
    · have hm0 : m.length = 0 := by omega
      go_wp2
      go_ret
      exact ⟨ret_bool (by simp), B7⟩
    have hlp : 0 < l.length := by omega
    obtain ⟨hmp, C0, D0, E0, F0, k1, k2, k3, k4, k5, k6⟩ := merged_ends HMG.out hlp
    have HT3 := Lib.hid (show ∀ c ∈ m, c.2.2.size ≤ 200 from fun c hc => by
      obtain ⟨k, hk⟩ := List.mem_iff_getElem?.1 hc
      have h4 := (valid_bounds HVM.out hk).2.2.2
      have h5 := caption_size' h4
      omega)
    have HTX3 := Lib.hid (show ∀ c ∈ m, c.2.2.size ≤ maxLen from fun c hc => by have := HT3.out c hc; unfold maxLen; omega)
    obtain ⟨bx, ox, rfl, hbx, hcx⟩ := r57.2 hmp
    obtain ⟨bl, ol, rfl, hbl, hcl⟩ := r37.2 hlp
    obtain ⟨q1, -, -⟩ := Reads.cue (B := 0) (n := 0) hcx k1
    obtain ⟨q2, -, -⟩ := Reads.cue (B := 0) (n := 0) hcl k2
    obtain ⟨-, q3, -⟩ := Reads.cue (B := 0) (n := 0) hcx k4
    obtain ⟨-, q4, -⟩ := Reads.cue (B := 0) (n := 0) hcl k5
    have HTXT := Lib.hid HMG.out.text
    have HCX := Lib.hid hcx
    have HCL := Lib.hid hcl
    have HR5 := Lib.hid r57
    have K3 := Lib.hid k3
    have K6 := Lib.hid k6
    have hpos : (0 : Int) < (l.length : Int) := by omega
    have hne0 : ¬ (l.length = 0) := hl0
    clear hcx hcl r57 r37 k1 k2 k4 k5 k3 k6 hl0
    go_wp2
    go_loop [9, 11] (fun av iv => ∃ k : Nat, k ≤ l.length ∧ iv = .int .i64 k ∧ av = .string (textsOf (l.take k))) (fun _ i => l.length - (intOf i).toNat)
    case atStart => exact ⟨0, Nat.zero_le _, rfl, rfl⟩
    case round =>
      obtain ⟨k, hk, rfl, rfl⟩ := hrel
      by_cases hlt : k < l.length
      · obtain ⟨⟨s, e, t⟩, hx⟩ := some_at l hlt
        obtain ⟨-, -, d3⟩ := Reads.cue (B := 0) (n := 0) HCL.out hx
        have htt := HT2.out _ (List.mem_of_getElem? hx)
        have hts := texts_size HT2.out k hk
        simp only at d3 htt
        have hnx := texts_take hx
        simp only at hnx
        generalize textsOf (l.take k) = T at *
        have HNX := Lib.hid hnx
        have y1 : ¬ (9223372036854775807 < T.size + t.size) := by omega
        have y3 : ¬ (9223372036854775807 < T.size + t.size + 1) := by omega
        have y4 : ¬ (9223372036854775806 < T.size + t.size) := by omega
        have i1 : (k : Int) < (l.length : Int) := by omega
        have i0 : (0 : Int) ≤ (k : Int) := by omega
        clear hx hnx hts htt
        go_wp2
        go_roundw
        case rel => exact ⟨k + 1, by omega, by go_num, by rw [HNX.out]; rfl⟩
        case measure => simp [intOf]; omega
      · obtain rfl : k = l.length := by omega
        rw [take_all, ← HTXT.out]
        go_wp2
        go_loop [10, 12] (fun av iv => ∃ k : Nat, k ≤ m.length ∧ iv = .int .i64 k ∧ av = .string (textsOf (m.take k))) (fun _ i => m.length - (intOf i).toNat)
        case atStart => exact ⟨0, Nat.zero_le _, rfl, rfl⟩
        case round =>
          obtain ⟨k, hk, rfl, rfl⟩ := hrel
          by_cases hlt : k < m.length
          · obtain ⟨⟨s, e, t⟩, hx⟩ := some_at m hlt
            obtain ⟨-, -, d3⟩ := Reads.cue (B := 0) (n := 0) HCX.out hx
            have htt := HT3.out _ (List.mem_of_getElem? hx)
            have hts := texts_size HT3.out k hk
            simp only at d3 htt
            have hnx := texts_take hx
            simp only at hnx
            generalize textsOf (m.take k) = T at *
            have HNX := Lib.hid hnx
            have y1 : ¬ (9223372036854775807 < T.size + t.size) := by omega
            have y3 : ¬ (9223372036854775807 < T.size + t.size + 1) := by omega
            have y4 : ¬ (9223372036854775806 < T.size + t.size) := by omega
            have i1 : (k : Int) < (m.length : Int) := by omega
            have i0 : (0 : Int) ≤ (k : Int) := by omega
            clear hx hnx hts htt
            go_wp2
            go_roundw
            case rel => exact ⟨k + 1, by omega, by go_num, by rw [HNX.out]; rfl⟩
            case measure => simp [intOf]; omega
          · obtain rfl : k = m.length := by omega
            rw [take_all]
            obtain ⟨x0, x1, x2⟩ := C0
            obtain ⟨z0, z1, z2⟩ := D0
            obtain ⟨x3, x4, x5⟩ := E0
            obtain ⟨z3, z4, z5⟩ := F0
            have k3 := K3.out
            have k6 := K6.out
            simp only at q1 q2 q3 q4 k3 k6
            subst k3 k6
            rw [Nat.zero_mul, Nat.add_zero] at q1 q2
            obtain ⟨m1, hm1⟩ : ∃ m1, m.length = m1 + 1 := ⟨m.length - 1, by omega⟩
            obtain ⟨l1, hl1⟩ : ∃ l1, l.length = l1 + 1 := ⟨l.length - 1, by omega⟩
            rw [hm1, Nat.add_sub_cancel] at q3
            rw [hl1, Nat.add_sub_cancel] at q4
            have S0 : w7.cell? ⟨bx, ox, none⟩ = some (.int .i64 x0) ∧ w7.cell? ⟨bl, ol, none⟩ = some (.int .i64 x0) ∧ w7.cell? ⟨bx, ox + m1 * 3 + 1, none⟩ = some (.int .i64 x4) ∧ w7.cell? ⟨bl, ol + l1 * 3 + 1, none⟩ = some (.int .i64 x4) ∧ Below W.heap.size W w7 := ⟨q1, q2, q3, q4, B7⟩
            have hcall : Calls Try.prog 16 #[.slice (some ⟨bx, ox, none⟩) (m1 + 1) c5] w7.drew fun e w' => e = .returned (.bool true) ∧ Below w7.drew.heap.size w7.drew w' := by
              have h1 := impl_IsValidCues _ c5 m _ HR5.out.drew (by omega) HTX3.out (valid_fits HVM.out)
              rw [HVM.out, hm1] at h1
              exact h1
            have HCALL := Lib.hid hcall
            have j0 : (0 : Int) ≤ (m1 : Int) := by omega
            have j1 : (m1 : Int) < ((m1 + 1 : Nat) : Int) := by omega
            have j2 : (m1 : Int) < (m1 : Int) + 1 := by omega
            have j3 : (0 : Int) ≤ (l1 : Int) := by omega
            have j4 : (l1 : Int) < ((l1 + 1 : Nat) : Int) := by omega
            have j5 : (l1 : Int) < (l1 : Int) + 1 := by omega
            have j6 : (0 : Int) < (m1 : Int) + 1 := by omega
            have j7 : (0 : Int) < (l1 : Int) + 1 := by omega
            have x8 : IntKind.i64.wrap ((m1 : Int) + 1 - 1) = (m1 : Int) := (by rw [show ((m1 : Int) + 1 - 1) = m1 by omega]; exact IntWalk.i64_in _ (by omega))
            have x9 : IntKind.i64.wrap ((l1 : Int) + 1 - 1) = (l1 : Int) := (by rw [show ((l1 : Int) + 1 - 1) = l1 by omega]; exact IntWalk.i64_in _ (by omega))
            have y8 : IntKind.i64.wrap (m1 : Int) = (m1 : Int) := IntWalk.i64_in _ (by omega)
            have y9 : IntKind.i64.wrap (l1 : Int) = (l1 : Int) := IntWalk.i64_in _ (by omega)
            clear hcall
            go_wp2
            go_region_held3 (fun w' => w'.cell? ⟨bx, ox, none⟩ = some (.int .i64 x0) ∧ w'.cell? ⟨bl, ol, none⟩ = some (.int .i64 x0) ∧ w'.cell? ⟨bx, ox + m1 * 3 + 1, none⟩ = some (.int .i64 x4) ∧ w'.cell? ⟨bl, ol + l1 * 3 + 1, none⟩ = some (.int .i64 x4) ∧ Below W.heap.size W w') (first | exact S0 | exact held4_drew S0 | exact held4_step S0 (by assumption) | exact held4_step (held4_drew S0) (by assumption) | exact held4_drew (by assumption) | assumption) (first | (go_at_call 16; refine HCALL.out.mono ?_; rintro e w8 ⟨rfl, hb8⟩))
            have B8 : Below W.heap.size W w8 := B7.drew.trans (hb8.mono (by exact B7.size))
            clear S0 q1 q2 q3 q4 x8 x9 y8 y9
            go_wp2
            refine bodyPost_ret (v := .bool true) (by simp [results, go_sem]) rfl ?_
            exact ⟨rfl, B8⟩
end Go.Proofs.Yticdjneihcimeaa
