/-
  Checksums and the lines of a log: the program's.
-/
import Derived.Test.YtjfhidaibpgpeaaDoorSeal
import Derived.Test.YtjfhidaibpgpeaaDoorRecI
import Derived.Lib.AppendIntMem
import Derived.Test.YtjfhidaibpgpeaaDoorBase
import Derived.StillTailTactics
import Derived.Deep.RegionHeld3
namespace Go.Proofs.YtjfhidaibpgpeaaDoor
open Go.RowKit
set_option linter.unusedVariables false
set_option maxRecDepth 100000
set_option linter.unusedSimpArgs false

theorem below_growR (w : World) (k : Nat) (os : Array Obj) : Below w.heap.size w (Sort.grow (w.drewN k) os) :=
  ⟨rfl, rfl, rfl, by simp [Sort.grow], fun i hi => by simp [Sort.grow, Array.getElem?_append, hi]⟩
theorem itoa_natR (n : Nat) : Lib.itoa (n : Int) = Lib.decDigits n := by
  unfold Lib.itoa
  rw [if_neg (by omega)]
  rfl
theorem itoa_at (n : Nat) (D : List UInt8) (hD : D = Lib.decDigits n) (z : Int) (hz : z = n) (w : World) (hn : n ≤ 999999999) (htab : Lib.TabIs Tryd.prog w "internal/strconv.uint64pow10" .u64 Lib.pow10Tab) :
    Calls Tryd.prog 23 #[.int .i64 z] w fun e w' => e = .returned (.string ⟨D.toArray⟩) ∧ Below w.heap.size w w' := by
  subst hz hD
  refine (Tryd.strconv_Itoa n (by omega) (by omega) _ htab).mono ?_
  rintro e w1 ⟨rfl, k1, os1, rfl⟩
  exact ⟨by rw [itoa_natR], below_growR w k1 os1⟩

set_option maxHeartbeats 2000000 in
theorem impl_AppendChecksum (s : ByteArray) (w : World) (hs : s.size ≤ 3900) (h35 : hasB s 35 = false) (htab : Lib.TabIs Tryd.prog w "internal/strconv.uint64pow10" .u64 Lib.pow10Tab) :
    Calls Tryd.prog 22 #[.string s] w fun e w' => e = .returned (.tuple #[.string ⟨(sealL s.data.toList).toArray⟩, .bool true]) ∧ Below w.heap.size w w' := by
  have hd := seal_dec s.data.toList
  have h9 := sumL_lt s.data.toList
  have HS := Lib.hid (show (⟨(sealL s.data.toList).toArray⟩ : ByteArray) = s ++ ⟨[35].toArray⟩ ++ ⟨(Lib.decDigits (sumL s.data.toList)).toArray⟩ by
    obtain ⟨⟨l⟩⟩ := s
    simp only [bytes_add]
    simp [sealL])
  obtain ⟨q, hq⟩ : ∃ q, q = sumL s.data.toList := ⟨_, rfl⟩
  rw [← hq] at hd h9
  obtain ⟨D, hD⟩ : ∃ D, D = Lib.decDigits q := ⟨_, rfl⟩
  rw [← hD] at hd
  have HN := Lib.hid (fun w htab => itoa_at q D hD q rfl w (by omega) htab)
  have HT := Lib.hid htab
  have HD := Lib.hid hD
  have HQ := Lib.hid hq
  clear hD hq htab
  have y1 : ¬ (9223372036854775807 < s.size + 1) := by omega
  have y2 : ¬ (9223372036854775807 < s.size + 1 + D.length) := by omega
  have y3 : ¬ (4000 : Int) < (s.size : Int) + 1 + (D.length : Int) := by omega
  go_enter Tryd.func22, Tryd.ntmps22
  go_wp2_with fail
  refine (impl_Checksum s _ (by omega)).mono ?_
  rw [← HQ.out]
  rintro e w1 ⟨rfl, rfl⟩
  go_wp2_with fail
  refine (HN.out _ HT.out).mono ?_
  rintro e w2 ⟨rfl, b2⟩
  go_wp2_with fail
  refine (contains_oneR s 35 _).mono ?_
  rw [h35]
  rintro e w3 ⟨rfl, rfl⟩
  go_wp2
  refine bodyPost_ret (v := .tuple #[.string (s ++ ⟨#[35]⟩ ++ ⟨D.toArray⟩), .bool true]) (by simp [results, go_sem]) rfl ?_
  exact ⟨by rw [HS.out, ← HQ.out, ← HD.out], b2⟩

theorem head_has {k : Nat} {c r : ByteArray} {H : ByteArray} (hr : recB (c, r) = true) (hH : H.data.toList = headR k (c, r)) : hasB H 35 = false := by
  have := headR_no35 (k := k) hr
  rw [← hH] at this
  simpa [hasB] using this

set_option maxHeartbeats 4000000 in
theorem impl_EncodeRecord (z : Int) (c r : ByteArray) (w : World) (h1 : c.size ≤ 1048576) (h2 : r.size ≤ 1048576) (htab : Lib.TabIs Tryd.prog w "internal/strconv.uint64pow10" .u64 Lib.pow10Tab) :
    Calls Tryd.prog 9 #[.int .i64 z, .agg #[.string c, .string r]] w (EncRes z (c, r) w) := by
  have hb0 : Below w.heap.size w (w.alloc (.cells #[.string c, .string r] 27)) := (Below.refl _ _).alloc (Nat.le_refl _) _
  have t0 := Two.new w 27 (.string c) (.string r)
  have HT := Lib.hid (show ∀ W, Below w.heap.size w W → Lib.TabIs Tryd.prog W "internal/strconv.uint64pow10" .u64 Lib.pow10Tab from fun W hb => Lib.tabBelow_of_tabIs htab W hb)
  clear htab
  by_cases hz : 0 ≤ z ∧ z ≤ 59
  case neg =>
    have hin : inB z 0 59 = false := inB_no hz
    have HNO := Lib.hid (show ¬ (0 ≤ z ∧ z ≤ 59 ∧ recB (c, r) = true) from fun h => hz ⟨h.1, h.2.1⟩)
    clear hz
    go_enter Tryd.func9, Tryd.ntmps9
    go_wp2_with fail
    refine (impl_in _ _ _ _).mono ?_
    rw [hin]
    rintro e w' ⟨rfl, rfl⟩
    go_wp2
    go_ret2
    exact ⟨_, _, rfl, .inr ⟨rfl, rfl, HNO.out⟩, hb0⟩
  obtain ⟨k, rfl⟩ : ∃ k : Nat, z = k := ⟨z.toNat, by omega⟩
  have hk : k ≤ 59 := by omega
  have hin : inB (k : Int) 0 59 = true := inB_yes hz.1 hz.2
  clear hz
  have c0 := t0.cell0
  have c1 := t0.cell1
  cases hr : recB (c, r)
  · have HNO := Lib.hid (show ¬ (0 ≤ (k : Int) ∧ (k : Int) ≤ 59 ∧ recB (c, r) = true) by rw [hr]; simp)
    go_enter Tryd.func9, Tryd.ntmps9
    go_wp2_with fail
    refine (impl_in _ _ _ _).mono ?_
    rw [hin]
    rintro e w' ⟨rfl, rfl⟩
    go_wp2_with fail
    refine (impl_IsValidRecord c r _ (by omega) (by omega)).mono ?_
    rw [hr]
    rintro e w1 ⟨rfl, b1⟩
    have B1 := hb0.trans (b1.mono hb0.size)
    go_wp2
    go_ret2
    exact ⟨_, _, rfl, .inr ⟨rfl, rfl, HNO.out⟩, B1⟩
  have HR := Lib.hid hr
  obtain ⟨D, hD⟩ : ∃ D, D = Lib.decDigits k := ⟨_, rfl⟩
  have hd : D.length ≤ 2 := by rw [hD]; exact dec_pow 1 k (by omega)
  have HN := Lib.hid (fun w htab => itoa_at k D hD k rfl w (by omega) htab)
  obtain ⟨H, hH⟩ : ∃ H : ByteArray, H = ⟨D.toArray⟩ ++ ⟨[32].toArray⟩ ++ c ++ ⟨[62].toArray⟩ ++ r := ⟨_, rfl⟩
  have hHe := (lineR_bytes k c r D hD).trans hH.symm
  have hHl : H.data.toList = headR k (c, r) := by rw [← hHe]
  have hHs : H.size ≤ 294 := by
    have := headR_len hk hr
    rw [← hHl] at this
    exact this
  have hsl := seal_len H.data.toList
  have hHz : H.size = H.data.toList.length := rfl
  have HA := Lib.hid (fun W htab => impl_AppendChecksum H W (by omega) (head_has hr hHl) htab)
  have HHL := Lib.hid hHl
  have HH := Lib.hid hH
  have y1 : ¬ (9223372036854775807 < D.length + 1) := by omega
  have y2 : ¬ (9223372036854775807 < D.length + 1 + c.size) := by omega
  have y3 : ¬ (9223372036854775807 < D.length + 1 + c.size + 1) := by omega
  have y4 : ¬ (9223372036854775807 < D.length + 1 + c.size + 1 + r.size) := by omega
  have y5 : ¬ (9223372036854775807 < (sealL H.data.toList).length + 1) := by omega
  have y6 : ¬ (9223372036854775806 < (sealL H.data.toList).length) := by omega
  clear hD hH hHe hHl hHz hsl hHs c0 c1
  go_enter Tryd.func9, Tryd.ntmps9
  have c0 := t0.cell0
  have c1 := t0.cell1
  go_wp2_with fail
  generalize hWx : w.alloc (.cells #[.string c, .string r] 27) = wx at *
  clear hWx
  refine (impl_in _ _ _ _).mono ?_
  rw [hin]
  rintro e w' ⟨rfl, rfl⟩
  go_wp2_with fail
  refine (impl_IsValidRecord c r _ (by omega) (by omega)).mono ?_
  rw [hr]
  rintro e w1 ⟨rfl, b1⟩
  have B1 := hb0.trans (b1.mono hb0.size)
  have t1 := t0.far b1
  clear hr
  have c0 := t1.cell0
  have c1 := t1.cell1
  have hp1 : (⟨w.heap.size, 0, none⟩ : Addr).block < w1.heap.size := t1.lt
  have hp2 : (⟨w.heap.size, 1, none⟩ : Addr).block < w1.heap.size := t1.lt
  go_wp2
  have S0 : w1.cell? ⟨w.heap.size, 0, none⟩ = some (.string c) ∧ w1.cell? ⟨w.heap.size, 1, none⟩ = some (.string r) ∧ Below w1.heap.size w1 w1 := ⟨by assumption, by assumption, Below.refl _ _⟩
  first | refine wp_region_noPanic ?_ | skip
  refine wp_region_held_drew (S := fun w' => w'.cell? ⟨w.heap.size, 0, none⟩ = some (.string c) ∧ w'.cell? ⟨w.heap.size, 1, none⟩ = some (.string r) ∧ Below w1.heap.size w1 w') (by kernel_rfl) (by first | exact S0 | exact held2_drew S0 | assumption | exact held2_step hp1 hp2 S0 (by assumption) | exact held2_step hp1 hp2 (by assumption) (by assumption) | exact held2_drew (by assumption)) (fun hHeld => ?_)
  (refine wpAnyH_take (i := 0) (v := ?_) rfl (by kernel_rfl) (by kernel_rfl) (by kernel_rfl) (fun _ _ _ h => h) (Or.inl ⟨by rfl, ?_⟩) (by assumption) ?_; rotate_left; focus (intro w hSw; (try dsimp only at hSw); go_simp; try with_reducible rfl))
  (try simp only [List.getElem_toArray, List.getElem_cons_succ, List.getElem_cons_zero, Act.put, List.setIfInBounds_toArray, List.set_cons_zero, List.set_cons_succ])
  (refine wpAnyH_take (i := 3) (v := ?_) rfl (by kernel_rfl) (by kernel_rfl) (by kernel_rfl) (fun _ _ _ h => h) (Or.inl ⟨by rfl, ?_⟩) (by assumption) ?_; rotate_left; focus (intro w hSw; (try dsimp only at hSw); go_simp; try with_reducible rfl))
  (try simp only [List.getElem_toArray, List.getElem_cons_succ, List.getElem_cons_zero, Act.put, List.setIfInBounds_toArray, List.set_cons_zero, List.set_cons_succ])
  (refine wpAnyH_take (i := 4) (v := ?_) rfl (by kernel_rfl) (by kernel_rfl) (by kernel_rfl) (fun _ _ _ h => h) (Or.inl ⟨by rfl, ?_⟩) (by assumption) ?_; rotate_left; focus (intro w hSw; (try dsimp only at hSw); go_simp; try with_reducible rfl))
  (try simp only [List.getElem_toArray, List.getElem_cons_succ, List.getElem_cons_zero, Act.put, List.setIfInBounds_toArray, List.set_cons_zero, List.set_cons_succ])
  (refine wpAnyH_take (i := 7) (v := ?_) rfl (by kernel_rfl) (by kernel_rfl) (by kernel_rfl) (fun _ _ _ h => h) (Or.inl ⟨by rfl, ?_⟩) (by assumption) ?_; rotate_left; focus (intro w hSw; (try dsimp only at hSw); go_simp; try with_reducible rfl))
  (try simp only [List.getElem_toArray, List.getElem_cons_succ, List.getElem_cons_zero, Act.put, List.setIfInBounds_toArray, List.set_cons_zero, List.set_cons_succ])
  (refine wpAnyH_take (i := 8) (v := ?_) rfl (by kernel_rfl) (by kernel_rfl) (by kernel_rfl) (fun _ _ _ h => h) (Or.inl ⟨by rfl, ?_⟩) (by assumption) ?_; rotate_left; focus (intro w hSw; (try dsimp only at hSw); go_simp; try with_reducible rfl))
  (try simp only [List.getElem_toArray, List.getElem_cons_succ, List.getElem_cons_zero, Act.put, List.setIfInBounds_toArray, List.set_cons_zero, List.set_cons_succ])
  refine wpAnyH_ready (rs := [1]) (by kernel_rfl) (by simp) ?_
  refine AllReadyH.cons rfl (fun K hK => ?_) AllReadyH.nil
  go_simp
  (with_reducible refine (HN.out _ (HT.out _ (B1.trans ((held2_below (by first | exact S0 | exact held2_drew S0 | assumption)).mono B1.size)))).mono ?_); rintro e w2 ⟨rfl, b2⟩
  refine hK.out _ _ (by first | exact S0 | exact held2_drew S0 | assumption | exact held2_step hp1 hp2 S0 (by assumption) | exact held2_step hp1 hp2 (by assumption) (by assumption) | exact held2_drew (by assumption)) (fun hHeld => ?_)
  clear hK K
  (try simp only [List.getElem_toArray, List.getElem_cons_succ, List.getElem_cons_zero, Act.put, List.setIfInBounds_toArray, List.set_cons_zero, List.set_cons_succ])
  (refine wpAnyH_take (i := 2) (v := ?_) rfl (by kernel_rfl) (by kernel_rfl) (by kernel_rfl) (fun _ _ _ h => h) (Or.inl ⟨by rfl, ?_⟩) (by assumption) ?_; rotate_left; focus (intro w hSw; (try dsimp only at hSw); go_simp; try with_reducible rfl))
  (try simp only [List.getElem_toArray, List.getElem_cons_succ, List.getElem_cons_zero, Act.put, List.setIfInBounds_toArray, List.set_cons_zero, List.set_cons_succ])
  (refine wpAnyH_take (i := 5) (v := ?_) rfl (by kernel_rfl) (by kernel_rfl) (by kernel_rfl) (fun _ _ _ h => h) (Or.inl ⟨by rfl, ?_⟩) (by assumption) ?_; rotate_left; focus (intro w hSw; (try dsimp only at hSw); go_simp; try with_reducible rfl))
  (try simp only [List.getElem_toArray, List.getElem_cons_succ, List.getElem_cons_zero, Act.put, List.setIfInBounds_toArray, List.set_cons_zero, List.set_cons_succ])
  (refine wpAnyH_take (i := 6) (v := ?_) rfl (by kernel_rfl) (by kernel_rfl) (by kernel_rfl) (fun _ _ _ h => h) (Or.inl ⟨by rfl, ?_⟩) (by assumption) ?_; rotate_left; focus (intro w hSw; (try dsimp only at hSw); go_simp; try with_reducible rfl))
  (try simp only [List.getElem_toArray, List.getElem_cons_succ, List.getElem_cons_zero, Act.put, List.setIfInBounds_toArray, List.set_cons_zero, List.set_cons_succ])
  (refine wpAnyH_take (i := 9) (v := ?_) rfl (by kernel_rfl) (by kernel_rfl) (by kernel_rfl) (fun _ _ _ h => h) (Or.inl ⟨by rfl, ?_⟩) (by assumption) ?_; rotate_left; focus (intro w hSw; (try dsimp only at hSw); go_simp; try with_reducible rfl))
  (try simp only [List.getElem_toArray, List.getElem_cons_succ, List.getElem_cons_zero, Act.put, List.setIfInBounds_toArray, List.set_cons_zero, List.set_cons_succ])
  refine wpAnyH_ready (rs := [10]) (by kernel_rfl) (by simp) ?_
  refine AllReadyH.cons rfl (fun K hK => ?_) AllReadyH.nil
  go_simp
  (rw [← HH.out]; with_reducible refine (HA.out _ (HT.out _ (B1.trans ((held2_below (by first | exact S0 | exact held2_drew S0 | assumption)).mono B1.size)))).mono ?_); rintro e w3 ⟨rfl, b3⟩
  refine hK.out _ _ (by first | exact S0 | exact held2_drew S0 | assumption | exact held2_step hp1 hp2 S0 (by assumption) | exact held2_step hp1 hp2 (by assumption) (by assumption) | exact held2_drew (by assumption)) (fun hHeld => ?_)
  clear hK K
  (try simp only [List.getElem_toArray, List.getElem_cons_succ, List.getElem_cons_zero, Act.put, List.setIfInBounds_toArray, List.set_cons_zero, List.set_cons_succ])
  (refine wpAnyH_take (i := 11) (v := ?_) rfl (by kernel_rfl) (by kernel_rfl) (by kernel_rfl) (fun _ _ _ h => h) (Or.inl ⟨by rfl, ?_⟩) (by assumption) ?_; rotate_left; focus (intro w hSw; (try dsimp only at hSw); go_simp; try with_reducible rfl))
  (try simp only [List.getElem_toArray, List.getElem_cons_succ, List.getElem_cons_zero, Act.put, List.setIfInBounds_toArray, List.set_cons_zero, List.set_cons_succ])
  (refine wpAnyH_take (i := 12) (v := ?_) rfl (by kernel_rfl) (by kernel_rfl) (by kernel_rfl) (fun _ _ _ h => h) (Or.inl ⟨by rfl, ?_⟩) (by assumption) ?_; rotate_left; focus (intro w hSw; (try dsimp only at hSw); go_simp; try with_reducible rfl))
  (try simp only [List.getElem_toArray, List.getElem_cons_succ, List.getElem_cons_zero, Act.put, List.setIfInBounds_toArray, List.set_cons_zero, List.set_cons_succ])
  (refine wpAnyH_take (i := 13) (v := ?_) rfl (by kernel_rfl) (by kernel_rfl) (by kernel_rfl) (fun _ _ _ h => h) (Or.inl ⟨by rfl, ?_⟩) (by assumption) ?_; rotate_left; focus (intro w hSw; (try dsimp only at hSw); go_simp; try with_reducible rfl))
  (try simp only [List.getElem_toArray, List.getElem_cons_succ, List.getElem_cons_zero, Act.put, List.setIfInBounds_toArray, List.set_cons_zero, List.set_cons_succ])
  (refine wpAnyH_take (i := 14) (v := ?_) rfl (by kernel_rfl) (by kernel_rfl) (by kernel_rfl) (fun _ _ _ h => h) (Or.inl ⟨by rfl, ?_⟩) (by assumption) ?_; rotate_left; focus (intro w hSw; (try dsimp only at hSw); go_simp; try with_reducible rfl))
  (try simp only [List.getElem_toArray, List.getElem_cons_succ, List.getElem_cons_zero, Act.put, List.setIfInBounds_toArray, List.set_cons_zero, List.set_cons_succ])
  (refine wpAnyH_take (i := 15) (v := ?_) rfl (by kernel_rfl) (by kernel_rfl) (by kernel_rfl) (fun _ _ _ h => h) (Or.inl ⟨by rfl, ?_⟩) (by assumption) ?_; rotate_left; focus (intro w hSw; (try dsimp only at hSw); go_simp; try with_reducible rfl))
  (try simp only [List.getElem_toArray, List.getElem_cons_succ, List.getElem_cons_zero, Act.put, List.setIfInBounds_toArray, List.set_cons_zero, List.set_cons_succ])
  refine wpAnyH_done (by kernel_rfl) ?_ _
  first | refine NoPanic.normal ?_ | skip
  have SZ : w3.cell? ⟨w.heap.size, 0, none⟩ = some (.string c) ∧ w3.cell? ⟨w.heap.size, 1, none⟩ = some (.string r) ∧ Below w1.heap.size w1 w3 := by assumption
  have bz := held2_below SZ
  have B3 := B1.trans (bz.mono B1.size)
  clear S0 SZ hHeld
  go_wp2
  refine bodyPost_ret (v := .tuple #[.string (⟨(sealL H.data.toList).toArray⟩ ++ ⟨#[10]⟩), .bool true]) (by simp [results, go_sem]) rfl ?_
  refine ⟨_, _, rfl, .inl ⟨rfl, k, rfl, hk, HR.out, ?_⟩, B3⟩
  unfold lineR
  rw [← HHL.out]
  exact ByteArray.mk_append_mk (sealL H.data.toList) [10]
end Go.Proofs.YtjfhidaibpgpeaaDoor
