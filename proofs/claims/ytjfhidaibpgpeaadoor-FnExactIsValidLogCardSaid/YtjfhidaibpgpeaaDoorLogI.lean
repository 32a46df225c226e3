/-
  The program reads the records of a log.
-/
import Derived.Test.YtjfhidaibpgpeaaDoorSealI
import Derived.Test.YtjfhidaibpgpeaaDoorLogR
namespace Go.Proofs.YtjfhidaibpgpeaaDoor
open Go.RowKit
set_option linter.unusedVariables false
set_option linter.unusedSimpArgs false
set_option maxRecDepth 100000

def cutA (X : ByteArray) (c : UInt8) : ByteArray := ⟨(Lib.cut X.data.toList [c]).1.toArray⟩
def cutB (X : ByteArray) (c : UInt8) : ByteArray := ⟨(Lib.cut X.data.toList [c]).2.1.toArray⟩
def cutC (X : ByteArray) (c : UInt8) : Bool := (Lib.cut X.data.toList [c]).2.2
theorem cutA_size (X : ByteArray) (c : UInt8) : (cutA X c).size ≤ X.size := by
  show (Lib.cut X.data.toList [c]).1.length ≤ X.data.toList.length
  by_cases h : c ∈ X.data.toList
  · obtain ⟨p, r, he, hp⟩ := split_first h
    rw [he, cut_at r hp]; simp
  · rw [cut_no h]; exact Nat.le_refl _
theorem cutB_size (X : ByteArray) (c : UInt8) : (cutB X c).size ≤ X.size := by
  show (Lib.cut X.data.toList [c]).2.1.length ≤ X.data.toList.length
  by_cases h : c ∈ X.data.toList
  · obtain ⟨p, r, he, hp⟩ := split_first h
    rw [he, cut_at r hp]; simp; omega
  · rw [cut_no h]; simp
theorem impl_CutR (X : ByteArray) (c : UInt8) (w : World) (hs : X.size ≤ 4194304) (hm : MaxOk w) :
    Calls Tryd.prog 44 #[.string X, .string ⟨#[c]⟩] w fun e w' => e = .returned (.tuple #[.string (cutA X c), .string (cutB X c), .bool (cutC X c)]) ∧ Below w.heap.size w w' := by
  obtain ⟨m, hm⟩ := hm
  refine (Tryd.strings_Cut X ⟨#[c]⟩ m w (by omega) hm).mono ?_
  rintro e w1 ⟨rfl, n, rfl⟩
  exact ⟨rfl, below_drewN (Below.refl _ _) n⟩

def DecodeRes (k : Nat) (L : List UInt8) (w : World) (x : Ending) (w' : World) : Prop :=
  ∃ (e : RecD) (d : Nat) (b : Bool), x = .returned (.tuple #[.agg #[.string e.1, .string e.2], .int .i64 d, .bool b]) ∧ ((b = true ∧ Next k L d) ∨ (b = false ∧ ∀ d, ¬ Next k L d)) ∧ Below w.heap.size w w'
theorem decode_no {k : Nat} {L : List UInt8} {w w' : World} (h : ∀ d, ¬ Next k L d) (hb : Below w.heap.size w w') : DecodeRes k L w (.returned (.tuple #[.agg #[.string ⟨#[]⟩, .string ⟨#[]⟩], .int .i64 0, .bool false])) w' :=
  ⟨(⟨#[]⟩, ⟨#[]⟩), 0, false, rfl, .inr ⟨rfl, h⟩, hb⟩

set_option maxHeartbeats 4000000 in
theorem impl_decode (k : Nat) (s : ByteArray) (w : World) (hs : s.size ≤ 4194304) (htab : Lib.TabIs Tryd.prog w "internal/strconv.uint64pow10" .u64 Lib.pow10Tab) (hm : MaxOk w) :
    Calls Tryd.prog 39 #[.int .i64 k, .string s] w (DecodeRes k s.data.toList w) := by
  have HT := Lib.hid (show ∀ W, Below w.heap.size w W → Lib.TabIs Tryd.prog W "internal/strconv.uint64pow10" .u64 Lib.pow10Tab from fun W hb => Lib.tabBelow_of_tabIs htab W hb)
  have HM := Lib.hid (show ∀ W, Below w.heap.size w W → MaxOk W from fun W hb => hm.below hb)
  clear htab hm
  have hb0 : Below w.heap.size w (w.alloc (.cells #[.string ⟨#[]⟩, .string ⟨#[]⟩] 27)) := (Below.refl _ _).alloc (Nat.le_refl _) _
  have t0 := Two.new w 27 (.string ⟨#[]⟩) (.string ⟨#[]⟩)
  obtain ⟨N, hN⟩ : ∃ N, N = cutA s 10 := ⟨_, rfl⟩
  obtain ⟨X, hX⟩ : ∃ X, X = cutA N 35 := ⟨_, rfl⟩
  obtain ⟨Y, hY⟩ : ∃ Y, Y = cutB X 32 := ⟨_, rfl⟩
  obtain ⟨C, hC⟩ : ∃ C, C = cutA Y 62 := ⟨_, rfl⟩
  obtain ⟨R, hR⟩ : ∃ R, R = cutB Y 62 := ⟨_, rfl⟩
  have hNs : N.size ≤ s.size := by rw [hN]; exact cutA_size _ _
  have hXs : X.size ≤ N.size := by rw [hX]; exact cutA_size _ _
  have hYs : Y.size ≤ X.size := by rw [hY]; exact cutB_size _ _
  have hCs : C.size ≤ Y.size := by rw [hC]; exact cutA_size _ _
  have hRs : R.size ≤ Y.size := by rw [hR]; exact cutB_size _ _
  have hrec : cutRec N.data.toList = (C, R) := by rw [hC, hR, hY, hX]; rfl
  have hNl : N.data.toList = (Lib.cut s.data.toList [10]).1 := by rw [hN]; rfl
  have HDI := Lib.hid (show Dec k N.data.toList ↔ k ≤ 59 ∧ recB (C, R) = true ∧ lineR k (C, R) = N.data.toList by rw [← hrec]; exact dec_iff _ _)
  have HYES := Lib.hid (show cutC s 10 = true → Dec k N.data.toList → Next k s.data.toList (N.size + 1) from fun h1 h2 => by
    have h := next_yes_cut h1 (by rw [← hNl]; exact h2)
    rwa [← hNl] at h)
  have HNO := Lib.hid (show ¬ (cutC s 10 = true ∧ Dec k N.data.toList) → ∀ d, ¬ Next k s.data.toList d from fun h => next_no_cut (fun h' => h ⟨h'.1, by rw [hNl]; exact h'.2⟩))
  have HC1 := Lib.hid (fun W hm => (show Calls Tryd.prog 44 #[.string s, .string ⟨#[10]⟩] W fun e w' => e = .returned (.tuple #[.string N, .string (cutB s 10), .bool (cutC s 10)]) ∧ Below W.heap.size W w' by rw [hN]; exact impl_CutR s 10 W hs hm))
  have HC2 := Lib.hid (fun W hm => (show Calls Tryd.prog 44 #[.string N, .string ⟨#[35]⟩] W fun e w' => e = .returned (.tuple #[.string X, .string (cutB N 35), .bool (cutC N 35)]) ∧ Below W.heap.size W w' by rw [hX]; exact impl_CutR N 35 W (by omega) hm))
  have HC3 := Lib.hid (fun W hm => (show Calls Tryd.prog 44 #[.string X, .string ⟨#[32]⟩] W fun e w' => e = .returned (.tuple #[.string (cutA X 32), .string Y, .bool (cutC X 32)]) ∧ Below W.heap.size W w' by rw [hY]; exact impl_CutR X 32 W (by omega) hm))
  have HC4 := Lib.hid (fun W hm => (show Calls Tryd.prog 44 #[.string Y, .string ⟨#[62]⟩] W fun e w' => e = .returned (.tuple #[.string C, .string R, .bool (cutC Y 62)]) ∧ Below W.heap.size W w' by rw [hC, hR]; exact impl_CutR Y 62 W (by omega) hm))
  clear hN hX hY hC hR hrec hNl
  go_enter Tryd.func39, Tryd.ntmps39
  go_wp2_with fail
  generalize hWx : w.alloc (.cells #[.string ⟨#[]⟩, .string ⟨#[]⟩] 27) = wx at *
  clear hWx
  refine (HC1.out _ (HM.out _ hb0)).mono ?_
  rintro e w1 ⟨rfl, b1⟩
  have B1 := hb0.trans (b1.mono hb0.size)
  have t1 := t0.far b1
  have r0 := t1.cell0
  have r1 := t1.cell1
  have g0 := t1.free 0
  have g1 := t1.free 1
  have HZ1 := Lib.hid (t1.setSelf (.string ⟨#[]⟩) (.string ⟨#[]⟩)).cells
  cases hok : cutC s 10
  · have HN1 := Lib.hid (HNO.out (by rw [hok]; simp))
    go_wp2
    refine bodyPost_ret (v := .tuple #[.agg #[.string ⟨#[]⟩, .string ⟨#[]⟩], .int .i64 0, .bool false]) (by simp [results, go_sem, HZ1.out.1, HZ1.out.2]) rfl ?_
    exact decode_no HN1.out (below_store2 B1 (Nat.le_refl _) _ _)
  by_cases h4 : N.size ≤ 4000
  case neg =>
    have j1 : (4000 : Int) < (N.size : Int) := by omega
    have HN1 := Lib.hid (HNO.out (fun h => by have := decR_len h.2; rw [← size_data] at this; omega))
    clear h4
    go_wp2
    refine bodyPost_ret (v := .tuple #[.agg #[.string ⟨#[]⟩, .string ⟨#[]⟩], .int .i64 0, .bool false]) (by simp [results, go_sem, HZ1.out.1, HZ1.out.2]) rfl ?_
    exact decode_no HN1.out (below_store2 B1 (Nat.le_refl _) _ _)
  have j1 : ¬ (4000 : Int) < (N.size : Int) := by omega
  have HOK := Lib.hid hok
  clear r0 r1 g0 g1
  go_wp2_with fail
  refine (HC2.out _ (HM.out _ B1)).mono ?_
  rintro e w2 ⟨rfl, b2⟩
  have B2 := B1.trans (b2.mono B1.size)
  have t2 := t1.far b2
  go_wp2_with fail
  refine (HC3.out _ (HM.out _ B2)).mono ?_
  rintro e w3 ⟨rfl, b3⟩
  have B3 := B2.trans (b3.mono B2.size)
  have t3 := t2.far b3
  go_wp2_with fail
  refine (HC4.out _ (HM.out _ B3)).mono ?_
  rintro e w4 ⟨rfl, b4⟩
  have B4 := B3.trans (b4.mono B3.size)
  have t4 := t3.far b4
  have hbE : Below w4.heap.size w4 (w4.alloc (.cells #[.string C, .string R] 27)) := (Below.refl _ _).alloc (Nat.le_refl _) _
  have tE := Two.new w4 27 (.string C) (.string R)
  have tR5 := t4.far hbE
  have B5 := B4.trans (hbE.mono B4.size)
  have c0 := tE.cell0
  have c1 := tE.cell1
  have hne4 : w.heap.size ≠ w4.heap.size := by have := t4.lt; omega
  have HNE := Lib.hid hne4
  clear hok hne4
  go_wp2_with fail
  generalize hWE : w4.alloc (.cells #[.string C, .string R] 27) = wE at *
  clear hWE
  refine (impl_EncodeRecord k C R _ (by omega) (by omega) (HT.out _ B5)).mono ?_
  rintro e w6 ⟨t, b, rfl, henc, b6⟩
  have B6 := B5.trans (b6.mono B5.size)
  have tR6 := tR5.far b6
  have tE6 := tE.far b6
  have r0 := tR6.cell0
  have r1 := tR6.cell1
  have g0 := tR6.free 0
  have g1 := tR6.free 1
  have HZ6 := Lib.hid (tR6.setSelf (.string ⟨#[]⟩) (.string ⟨#[]⟩)).cells
  have HZC := Lib.hid (tR6.setSelf (.string C) (.string R)).cells
  have HENC := Lib.hid henc
  clear henc c0 c1
  have y7 : ¬ (9223372036854775806 < N.size) := by omega
  have y8 : ¬ (9223372036854775807 < N.size + 1) := by omega
  cases b
  · have HN1 := Lib.hid (HNO.out (fun h => by
      have h1 := (HDI.out.1 h.2)
      rcases HENC.out with ⟨h2, -⟩ | ⟨-, -, h2⟩
      · cases h2
      · exact h2 ⟨by omega, by omega, h1.2.1⟩))
    go_wp2
    refine bodyPost_ret (v := .tuple #[.agg #[.string ⟨#[]⟩, .string ⟨#[]⟩], .int .i64 0, .bool false]) (by simp [results, go_sem, HZ6.out.1, HZ6.out.2]) rfl ?_
    exact decode_no HN1.out (below_store2 B6 (Nat.le_refl _) _ _)
  have HTE := Lib.hid (show t = N ++ ⟨#[10]⟩ ↔ Dec k N.data.toList by
    rcases HENC.out with ⟨-, k', hk', h59, hr, ht⟩ | ⟨h2, -⟩
    · obtain rfl : k = k' := by omega
      rw [HDI.out, ht, add_newline, newline_eq]
      exact ⟨fun h => ⟨h59, hr, h⟩, fun h => h.2.2⟩
    · cases h2)
  by_cases hte : t = N ++ ⟨#[10]⟩
  · have HYES1 := Lib.hid (HYES.out HOK.out (HTE.out.1 hte))
    subst hte
    have c0 := tE6.cell0
    have c1 := tE6.cell1
    go_wp2
    refine bodyPost_ret (v := .tuple #[.agg #[.string C, .string R], .int .i64 ((N.size : Int) + 1), .bool true]) (by simp [results, go_sem, HZC.out.1, HZC.out.2]) rfl ?_
    exact ⟨(C, R), N.size + 1, true, by simp, .inl ⟨rfl, HYES1.out⟩, below_store2 B6 (Nat.le_refl _) _ _⟩
  · have hne := str_other hte
    have HN1 := Lib.hid (HNO.out (fun h => hte (HTE.out.2 h.2)))
    clear hte
    go_wp2
    refine bodyPost_ret (v := .tuple #[.agg #[.string ⟨#[]⟩, .string ⟨#[]⟩], .int .i64 0, .bool false]) (by simp [results, go_sem, HZ6.out.1, HZ6.out.2]) rfl ?_
    exact decode_no HN1.out (below_store2 B6 (Nat.le_refl _) _ _)
end Go.Proofs.YtjfhidaibpgpeaaDoor
