/-
  The law FnExactStrokeFrequencies returns true for every list of ints: its walk over the contracts.
-/
import Derived.Test.YtfgfbnmcihjfmaaFreqI
import Derived.Test.YtfgfbnmcihjfmaaBase
namespace Go.Proofs.Ytfgfbnmcihjfmaa
open Go.RowKit
set_option linter.unusedVariables false
set_option maxRecDepth 100000

theorem own_tightF {w : World} {lo hi size n : Nat} {e : TypeId} {v : Value} {xs : List Value} (h : Own w lo hi e size v n xs) : ∃ a, lo ≤ a ∧ Own w a (a + 1) e size v n xs ∧ (v.ownBlock = some a ∨ v.ownBlock = none) := by
  rcases h.1.2 with ⟨rfl, rfl⟩ | ⟨g, cap, cur, rfl, hb, hh, h1, h2, h3, h4⟩
  · have h0 : xs = [] := List.eq_nil_of_length_eq_zero (by simpa using h.1.1)
    subst h0
    exact ⟨lo, Nat.le_refl _, Own.none_, .inr rfl⟩
  · exact ⟨g, hb, ⟨⟨h.1.1, .inr ⟨g, cap, cur, rfl, Nat.le_refl _, hh, h1, h2, h3, h4⟩⟩, fun x hx => by simp [Value.ownBlock] at hx; omega⟩, .inl rfl⟩
/-- Two rows that lie apart, each in a block of its own. -/
theorem own_twoF {w : World} {lo hi s1 s2 n1 n2 : Nat} {e1 e2 : TypeId} {v1 v2 : Value} {xs1 xs2 : List Value} (h1 : Own w lo hi e1 s1 v1 n1 xs1) (h2 : Own w lo hi e2 s2 v2 n2 xs2) (hne : ∀ g, v1.ownBlock = some g → v2.ownBlock ≠ some g) :
    ∃ a b, Own w a (a + 1) e1 s1 v1 n1 xs1 ∧ Own w b (b + 1) e2 s2 v2 n2 xs2 ∧ lo ≤ a ∧ lo ≤ b ∧ (a + 1 ≤ b ∨ b + 1 ≤ a) := by
  obtain ⟨a, ha, oa, ca⟩ := own_tightF h1
  obtain ⟨b, hb, ob, cb⟩ := own_tightF h2
  have free : ∀ {x : Value} {e : TypeId} {s n : Nat} {xs : List Value} {a : Nat}, x.ownBlock = none → Own w a (a + 1) e s x n xs → ∀ c, Own w c (c + 1) e s x n xs := by
    intro x e s n xs a hx h c
    rcases h.1.2 with ⟨rfl, rfl⟩ | ⟨g, cap, cur, rfl, _⟩
    · have h0 : xs = [] := List.eq_nil_of_length_eq_zero (by simpa using h.1.1)
      subst h0
      exact Own.none_
    · simp [Value.ownBlock] at hx
  rcases ca with ca | ca
  · rcases cb with cb | cb
    · have := hne a ca
      rw [cb] at this
      exact ⟨a, b, oa, ob, ha, hb, by
        rcases Nat.lt_trichotomy a b with h | h | h
        · omega
        · subst h; exact absurd rfl this
        · omega⟩
    · exact ⟨a, a + 1, oa, free cb ob _, ha, by omega, by omega⟩
  · exact ⟨b + 1, b, free ca oa _, ob, by omega, hb, by omega⟩
theorem freq_both {l a b : List Int} (h1 : strokesB l = true → Freq l a) (h2 : strokesB l = false → a = []) (h3 : strokesB l = true → Freq l b) (h4 : strokesB l = false → b = []) : a = b ∧ a.length ≤ 60 := by
  cases hv : strokesB l
  · rw [h2 hv, h4 hv]; simp
  · exact ⟨(h1 hv).same (h3 hv), Nat.le_trans (h1 hv).len (strokes_rng hv).1⟩

set_option maxHeartbeats 8000000 in
theorem law_StrokeFrequencies (a0 : Option Addr) (len0 cap0 : Nat) (z0 : List Int) (W : World) (w0 : Ints .i64 W a0 len0 cap0 z0) :
    Calls Try.prog 3 #[.slice a0 len0 cap0] W fun e W' => e = .returned (.bool true) ∧ Below W.heap.size W W' := by
  obtain ⟨hr, hlc, hcm, rfl, -⟩ := w0
  unfold maxLen at hcm
  by_cases hn : z0.length ≤ 1048576
  case neg =>
    clear hr
    go_enter Try.func3, Try.ntmps3
    go_wp2
    go_ret
    exact ⟨rfl, Below.refl _ _⟩
  have hr0 : Reads W W.heap.size 1 a0 z0.length (ints z0) := hr
  clear hr
  go_enter Try.func3, Try.ntmps3
  go_wp2_with fail
  refine (toIntS_calls a0 cap0 z0 _ hr0 hn).mono ?_
  rintro e w1 ⟨v1, rfl, o1, b1⟩
  obtain ⟨A1, c1, rfl, r1, -, -⟩ := o1.slice
  go_wp2_with fail
  refine (spec_StrokeFrequencies A1 c1 z0 _ r1 hn).mono ?_
  rintro e w2 ⟨v2, u2, ns, rfl, hf1, hf2, ow, pw, b2, -⟩
  obtain ⟨Aw, cw, rfl, -, -, -⟩ := ow.slice
  obtain ⟨Bw, dw, rfl, -, -, -⟩ := pw.slice
  have s1 := b1.size
  have s2 := b2.size
  have B2 : Below W.heap.size W w2 := b1.trans (b2.mono s1)
  go_wp2_with fail
  refine (toIntS_calls a0 cap0 z0 _ ((hr0.below B2).more (by omega)) hn).mono ?_
  rintro e w3 ⟨v3, rfl, ox, b3⟩
  obtain ⟨Ax, cx, rfl, rx, -, -⟩ := ox.slice
  have s3 := b3.size
  go_wp2_with fail
  refine (impl_StrokeFrequencies Ax cx z0 _ rx hn).mono ?_
  rintro e w4 ⟨v4, u4, ms, rfl, hf3, hf4, ogx, pgx, b4, hap⟩
  obtain ⟨hms, hnl⟩ := freq_both hf3 hf4 hf1 hf2
  subst hms
  have HF1 := Lib.hid hf1
  have HF2 := Lib.hid hf2
  clear hf1 hf2 hf3 hf4
  obtain ⟨ga, gb, og, pg, hga, hgb, hgab⟩ := own_twoF ogx pgx hap
  clear ogx pgx hap
  obtain ⟨Ag, cg, rfl, -, -, -⟩ := og.slice
  obtain ⟨Bg, dg, rfl, -, -, -⟩ := pg.slice
  have hml : (ms.map (cntS z0)).length = ms.length := List.length_map _
  obtain ⟨cs, hcs⟩ : ∃ cs, cs = ms.map (cntS z0) := ⟨_, rfl⟩
  rw [← hcs] at hml pg pw
  have HCS := Lib.hid hcs
  clear hcs
  obtain ⟨q, hq⟩ : ∃ q, q = strokesB z0 := ⟨_, rfl⟩
  have HQ := Lib.hid hq
  rw [← hq]
  clear hq
  have hqq : (q != q) = false := by cases q <;> rfl
  obtain ⟨nn, hnn⟩ : ∃ nn, nn = ms.length := ⟨_, rfl⟩
  rw [← hnn] at hnl hml og pg ow pw ⊢
  have HNN := Lib.hid hnn
  clear hnn
  have hnm : ms.length = nn := HNN.out.symm
  have HNM := Lib.hid hnm
  have HML := Lib.hid hml
  clear hnm hml
  have s4 := b4.size
  have ow4 := (ow.below b3).below b4
  have pw4 := (pw.below b3).below b4
  have ox4 := ox.below b4
  have B4 : Below W.heap.size W w4 := (B2.trans (b3.mono (by omega))).trans (b4.mono (by omega))
  have HEQ := Lib.hid (show ∀ (A B : Option Addr) (ca cb : Nat) (w : World), Reads w w.heap.size 1 A nn (ints ms) → Reads w w.heap.size 1 B nn (ints ms) → Calls Try.prog 8 #[.slice A nn ca, .slice B nn cb] w fun e w' => e = .returned (.bool true) ∧ Below w.heap.size w w' from fun A B ca cb w h1 h2 => by
    have := eqIntS_calls A B ca cb ms ms w (by rw [HNM.out]; exact h1) (by rw [HNM.out]; exact h2) (by rw [HNM.out]; omega)
    rw [HNM.out] at this
    simpa using this)
  have HEP := Lib.hid (show ∀ (A B : Option Addr) (ca cb : Nat) (w : World), Reads w w.heap.size 1 A nn (ints cs) → Reads w w.heap.size 1 B nn (ints cs) → Calls Try.prog 8 #[.slice A nn ca, .slice B nn cb] w fun e w' => e = .returned (.bool true) ∧ Below w.heap.size w w' from fun A B ca cb w h1 h2 => by
    have := eqIntS_calls A B ca cb cs cs w (by rw [HML.out]; exact h1) (by rw [HML.out]; exact h2) (by rw [HML.out]; omega)
    rw [HML.out] at this
    simpa using this)
  clear ow pw ox b1 b2 b3 b4 B2
  go_wp2_with fail
  refine (HEQ.out Ag Aw cg cw _ (Reads.of_own og.1) (Reads.of_own ow4.1)).mono ?_
  rintro e w5 ⟨rfl, b5⟩
  have s5 := b5.size
  have ow5 := ow4.below b5
  have pw5 := pw4.below b5
  have ox5 := ox4.below b5
  have og5 := og.below b5
  have pg5 := pg.below b5
  have B5 := B4.trans (b5.mono (by omega))
  clear ow4 pw4 ox4 og pg b5
  go_wp2_with fail
  refine (HEP.out Bg Bw dg dw _ (Reads.of_own pg5.1) (Reads.of_own pw5.1)).mono ?_
  rintro e w6 ⟨rfl, b6⟩
  have s6 := b6.size
  have ow6 := ow5.below b6
  have pw6 := pw5.below b6
  have ox6 := ox5.below b6
  have og6 := og5.below b6
  have pg6 := pg5.below b6
  have B6 := B5.trans (b6.mono (by omega))
  clear ow5 pw5 ox5 og5 pg5 b6
  go_wp2_with fail
  refine (toIntS_calls a0 cap0 z0 _ ((hr0.below B6).more (by omega)) hn).mono ?_
  rintro e w7 ⟨v7, rfl, oc, b7⟩
  obtain ⟨Ac, cc, rfl, rc, -, -⟩ := oc.slice
  have s7 := b7.size
  have ow7 := ow6.below b7
  have pw7 := pw6.below b7
  have ox7 := ox6.below b7
  have og7 := og6.below b7
  have pg7 := pg6.below b7
  have B7 := B6.trans (b7.mono (by omega))
  clear ow6 pw6 ox6 og6 pg6 b7
  go_wp2_with fail
  refine (eqIntS_calls Ax Ac cx cc _ _ _ (Reads.of_own ox7.1) (Reads.of_own oc.1) (by omega)).mono ?_
  rintro e w8 ⟨rfl, b8⟩
  have s8 := b8.size
  have ow8 := ow7.below b8
  have pw8 := pw7.below b8
  have ox8 := ox7.below b8
  have og8 := og7.below b8
  have pg8 := pg7.below b8
  have B8 := B7.trans (b8.mono (by omega))
  clear ow7 pw7 ox7 og7 pg7 b8 oc rc
  go_wp2_with fail
  refine (markIntS_calls _ _ _ _ _ 1 _ ox8 (by omega) (by omega)).mono ?_
  rintro e w9 ⟨rfl, -, n9⟩
  have s9 := n9.size
  have ow9 := ow8.only n9 (.inl (by omega))
  have pw9 := pw8.only n9 (.inl (by omega))
  have og9 := og8.only n9 (.inr (by omega))
  have pg9 := pg8.only n9 (.inr (by omega))
  have B9 : Below W.heap.size W w9 := B8.trans (n9.below (by omega) (by omega))
  clear ow8 pw8 ox8 og8 pg8 n9
  have i9 : ¬ (1 : Int) + (z0.length : Int) < 0 := by omega
  go_wp2_with fail
  refine (HEQ.out Ag Aw cg cw _ (Reads.of_own og9.1) (Reads.of_own ow9.1)).mono ?_
  rintro e w10 ⟨rfl, b10⟩
  have s10 := b10.size
  have ow10 := ow9.below b10
  have pw10 := pw9.below b10
  have og10 := og9.below b10
  have pg10 := pg9.below b10
  have B10 := B9.trans (b10.mono (by omega))
  clear ow9 pw9 og9 pg9 b10
  go_wp2_with fail
  refine (HEP.out Bg Bw dg dw _ (Reads.of_own pg10.1) (Reads.of_own pw10.1)).mono ?_
  rintro e w11 ⟨rfl, b11⟩
  have s11 := b11.size
  have ow11 := ow10.below b11
  have pw11 := pw10.below b11
  have og11 := og10.below b11
  have pg11 := pg10.below b11
  have B11 := B10.trans (b11.mono (by omega))
  clear ow10 pw10 og10 pg10 b11
  go_wp2_with fail
  refine (markIntS_calls ga (ga + 1) _ nn _ 1 _ og11 (by omega) (by omega)).mono ?_
  rintro e w12 ⟨rfl, og12, n12⟩
  have s12 := n12.size
  have ow12 := ow11.only n12 (.inl (by omega))
  have pw12 := pw11.only n12 (.inl (by omega))
  have pg12 := pg11.only n12 (by omega)
  have B12 : Below W.heap.size W w12 := B11.trans (n12.below (by omega) (by omega))
  clear ow11 pw11 og11 pg11 n12
  go_wp2_with fail
  refine (markIntS_calls gb (gb + 1) _ nn _ (1 + (nn : Int)) _ pg12 (by omega) (by omega)).mono ?_
  rintro e w13 ⟨rfl, pg13, n13⟩
  have s13 := n13.size
  have ow13 := ow12.only n13 (.inl (by omega))
  have pw13 := pw12.only n13 (.inl (by omega))
  have og13 := og12.only n13 (by omega)
  have B13 : Below W.heap.size W w13 := B12.trans (n13.below (by omega) (by omega))
  clear ow12 pw12 og12 pg12 n13
  have i12 : ¬ (1 : Int) + (nn : Int) < 0 := by omega
  have i13 : ¬ (1 : Int) + (nn : Int) + (nn : Int) < 0 := by omega
  go_wp2_with fail
  refine (heldIntS_calls Ag cg nn 1 _ (Reads.of_own og13.1) (by omega) (by omega)).mono ?_
  rintro e w' ⟨rfl, rfl⟩
  go_wp2_with fail
  refine (heldIntS_calls Bg dg nn (1 + (nn : Int)) _ (Reads.of_own pg13.1) (by omega) (by omega)).mono ?_
  rintro e w' ⟨rfl, rfl⟩
  go_wp2_with fail
  refine (toIntS_calls a0 cap0 z0 _ ((hr0.below B13).more (by omega)) hn).mono ?_
  rintro e w14 ⟨v14, rfl, o14, b14⟩
  obtain ⟨A14, c14, rfl, r14, -, -⟩ := o14.slice
  have s14 := b14.size
  have ow14 := ow13.below b14
  have pw14 := pw13.below b14
  have og14 := og13.below b14
  have pg14 := pg13.below b14
  have B14 := B13.trans (b14.mono (by omega))
  clear ow13 pw13 og13 pg13 b14
  go_wp2_with fail
  refine (impl_StrokeFrequencies A14 c14 z0 _ r14 hn).mono ?_
  rintro e w15 ⟨v15, u15, ls, rfl, hf3, hf4, oh, ph, b15, -⟩
  obtain ⟨hls, -⟩ := freq_both hf3 hf4 HF1.out HF2.out
  subst hls
  rw [← HCS.out, HNM.out] at ph
  rw [HNM.out] at oh
  rw [← HQ.out]
  clear hf3 hf4
  obtain ⟨Ah, ch, rfl, -, -, -⟩ := oh.slice
  obtain ⟨Bh, dh, rfl, -, -, -⟩ := ph.slice
  have s15 := b15.size
  have ow15 := ow14.below b15
  have pw15 := pw14.below b15
  have og15 := og14.below b15
  have pg15 := pg14.below b15
  have B15 := B14.trans (b15.mono (by omega))
  clear ow14 pw14 og14 pg14 b15
  go_wp2_with fail
  refine (HEQ.out Ah Aw ch cw _ (Reads.of_own oh.1) (Reads.of_own ow15.1)).mono ?_
  rintro e w16 ⟨rfl, b16⟩
  have s16 := b16.size
  have pw16 := pw15.below b16
  have ph16 := ph.below b16
  have og16 := og15.below b16
  have pg16 := pg15.below b16
  have B16 := B15.trans (b16.mono (by omega))
  clear ow15 pw15 og15 pg15 b16 oh ph
  go_wp2_with fail
  refine (HEP.out Bh Bw dh dw _ (Reads.of_own ph16.1) (Reads.of_own pw16.1)).mono ?_
  rintro e w17 ⟨rfl, b17⟩
  have s17 := b17.size
  have og17 := og16.below b17
  have pg17 := pg16.below b17
  have B17 := B16.trans (b17.mono (by omega))
  clear pw16 og16 pg16 b17 ph16
  go_wp2_with fail
  refine (heldIntS_calls Ag cg nn 1 _ (Reads.of_own og17.1) (by omega) (by omega)).mono ?_
  rintro e w' ⟨rfl, rfl⟩
  go_wp2_with fail
  refine (heldIntS_calls Bg dg nn (1 + (nn : Int)) _ (Reads.of_own pg17.1) (by omega) (by omega)).mono ?_
  rintro e w' ⟨rfl, rfl⟩
  go_wp2
  go_ret
  exact ⟨rfl, B17⟩
end Go.Proofs.Ytfgfbnmcihjfmaa
