/-
  The reference puts a state into its list.
-/
import Derived.Test.YtekidodfcanjaaaDoorStates
import Derived.Test.YtekidodfcanjaaaDoorSrchQ
import Derived.Test.YtekidodfcanjaaaDoorWitA
import Derived.Test.YtekidodfcanjaaaDoorBegins
import Derived.Test.YtekidodfcanjaaaDoorSegS
namespace Go.Proofs.YtekidodfcanjaaaDoor
open Go.RowKit
set_option linter.unusedVariables false
set_option linter.unusedSimpArgs false
set_option maxRecDepth 100000

theorem info_state : (Tryd.prog.info? 53).map (fun i => (i.zero, i.size, i.bytes)) = some (some (.agg #[.slice none 0 0, .slice none 0 0, .bool false]), 3, 56) := by kernel_rfl

set_option maxHeartbeats 4000000 in
theorem spec_l22Put (B : Nat) (v rv av : Value) (S : List StD) (r a : List Int) (w : World) (hS : States B w v S) (hB : B ≤ w.heap.size) (hr : RowV B w rv r) (ha : RowV B w av a) (hn : S.length ≤ 1000) (hl : ∀ s ∈ S, s.1.length ≤ 1048576 ∧ s.2.1.length ≤ 1048576) (hrl : r.length ≤ 1048576) (hal : a.length ≤ 1048576) :
    Calls Tryd.prog 20 #[v, rv, av] w fun e w' => ∃ v2, e = .returned v2 ∧ States B w' v2 (putL S r a) ∧ Keep 3 B w w' := by
  obtain ⟨Av, cv, rfl⟩ := hS.slice
  obtain ⟨Ar, cr, rfl, -, -, -⟩ := hr.slice
  obtain ⟨Aa, ca, rfl, -, -, -⟩ := ha.slice
  have HS := Lib.hid hS
  have HR := Lib.hid hr
  have HA := Lib.hid ha
  have HL := Lib.hid hl
  clear hS hr ha hl
  go_enter Tryd.func20, Tryd.ntmps20
  go_wp2
  go_loopw [7] (fun i wr => ∃ k : Nat, k ≤ S.length ∧ i = .int .i64 k ∧ (∀ (j : Nat) t, j < k → S[j]? = some t → t.1 ≠ r) ∧ Below w.heap.size w wr) (fun i _ => S.length - (intOf i).toNat)
  case atStart => exact ⟨0, Nat.zero_le _, rfl, fun j t h => absurd h (Nat.not_lt_zero _), Below.refl _ _⟩
  case round =>
    obtain ⟨k, hk, rfl, hno, hb⟩ := hrel
    have HNO := Lib.hid hno
    have HB := Lib.hid hb
    have hBr := Nat.le_trans hB hb.size
    have kr := Keep.of_below (e := 3) hb hB
    have HSr := Lib.hid (HS.out.far hb hB)
    clear hno
    by_cases hlt : k < S.length
    · have i0 : (0 : Int) ≤ (k : Int) := by omega
      have i1 : (k : Int) < (S.length : Int) := by omega
      obtain ⟨s, hs⟩ := some_at S hlt
      obtain ⟨g, cap, hv, hg, hgl, hcap, hcm, hfr, hcell⟩ := HSr.out.open_ (by omega)
      injection hv with hv1 _ hv2
      subst hv1 hv2
      obtain ⟨⟨u1, u2, u3⟩, ⟨o1, o2, o3⟩, d0, d1, d2⟩ := hcell k s hs
      simp only at o1 o2 o3 d0 d1 d2
      obtain ⟨A1, c1, rfl, rd1, -, -⟩ := o1.slice
      obtain ⟨A2, c2, rfl, rd2, -, -⟩ := o2.slice
      obtain ⟨l1, l2⟩ := HL.out s (List.mem_of_getElem? hs)
      obtain ⟨s1, s2, s3⟩ := s
      simp only at l1 l2 d0 d1 d2 rd1 rd2
      have rdr := (Own.of_row (HR.out.keep kr)).slice
      obtain ⟨Ar', cr', hvr, rdr, -, -⟩ := rdr
      injection hvr with hvr1 _ hvr2
      subst hvr1 hvr2
      have f1 := hfr (k * 3 + 1)
      have HS1 := Lib.hid hs
      clear hcell hfr o1 o2 o3 d2 hs HL
      have D1 := Lib.hid d1
      clear d1
      go_wp2_with fail
      refine (spec_l1Same A1 Ar c1 cr s1 r _ rd1 rdr l1).mono ?_
      rintro e w2 ⟨rfl, b2⟩
      have HB2 := Lib.hid (HB.out.trans (b2.mono HB.out.size))
      have HSr2 := Lib.hid (HSr.out.far b2 hBr)
      clear d0
      by_cases hsr : s1 = r
      · rw [show decide (s1 = r) = true by simp [hsr]]
        have d1 := (b2.cell (p := ⟨g, k * 3 + 1, none⟩) hgl).trans D1.out
        have f1' := (b2.frozen (p := ⟨g, k * 3 + 1, none⟩) hgl).trans f1
        have k2 := Keep.of_below (e := 3) HB2.out hB
        obtain ⟨Aa', ca', hva, rda, -, -⟩ := (Own.of_row (HA.out.keep k2)).slice
        injection hva with hva1 _ hva2
        subst hva1 hva2
        have rd2' := (rd2.below b2).more b2.size
        clear rd2 rd1 rdr
        go_wp2_with fail
        refine (spec_l22Before Aa A2 ca c2 a s2 _ rda rd2' hal l2).mono ?_
        rintro e w3 ⟨rfl, b3⟩
        have hB3 := HB2.out.trans (b3.mono HB2.out.size)
        have hB3s := Nat.le_trans hB hB3.size
        have HSr3 := Lib.hid (HSr2.out.far b3 (Nat.le_trans hB HB2.out.size))
        have k3 := Keep.of_below (e := 3) hB3 hB
        have hgl2 := Nat.lt_of_lt_of_le hgl b2.size
        have e1 := (b3.cell (p := ⟨g, k * 3 + 1, none⟩) hgl2).trans d1
        have e2 := (b3.frozen (p := ⟨g, k * 3 + 1, none⟩) hgl2).trans f1'
        have HP := Lib.hid (putL_at S k (s1, s2, s3) r a HS1.out hsr HNO.out)
        clear d1 f1' f1 rda rd2' b2 b3
        cases hlt2 : ltA a s2 with
        | true =>
          have HX := Lib.hid (HSr3.out.set1 (u := .slice Aa a.length ca) HS1.out (HA.out.keep k3))
          go_wp2
          go_ret
          refine ⟨_, rfl, ?_, k3.trans HX.out.2⟩
          rw [HP.out]
          simp only [hlt2, if_true]
          exact HX.out.1
        | false =>
          go_wp2
          go_ret
          refine ⟨_, rfl, ?_, k3⟩
          rw [HP.out]
          simp only [hlt2, Bool.false_eq_true, if_false]
          rw [set_same HS1.out]
          exact HSr3.out
      · rw [show decide (s1 = r) = false by simp [hsr]]
        have HNE := Lib.hid hsr
        clear rd1 rd2 rdr f1 hsr
        go_wp2
        go_roundw
        case rel => exact ⟨k + 1, hlt, by go_num, fun j t hj ht => by
          by_cases e : j = k
          · subst e
            rw [HS1.out] at ht
            cases ht
            exact HNE.out
          · exact HNO.out j t (by omega) ht, HB2.out⟩
        case measure => simp [intOf]; omega
    · obtain rfl : k = S.length := by omega
      have HP := Lib.hid (putL_new S r a (fun t ht => by
        obtain ⟨j, hj⟩ := List.mem_iff_getElem?.1 ht
        exact HNO.out j t (List.getElem?_eq_some_iff.1 hj).1 hj))
      obtain ⟨cs, h1, h2, h3⟩ := HSr.out
      have H3 := Lib.hid h3
      have H1 := Lib.hid h1
      clear h3 h1 hlt
      go_wp2_with (at_builtin; refine wpList_append_threeG h2 hBr (.tmp 34) (.tmp 38) 48 Tryd.underlying48 info_state (by omega) (by unfold maxLen; omega) ⟨rfl, rfl, rfl, rfl, rfl, rfl, rfl, rfl⟩ rfl ?_; intro v7 w7 own7 gr7)
      go_ret
      have HX := States.put H1.out h2 H3.out hBr (HR.out.keep kr) (HA.out.keep kr) own7 gr7
      exact ⟨_, rfl, by rw [HP.out]; exact HX.1, kr.trans HX.2⟩
end Go.Proofs.YtekidodfcanjaaaDoor
