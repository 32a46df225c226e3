/-
  The reference's StrokeFrequencies.
-/
import Derived.Test.YtfgfbnmcihjfmaaFreqPl
import Derived.Test.YtfgfbnmcihjfmaaIns
import Derived.Test.YtfgfbnmcihjfmaaStrokes
import Derived.StillTailTactics
import Derived.Deep.RegionHeld3
namespace Go.Proofs.Ytfgfbnmcihjfmaa
open Go.RowKit
set_option linter.unusedVariables false
set_option linter.unusedSimpArgs false
set_option maxRecDepth 100000

theorem bef_dec (c : Int → Int) (y x : Int) (b : Bool) (h : (b = true ∧ Bef c y x) ∨ (b = false ∧ ¬ Bef c y x)) : (b = true ↔ Bef c y x) := by
  rcases h with ⟨h1, h2⟩ | ⟨h1, h2⟩
  · simp [h1, h2]
  · simp [h1, h2]
theorem ints_insF (l : List Int) (p : Nat) (s : Int) : ints (l.take p ++ [s] ++ l.drop p) = (ints l).take p ++ [.int .i64 s] ++ (ints l).drop p := by simp [ints]
theorem ints_oneF : ∀ l : List Int, ∀ u ∈ ints l, u.oneCell' = true := fun l u hu => by obtain ⟨z, _, rfl⟩ := List.mem_map.1 hu; rfl
/-- What both functions answer. -/
def FreqRes (l : List Int) (w : World) (e : Ending) (w' : World) : Prop :=
  ∃ v u ns, e = .returned (.tuple #[v, u, .bool (strokesB l)]) ∧ (strokesB l = true → Freq l ns) ∧ (strokesB l = false → ns = []) ∧ Own w' w.heap.size w'.heap.size 3 1 v ns.length (ints ns) ∧ Own w' w.heap.size w'.heap.size 3 1 u ns.length (ints (ns.map (cntS l))) ∧ Below w.heap.size w w' ∧ ∀ g, v.ownBlock = some g → u.ownBlock ≠ some g
theorem freq_no {l : List Int} {w w' : World} (h : strokesB l = false) (hb : Below w.heap.size w w') : FreqRes l w (.returned (.tuple #[.slice none 0 0, .slice none 0 0, .bool false])) w' :=
  ⟨_, _, [], by rw [h], fun h' => (by rw [h] at h'; cases h'), fun _ => rfl, Own.none_, Own.none_, hb, fun g hg => by simp [Value.ownBlock] at hg⟩
theorem count_take {l : List Int} {j : Nat} {y : Int} (h : l[j]? = some y) (x : Int) : (l.take (j + 1)).count x = (l.take j).count x + (if y = x then 1 else 0) := by
  rw [List.take_add_one, h]
  simp only [Option.toList_some, List.count_append, List.count_singleton]
  by_cases e : y = x
  · simp [e]
  · simp [e]
theorem mem_take_next {l : List Int} {j : Nat} {y : Int} (h : l[j]? = some y) (x : Int) : x ∈ l.take (j + 1) ↔ x ∈ l.take j ∨ x = y := by
  rw [List.take_add_one, h]
  simp
/-- Whether x, the k-th, has been met ahead of place k, as far as the first j tell. -/
def FirstTo (l : List Int) (k : Nat) (x : Int) (j : Nat) (b : Bool) : Prop := b = true ↔ x ∉ l.take (min j k)
theorem first_skip {l : List Int} {k j : Nat} {x y : Int} {b : Bool} (h : FirstTo l k x j b) (hj : l[j]? = some y) (hy : ¬ y = x) : FirstTo l k x (j + 1) b := by
  unfold FirstTo at *
  rw [h]
  by_cases hjk : j < k
  · rw [show min (j + 1) k = j + 1 by omega, show min j k = j by omega, mem_take_next hj]
    constructor
    · rintro h (h1 | h1)
      · exact h h1
      · exact hy h1.symm
    · exact fun h h1 => h (.inl h1)
  · rw [show min (j + 1) k = k by omega, show min j k = k by omega]
theorem first_hit {l : List Int} {k j : Nat} {x : Int} {b : Bool} (h : FirstTo l k x j b) (hj : l[j]? = some x) : FirstTo l k x (j + 1) (b && decide ((k : Int) ≤ (j : Int))) := by
  unfold FirstTo at *
  rw [Bool.and_eq_true, h, decide_eq_true_iff]
  by_cases hjk : j < k
  · rw [show min (j + 1) k = j + 1 by omega, mem_take_next hj]
    constructor
    · rintro ⟨-, h2⟩; omega
    · exact fun h => absurd (.inr rfl) h
  · rw [show min (j + 1) k = k by omega, show min j k = k by omega]
    exact ⟨fun h => h.1, fun h => ⟨h, by omega⟩⟩

set_option maxHeartbeats 16000000 in
theorem spec_StrokeFrequencies (A : Option Addr) (cap : Nat) (l : List Int) (w : World) (hr : Reads w w.heap.size 1 A l.length (ints l)) (hn : l.length ≤ 1048576) :
    Calls Try.prog 5 #[.slice A l.length cap] w (FreqRes l w) := by
  cases hv : strokesB l
  · have HV := Lib.hid hv
    go_enter Try.func5, Try.ntmps5
    go_wp2_with fail
    refine (spec_l7Strokes A cap l _ hr hn).mono ?_
    rw [hv]
    clear hv
    rintro e w3 ⟨rfl, rfl⟩
    go_wp2
    go_ret3
    exact freq_no HV.out (Below.refl _ _)
  have HV := Lib.hid hv
  have h60 : l.length ≤ 60 := by
    unfold strokesB at hv
    simp only [Bool.and_eq_true, decide_eq_true_eq] at hv
    exact hv.1
  go_enter Try.func5, Try.ntmps5
  go_wp2_with fail
  refine (spec_l7Strokes A cap l _ hr hn).mono ?_
  rw [hv]
  clear hv
  rintro e w3 ⟨rfl, rfl⟩
  have HR := Lib.hid (show ∀ W', Below w.heap.size w W' → ∀ k x, l[k]? = some x → ∃ b off, A = some ⟨b, off, none⟩ ∧ b < w.heap.size ∧ W'.cell? ⟨b, off + k, none⟩ = some (.int .i64 x) from fun W' hb k x hx => by
    have hk := (List.getElem?_eq_some_iff.1 hx).1
    obtain ⟨b, off, h1, h2, h3⟩ := hr.2 (by omega)
    exact ⟨b, off, h1, h2, (hb.cell (p := ⟨b, off + k, none⟩) h2).trans (h3 k _ (ints_at _ hx))⟩)
  have on0 : ((w.alloc (.cells #[] 3)).alloc (.cells #[] 3)).ownsRow w.heap.size 3 1 (.slice (some ⟨w.heap.size, 0, none⟩) 0 0) 0 [] := (World.ownsRow_made _ _ _ (Nat.le_refl _) (by simp) rfl).alloc _
  have oc0 : ((w.alloc (.cells #[] 3)).alloc (.cells #[] 3)).ownsRow w.heap.size 3 1 (.slice (some ⟨w.heap.size + 1, 0, none⟩) 0 0) 0 [] := by
    have := World.ownsRow_made (base := w.heap.size) (e := 3) (size := 1) (w.alloc (.cells #[] 3)) #[] 0 (by simp) (by simp) rfl
    simpa using this
  have B0 : Below w.heap.size w ((w.alloc (.cells #[] 3)).alloc (.cells #[] 3)) := ((Below.refl _ _).alloc (Nat.le_refl _) _).alloc (by simp) _
  have HOI := Lib.hid ints_oneF
  clear hr
  go_wp2
  go_loopg [5, 6, 7] (l.length) (fun n v u i wr => ∃ (k : Nat) (ns : List Int), n = l.length - k ∧ k ≤ l.length ∧ i = .int .i64 k ∧ ns.Pairwise (Bef (cntS l)) ∧ (∀ x, x ∈ ns ↔ x ∈ l.take k) ∧ ns.length ≤ k ∧
    (∃ g c, v = .slice (some ⟨g, 0, none⟩) ns.length c ∧ ns.length ≤ c ∧ c ≤ maxLen ∧ wr.ownsRow w.heap.size 3 1 v ns.length (ints ns) ∧ ∃ g' c', g ≠ g' ∧ u = .slice (some ⟨g', 0, none⟩) ns.length c' ∧ ns.length ≤ c' ∧ c' ≤ maxLen ∧ wr.ownsRow w.heap.size 3 1 u ns.length (ints (ns.map (cntS l)))) ∧ Below w.heap.size w wr)
  case atStart => exact ⟨0, [], rfl, Nat.zero_le _, rfl, List.Pairwise.nil, by simp, Nat.le_refl _, ⟨_, 0, rfl, Nat.le_refl _, by simp, on0, _, 0, by omega, rfl, Nat.le_refl _, by simp, oc0⟩, B0⟩
  case round =>
    clear on0 oc0 B0
    obtain ⟨k, ns, hgk, hk, rfl, hpw, hme, hnk, ⟨gn, cn, rfl, hcn, hmn, own, gc, cc, hgg, rfl, hcc, hmc, cwn⟩, hb⟩ := hrel
    have HPW := Lib.hid hpw
    have HME := Lib.hid hme
    have HON := Lib.hid own
    have HOC := Lib.hid cwn
    have HB := Lib.hid hb
    have szb := hb.size
    clear hpw hme own cwn hb
    by_cases hlt : k < l.length
    · obtain ⟨x, hx⟩ := some_at l hlt
      have HX := Lib.hid hx
      have i1 : (k : Int) < (l.length : Int) := by omega
      have hcx := cntS_range l x
      clear hx
      go_wp2
      go_loopg [8, 9, 10] (l.length) (fun n vn vf vj wr => ∃ (j : Nat) (b : Bool), n = l.length - j ∧ j ≤ l.length ∧ vj = .int .i64 j ∧ vn = .int .i64 ((l.take j).count x : Nat) ∧ vf = .bool b ∧ FirstTo l k x j b ∧ Below w.heap.size w wr ∧ wr.ownsRow w.heap.size 3 1 (.slice (some ⟨gn, 0, none⟩) ns.length cn) ns.length (ints ns) ∧ wr.ownsRow w.heap.size 3 1 (.slice (some ⟨gc, 0, none⟩) ns.length cc) ns.length (ints (ns.map (cntS l))))
      case atStart => exact ⟨0, true, rfl, Nat.zero_le _, rfl, by simp, rfl, by simp [FirstTo], HB.out, HON.out, HOC.out⟩
      case round =>
        obtain ⟨j, b, hgj, hj, rfl, rfl, rfl, hft, hb2, on2, oc2⟩ := hrel
        have HFT := Lib.hid hft
        have HB2 := Lib.hid hb2
        have HON2 := Lib.hid on2
        have HOC2 := Lib.hid oc2
        clear hft hb2 on2 oc2
        have hcl := List.count_le_length (a := x) (l := l.take j)
        rw [List.length_take] at hcl
        obtain ⟨cj, hcj⟩ : ∃ cj, cj = (l.take j).count x := ⟨_, rfl⟩
        rw [← hcj] at hcl ⊢
        have HCJ := Lib.hid hcj
        clear hcj
        by_cases hlj : j < l.length
        · obtain ⟨y, hy⟩ := some_at l hlj
          obtain ⟨b1, off, hA, hb0, cy⟩ := HR.out _ HB2.out j y hy
          subst hA
          have cx : wr.cell? ⟨b1, off + k, none⟩ = some (.int .i64 x) := by
            obtain ⟨b2, off2, hA2, -, cx⟩ := HR.out _ HB2.out k x HX.out
            injection hA2 with hA2
            injection hA2 with hA2 hA3
            subst hA2 hA3
            exact cx
          have HCN := Lib.hid (count_take hy x)
          have HY := Lib.hid hy
          have i2 : (j : Int) < (l.length : Int) := by omega
          clear hy
          by_cases hyx : y = x
          · subst hyx
            have HCY := Lib.hid (show (l.take (j + 1)).count y = cj + 1 by rw [HCN.out, if_pos rfl, HCJ.out])
            have HFH := Lib.hid (first_hit HFT.out HY.out)
            have ey : (y == y) = true := by simp
            cases b with
            | true =>
              by_cases hkj : k ≤ j
              · have q1 : (k : Int) ≤ (j : Int) := by omega
                have HFH2 := Lib.hid (show FirstTo l k y (j + 1) true by have := HFH.out; rw [decide_eq_true q1] at this; exact this)
                go_wp2
                go_quiet (fail)
                go_wp2
                go_roundg (l.length - (j + 1))
                case measure => omega
                case rel => exact ⟨j + 1, true, rfl, hlj, by go_num, by rw [HCY.out]; go_num, rfl, HFH2.out, below_drewN HB2.out _, drewN_own HON2.out _, drewN_own HOC2.out _⟩
              · have q1 : ¬ (k : Int) ≤ (j : Int) := by omega
                have HFH2 := Lib.hid (show FirstTo l k y (j + 1) false by have := HFH.out; rw [decide_eq_false q1] at this; exact this)
                go_wp2
                go_quiet (fail)
                go_wp2
                go_roundg (l.length - (j + 1))
                case measure => omega
                case rel => exact ⟨j + 1, false, rfl, hlj, by go_num, by rw [HCY.out]; go_num, rfl, HFH2.out, below_drewN HB2.out _, drewN_own HON2.out _, drewN_own HOC2.out _⟩
            | false =>
              have HFH2 := Lib.hid (show FirstTo l k y (j + 1) false from HFH.out)
              go_wp2
              go_quiet (fail)
              go_wp2
              go_roundg (l.length - (j + 1))
              case measure => omega
              case rel => exact ⟨j + 1, false, rfl, hlj, by go_num, by rw [HCY.out]; go_num, rfl, HFH2.out, below_drewN HB2.out _, drewN_own HON2.out _, drewN_own HOC2.out _⟩
          · have HFS := Lib.hid (first_skip HFT.out HY.out hyx)
            have HCO := Lib.hid (show (l.take (j + 1)).count x = cj by rw [HCN.out, if_neg hyx, HCJ.out, Nat.add_zero])
            have ey : (y == x) = false := by simp [hyx]
            have HNE := Lib.hid hyx
            clear hyx
            go_wp2
            go_quiet (fail)
            go_wp2
            go_roundg (l.length - (j + 1))
            case measure => omega
            case rel => exact ⟨j + 1, b, rfl, hlj, by go_num, by rw [HCO.out], rfl, HFS.out, below_drewN HB2.out _, drewN_own HON2.out _, drewN_own HOC2.out _⟩
        · obtain rfl : j = l.length := by omega
          have hce : (cj : Int) = cntS l x := by unfold cntS; rw [HCJ.out, List.take_length]
          have hfe : b = true ↔ x ∉ l.take k := by have := HFT.out; unfold FirstTo at this; rw [show min l.length k = k by omega] at this; exact this
          rw [hce]
          obtain ⟨cx, hcx2⟩ : ∃ cx, cx = cntS l x := ⟨_, rfl⟩
          rw [← hcx2] at hcx ⊢
          have HCX := Lib.hid hcx2
          clear hce hcx2
          cases b with
          | false =>
            have hin : x ∈ l.take k := by
              by_cases h : x ∈ l.take k
              · exact h
              · exact absurd (hfe.2 h) (by decide)
            have HME2 := Lib.hid (show ∀ y, y ∈ ns ↔ y ∈ l.take (k + 1) from fun y => by
              rw [mem_take_next HX.out, HME.out y]
              exact ⟨.inl, fun h => h.elim id (fun e => by rw [e]; exact hin)⟩)
            clear hfe hin
            go_wp2
            go_roundg (l.length - (k + 1))
            case measure => omega
            case rel => exact ⟨k + 1, ns, rfl, hlt, by go_num, HPW.out, HME2.out, by omega, ⟨gn, cn, rfl, hcn, hmn, HON2.out, gc, cc, hgg, rfl, hcc, hmc, HOC2.out⟩, HB2.out⟩
          | true =>
            have hout : x ∉ ns := fun h => hfe.1 rfl ((HME.out x).1 h)
            have HNO := Lib.hid hout
            clear hfe hout
            go_wp2
            go_loopg [11] (ns.length) (fun n vp wr => ∃ p : Nat, n = ns.length - p ∧ p ≤ ns.length ∧ vp = .int .i64 p ∧ (∀ (j : Nat) y, j < p → ns[j]? = some y → Bef (cntS l) y x) ∧ Below w.heap.size w wr ∧ wr.ownsRow w.heap.size 3 1 (.slice (some ⟨gn, 0, none⟩) ns.length cn) ns.length (ints ns) ∧ wr.ownsRow w.heap.size 3 1 (.slice (some ⟨gc, 0, none⟩) ns.length cc) ns.length (ints (ns.map (cntS l))))
            case atStart => exact ⟨0, rfl, Nat.zero_le _, rfl, fun j y hj => absurd hj (Nat.not_lt_zero _), HB2.out, HON2.out, HOC2.out⟩
            case round =>
              obtain ⟨p, hgp, hp, rfl, hal, hb3, on3, oc3⟩ := hrel
              have HAL := Lib.hid hal
              have HB3 := Lib.hid hb3
              have HON3 := Lib.hid on3
              have HOC3 := Lib.hid oc3
              have sz3 := hb3.size
              clear hal hb3 on3 oc3
              obtain ⟨bt, cont⟩ : ∃ bt : Bool, ((bt = true ∧ ∃ y, ns[p]? = some y ∧ Bef (cntS l) y x) ∨ (bt = false ∧ ∀ y, ns[p]? = some y → ¬ Bef (cntS l) y x)) := by
                by_cases h : ∃ y, ns[p]? = some y ∧ Bef (cntS l) y x
                · exact ⟨true, .inl ⟨rfl, h⟩⟩
                · exact ⟨false, .inr ⟨rfl, fun y hy hb => h ⟨y, hy, hb⟩⟩⟩
              have HCT := Lib.hid cont
              clear cont
              obtain ⟨w0, hw0⟩ : ∃ w0, w0 = wr := ⟨_, rfl⟩
              have HW0 := Lib.hid hw0
              clear hw0
              go_upto_region 17 with fail
              go_cut [78] from 48 to 80 (fun c wx => c = .bool bt ∧ ∃ q, wx = w0.drewN q)
              case first =>
                by_cases hpl : p < ns.length
                · obtain ⟨y, hy⟩ := some_at ns hpl
                  have cy : wr.cell? ⟨gn, p, none⟩ = some (.int .i64 y) := (HON3.out.cellAt p (by omega)).trans (ints_at _ hy)
                  have hcy : (ns.map (cntS l))[p]? = some (cntS l y) := by rw [List.getElem?_map, hy]; rfl
                  have cc1 : wr.cell? ⟨gc, p, none⟩ = some (.int .i64 (cntS l y)) := (HOC3.out.cellAt p (by simp; omega)).trans (ints_at _ hcy)
                  obtain ⟨b1, off, hA, hb0, cxx⟩ := HR.out _ HB3.out k x HX.out
                  subst hA
                  have q1 : (p : Int) < (ns.length : Int) := by omega
                  have HY := Lib.hid hy
                  have HD := Lib.hid (show bt = true ↔ Bef (cntS l) y x by
                    refine bef_dec _ _ _ _ ?_
                    rcases HCT.out with ⟨h1, z, hz, h2⟩ | ⟨h1, h2⟩
                    · rw [HY.out] at hz; obtain rfl := Option.some.inj hz; exact .inl ⟨h1, h2⟩
                    · exact .inr ⟨h1, h2 y HY.out⟩)
                  have HBF := Lib.hid (show Bef (cntS l) y x ↔ (cx < cntS l y ∨ (cntS l y = cx ∧ y < x)) by rw [HCX.out]; exact Iff.rfl)
                  obtain ⟨cy2, hcy2⟩ : ∃ c, c = cntS l y := ⟨_, rfl⟩
                  rw [← hcy2] at cc1 HBF
                  clear hy hcy hcy2
                  by_cases t1 : cx < cy2
                  · have HBT := Lib.hid (show bt = true from HD.out.2 (HBF.out.2 (.inl t1)))
                    have t2 : decide (cy2 > cx) = true := decide_eq_true t1
                    go_wp2
                    go_quiet (fail)
                    go_wp2_with fail
                    go_meet
                    exact ⟨by rw [HBT.out], nq, by rw [HW0.out]⟩
                  · by_cases t3 : cy2 = cx
                    · subst t3
                      have e3 : (cy2 == cy2) = true := by simp
                      have t2 : decide (cy2 > cy2) = false := by simp
                      by_cases t4 : y < x
                      · have HBT := Lib.hid (show bt = true from HD.out.2 (HBF.out.2 (.inr ⟨rfl, t4⟩)))
                        have t5 : decide (y < x) = true := decide_eq_true t4
                        go_wp2
                        go_quiet (fail)
                        go_wp2_with fail
                        go_meet
                        exact ⟨by rw [HBT.out], nq, by rw [HW0.out]⟩
                      · have HBT := Lib.hid (show bt = false by rw [Bool.eq_false_iff, ne_eq, HD.out, HBF.out]; omega)
                        have t5 : decide (y < x) = false := decide_eq_false t4
                        go_wp2
                        go_quiet (fail)
                        go_wp2_with fail
                        go_meet
                        exact ⟨by rw [HBT.out], nq, by rw [HW0.out]⟩
                    · have HBT := Lib.hid (show bt = false by rw [Bool.eq_false_iff, ne_eq, HD.out, HBF.out]; omega)
                      have e3 : (cy2 == cx) = false := by simp [t3]
                      have t2 : decide (cy2 > cx) = false := decide_eq_false (by omega)
                      clear t3
                      go_wp2
                      go_quiet (fail)
                      go_wp2_with fail
                      go_meet
                      exact ⟨by rw [HBT.out], nq, by rw [HW0.out]⟩
                · have HBT := Lib.hid (show bt = false by
                    rcases HCT.out with ⟨h1, z, hz, h2⟩ | ⟨h1, h2⟩
                    · have := (List.getElem?_eq_some_iff.1 hz).1; omega
                    · exact h1)
                  have q1 : ¬ (p : Int) < (ns.length : Int) := by omega
                  go_wp2
                  go_quiet (fail)
                  go_wp2_with fail
                  go_meet
                  exact ⟨by rw [HBT.out], nq, by rw [HW0.out]⟩
              case rest =>
              obtain ⟨rfl, q0, hwc⟩ := hcut
              rw [HW0.out] at hwc
              have HB4 := Lib.hid (show Below w.heap.size w wc by rw [hwc]; exact below_drewN HB3.out _)
              have HON4 := Lib.hid (show wc.ownsRow w.heap.size 3 1 (.slice (some ⟨gn, 0, none⟩) ns.length cn) ns.length (ints ns) by rw [hwc]; exact drewN_own HON3.out _)
              have HOC4 := Lib.hid (show wc.ownsRow w.heap.size 3 1 (.slice (some ⟨gc, 0, none⟩) ns.length cc) ns.length (ints (ns.map (cntS l))) by rw [hwc]; exact drewN_own HOC3.out _)
              clear hwc HB3 HON3 HOC3 HW0
              cases bt with
              | true =>
                have HNX := Lib.hid (show p < ns.length ∧ ∀ (j : Nat) y, j < p + 1 → ns[j]? = some y → Bef (cntS l) y x by
                  rcases HCT.out with ⟨h1, z, hz, h2⟩ | ⟨h1, h2⟩
                  · refine ⟨(List.getElem?_eq_some_iff.1 hz).1, fun j y hj hy => ?_⟩
                    rcases Nat.lt_or_ge j p with h3 | h3
                    · exact HAL.out j y h3 hy
                    · obtain rfl : j = p := by omega
                      rw [hz] at hy
                      obtain rfl := Option.some.inj hy
                      exact h2
                  · cases h1)
                have hpl := HNX.out.1
                go_wp2
                go_roundg (ns.length - (p + 1))
                case measure => omega
                case rel => exact ⟨p + 1, rfl, hpl, by go_num, HNX.out.2, HB4.out, HON4.out, HOC4.out⟩
              | false =>
                have HNX := Lib.hid (show ∀ y, ns[p]? = some y → ¬ Bef (cntS l) y x by
                  rcases HCT.out with ⟨h1, z, hz, h2⟩ | ⟨h1, h2⟩
                  · cases h1
                  · exact h2)
                have HPUT := Lib.hid (freq_put HPW.out HNO.out HAL.out HNX.out hp)
                have HMEM := Lib.hid (show ∀ y, y ∈ ns.take p ++ [x] ++ ns.drop p ↔ y ∈ l.take (k + 1) from fun y => by
                  rw [freq_put_mem, mem_take_next HX.out, HME.out y])
                have hnl : ns.length ≤ 60 := by omega
                obtain ⟨w4, hw4⟩ : ∃ w4, w4 = wc := ⟨_, rfl⟩
                rw [← hw4] at HB4 HON4 HOC4 ⊢
                clear hw4
                have HCL := Lib.hid (show ∀ W', Below w4.heap.size w4 W' → ∀ b off, A = some ⟨b, off, none⟩ → W'.cell? ⟨b, off + k, none⟩ = some (.int .i64 x) from fun W' hb b off hA => by
                  obtain ⟨b2, off2, hA2, -, cx2⟩ := HR.out W' (HB4.out.trans (hb.mono HB4.out.size)) k x HX.out
                  rw [hA] at hA2
                  injection hA2 with hA2
                  injection hA2 with hA2 hA3
                  subst hA2 hA3
                  exact cx2)
                obtain ⟨b1, off, hA, hb0, -⟩ := HR.out _ HB4.out k x HX.out
                subst hA
                have HLX := Lib.hid (show ∀ W', Below w4.heap.size w4 W' → W'.cell? ⟨b1, off + k, none⟩ = some (.int .i64 x) from fun W' hb => HCL.out W' hb b1 off rfl)
                have hlo := (HON4.out.lt gn rfl)
                have hlc := (HOC4.out.lt gc rfl)
                have sz4 := HB4.out.size
                have p0 : (0 : Int) ≤ (p : Int) := by omega
                have p1 : (p : Int) ≤ (cn : Int) := by omega
                have p2 : (p : Int) ≤ (ns.length : Int) := by omega
                have p3 : (p : Int) ≤ (cc : Int) := by omega
                have HHD := Lib.hid (row_head HON4.out hp)
                have HTL := Lib.hid (row_tail HON4.out hp)
                have HC1 := Lib.hid (cell_one (HOI.out ns) p)
                have insL : ∀ y ∈ [Value.int .i64 x], y.oneCell' = true := fun y hy => by obtain rfl := List.mem_singleton.1 hy; rfl
                have SB0 := Below.refl w4.heap.size w4
                go_upto_region 19 with fail
                go_cut [5] from 17 to 107 (fun v wx => wx.ownsRow w4.heap.size 3 1 v (ns.length + 1) (ints (ns.take p ++ [x] ++ ns.drop p)) ∧ Below w4.heap.size w4 wx)
                case first =>
                  first | refine wp_region_noPanic ?_ | skip
                  refine wp_region_held_drew (S := fun w' => Below w4.heap.size w4 w') (by kernel_rfl) (by exact SB0.drew) (fun hHeld => ?_)
                  (refine wpAnyH_take (i := 1) (v := ?_) rfl (by kernel_rfl) (by kernel_rfl) (by kernel_rfl) (fun _ _ _ h => h) (Or.inl ⟨by rfl, ?_⟩) (by assumption) ?_; rotate_left; focus (intro w hSw; (try dsimp only at hSw); go_simp; try with_reducible rfl))
                  (try simp only [List.getElem_toArray, List.getElem_cons_succ, List.getElem_cons_zero, Act.put, List.setIfInBounds_toArray, List.set_cons_zero, List.set_cons_succ])
                  (refine wpAnyH_take (i := 2) (v := ?_) rfl (by kernel_rfl) (by kernel_rfl) (by kernel_rfl) (fun _ _ _ h => h) (Or.inl ⟨by rfl, ?_⟩) (by assumption) ?_; rotate_left; focus (intro w hSw; (try dsimp only at hSw); go_simp; try with_reducible rfl))
                  (try simp only [List.getElem_toArray, List.getElem_cons_succ, List.getElem_cons_zero, Act.put, List.setIfInBounds_toArray, List.set_cons_zero, List.set_cons_succ])
                  (refine wpAnyH_take (i := 5) (v := ?_) rfl (by kernel_rfl) (by kernel_rfl) (by kernel_rfl) (fun _ _ _ h => h) (Or.inl ⟨by rfl, ?_⟩) (by assumption) ?_; rotate_left; focus (intro w hSw; (try dsimp only at hSw); go_simp; try with_reducible rfl))
                  (try simp only [List.getElem_toArray, List.getElem_cons_succ, List.getElem_cons_zero, Act.put, List.setIfInBounds_toArray, List.set_cons_zero, List.set_cons_succ])
                  (refine wpAnyH_take (i := 6) (v := ?_) rfl (by kernel_rfl) (by kernel_rfl) (by kernel_rfl) (fun _ _ _ h => h) (Or.inl ⟨by rfl, ?_⟩) (by assumption) ?_; rotate_left; focus (intro w hSw; (try dsimp only at hSw); go_simp; try with_reducible rfl))
                  (try simp only [List.getElem_toArray, List.getElem_cons_succ, List.getElem_cons_zero, Act.put, List.setIfInBounds_toArray, List.set_cons_zero, List.set_cons_succ])
                  (refine wpAnyH_take (i := 7) (v := ?_) rfl (by kernel_rfl) (by kernel_rfl) (by kernel_rfl) (fun _ _ _ h => h) (Or.inl ⟨by rfl, ?_⟩) (by assumption) ?_; rotate_left; focus (intro w hSw; (try dsimp only at hSw); go_simp; try with_reducible rfl))
                  (try simp only [List.getElem_toArray, List.getElem_cons_succ, List.getElem_cons_zero, Act.put, List.setIfInBounds_toArray, List.set_cons_zero, List.set_cons_succ])
                  (refine wpAnyH_take (i := 11) (v := ?_) rfl (by kernel_rfl) (by kernel_rfl) (by kernel_rfl) (fun _ _ _ h => h) (Or.inl ⟨by rfl, ?_⟩) (by assumption) ?_; rotate_left; focus (intro w hSw; (try dsimp only at hSw); go_simp; try with_reducible rfl))
                  (try simp only [List.getElem_toArray, List.getElem_cons_succ, List.getElem_cons_zero, Act.put, List.setIfInBounds_toArray, List.set_cons_zero, List.set_cons_succ])
                  (refine wpAnyH_take (i := 12) (v := ?_) rfl (by kernel_rfl) (by kernel_rfl) (by kernel_rfl) (fun _ _ _ h => h) (Or.inl ⟨by rfl, ?_⟩) (by assumption) ?_; rotate_left; focus (intro w hSw; (try dsimp only at hSw); go_simp; try with_reducible rfl))
                  (try simp only [List.getElem_toArray, List.getElem_cons_succ, List.getElem_cons_zero, Act.put, List.setIfInBounds_toArray, List.set_cons_zero, List.set_cons_succ])
                  (refine wpAnyH_take (i := 3) (v := ?_) rfl (by kernel_rfl) (by kernel_rfl) (by kernel_rfl) (fun _ _ _ h => h) (Or.inl ⟨by rfl, ?_⟩) (by assumption) ?_; rotate_left; focus (intro w hSw; (try dsimp only at hSw); go_simp; try with_reducible rfl))
                  (try simp only [List.getElem_toArray, List.getElem_cons_succ, List.getElem_cons_zero, Act.put, List.setIfInBounds_toArray, List.set_cons_zero, List.set_cons_succ])
                  (refine wpAnyH_take (i := 13) (v := ?_) rfl (by kernel_rfl) (by kernel_rfl) (by kernel_rfl) (fun _ _ _ h => h) (Or.inl ⟨by rfl, ?_⟩) (by assumption) ?_; rotate_left; focus (intro w hSw; (try dsimp only at hSw); go_simp; try with_reducible rfl))
                  (try simp only [List.getElem_toArray, List.getElem_cons_succ, List.getElem_cons_zero, Act.put, List.setIfInBounds_toArray, List.set_cons_zero, List.set_cons_succ])
                  (refine wpAnyH_take (i := 8) (v := .int .i64 x) rfl (by kernel_rfl) (by kernel_rfl) (by kernel_rfl) (fun _ _ _ h => h) (Or.inl ⟨by rfl, ?_⟩) (by assumption) ?_; focus (intro w hSw; (try dsimp only at hSw); have hcx := HLX.out w hSw; go_simp; try with_reducible rfl))
                  (try simp only [List.getElem_toArray, List.getElem_cons_succ, List.getElem_cons_zero, Act.put, List.setIfInBounds_toArray, List.set_cons_zero, List.set_cons_succ])
                  have SD : Below w4.heap.size w4 w4.drew := SB0.drew
                  refine wpAnyH_ready (rs := [0, 9]) (by kernel_rfl) (by simp) ?_
                  refine AllReadyH.cons rfl (fun K hK => ?_) (AllReadyH.cons rfl (fun K hK => ?_) AllReadyH.nil)
                  · go_simp
                    have ow1 : (w4.drew.alloc (.cells #[] 3)).ownsRow w4.heap.size 3 1 (.slice (some ⟨w4.heap.size, 0, none⟩) 0 0) 0 [] := World.ownsRow_made _ _ _ (Nat.le_refl _) (by simp) rfl
                    have SA := SD.alloc (Nat.le_refl _) (.cells #[] 3)
                    refine hK.out _ _ SA (fun hHeld => ?_)
                    clear hK K
                    (try simp only [List.getElem_toArray, List.getElem_cons_succ, List.getElem_cons_zero, Act.put, List.setIfInBounds_toArray, List.set_cons_zero, List.set_cons_succ])
                    refine wpAnyH_ready (rs := [4, 9]) (by kernel_rfl) (by simp) ?_
                    refine AllReadyH.cons rfl (fun K hK => ?_) (AllReadyH.cons rfl (fun K hK => ?_) AllReadyH.nil)
                    · refine step_append_src ow1 SA.size (HHD.out.below SA) HC1.out.1 (.tmp 81) (.tmp 84) 22 Try.underlying22 info_int (by omega) (by unfold maxLen; omega) ⟨rfl, rfl, rfl, rfl, rfl, by decide⟩ (.inl ⟨rfl, rfl⟩) ?_
                      intro vi3 wi3 ow3 grow3
                      have S3 := SA.grown grow3 SA.size (fun k hk => (ow1.lt k hk).1)
                      simp only [Nat.zero_add, List.nil_append] at ow3
                      refine hK.out _ _ S3 (fun hHeld => ?_)
                      clear hK K
                      (try simp only [List.getElem_toArray, List.getElem_cons_succ, List.getElem_cons_zero, Act.put, List.setIfInBounds_toArray, List.set_cons_zero, List.set_cons_succ])
                      refine wpAnyH_ready (rs := [9]) (by kernel_rfl) (by simp) ?_
                      refine AllReadyH.cons rfl (fun K hK => ?_) AllReadyH.nil
                      go_simp
                      have ow4 := ow3.alloc (.cells #[.int .i64 x] 3)
                      have S4 := S3.alloc S3.size (.cells #[.int .i64 x] 3)
                      have nw4 : ∀ j u, [.int .i64 x][j]? = some u → (wi3.alloc (.cells #[.int .i64 x] 3)).cell? ⟨wi3.heap.size, j, none⟩ = some u := fun j u hj => new_here hj
                      refine hK.out _ _ S4 (fun hHeld => ?_)
                      clear hK K
                      (try simp only [List.getElem_toArray, List.getElem_cons_succ, List.getElem_cons_zero, Act.put, List.setIfInBounds_toArray, List.set_cons_zero, List.set_cons_succ])
                      refine wpAnyH_ready (rs := [10]) (by kernel_rfl) (by simp) ?_
                      refine AllReadyH.cons rfl (fun K hK => ?_) AllReadyH.nil
                      refine step_append_own ow4 S4.size (.tmp 85) (.tmp 90) 22 Try.underlying22 info_int (by omega) (by unfold maxLen; omega) nw4 insL ⟨rfl, rfl, rfl, rfl, rfl, rfl, by decide⟩ ?_
                      intro vi5 wi5 ow5 grow5 _
                      have S5 := S4.grown grow5 S4.size (fun k hk => (ow4.lt k hk).1)
                      refine hK.out _ _ S5 (fun hHeld => ?_)
                      clear hK K
                      (try simp only [List.getElem_toArray, List.getElem_cons_succ, List.getElem_cons_zero, Act.put, List.setIfInBounds_toArray, List.set_cons_zero, List.set_cons_succ])
                      refine wpAnyH_ready (rs := [14]) (by kernel_rfl) (by simp) ?_
                      refine AllReadyH.cons rfl (fun K hK => ?_) AllReadyH.nil
                      refine step_append_src ow5 S5.size (HTL.out.below S5) HC1.out.2 (.tmp 91) (.tmp 94) 22 Try.underlying22 info_int (by omega) (by unfold maxLen; omega) ⟨rfl, rfl, rfl, rfl, rfl, by decide⟩ (by by_cases hcw : cn = p; (exact .inr ⟨by omega, by omega⟩); (refine .inl ⟨?_, by omega⟩; first | rfl | (simp [hcw]; done) | (simp [hcw]; omega))) ?_
                      intro v6 w6 own6 gr6
                      have S6 := S5.grown gr6 S5.size (fun k hk => (ow5.lt k hk).1)
                      refine hK.out _ _ S6 (fun hHeld => ?_)
                      clear hK K
                      (try simp only [List.getElem_toArray, List.getElem_cons_succ, List.getElem_cons_zero, Act.put, List.setIfInBounds_toArray, List.set_cons_zero, List.set_cons_succ])
                      (refine wpAnyH_take (i := 15) (v := ?_) rfl (by kernel_rfl) (by kernel_rfl) (by kernel_rfl) (fun _ _ _ h => h) (Or.inl ⟨by rfl, ?_⟩) (by assumption) ?_; rotate_left; focus (intro w hSw; (try dsimp only at hSw); go_simp; try with_reducible rfl))
                      (try simp only [List.getElem_toArray, List.getElem_cons_succ, List.getElem_cons_zero, Act.put, List.setIfInBounds_toArray, List.set_cons_zero, List.set_cons_succ])
                      refine wpAnyH_done (by kernel_rfl) ?_ _
                      first | refine NoPanic.normal ?_ | skip
                      go_wp2
                      all_goals
                        go_meet
                        refine ⟨?_, S6⟩
                        rw [ints_insF, show ns.length + 1 = p + 1 + (ns.length - p) by omega]
                        exact own6
                    · go_simp
                      have ow2 := ow1.alloc (.cells #[.int .i64 x] 3)
                      have S2 := SA.alloc SA.size (.cells #[.int .i64 x] 3)
                      have nw2 : ∀ j u, [.int .i64 x][j]? = some u → ((w4.drew.alloc (.cells #[] 3)).alloc (.cells #[.int .i64 x] 3)).cell? ⟨w4.heap.size + 1, j, none⟩ = some u := fun j u hj => by rw [show w4.heap.size + 1 = (w4.drew.alloc (.cells #[] 3)).heap.size from by simp]; exact new_here hj
                      refine hK.out _ _ S2 (fun hHeld => ?_)
                      clear hK K
                      (try simp only [List.getElem_toArray, List.getElem_cons_succ, List.getElem_cons_zero, Act.put, List.setIfInBounds_toArray, List.set_cons_zero, List.set_cons_succ])
                      refine wpAnyH_ready (rs := [4]) (by kernel_rfl) (by simp) ?_
                      refine AllReadyH.cons rfl (fun K hK => ?_) AllReadyH.nil
                      refine step_append_src ow2 S2.size (HHD.out.below S2) HC1.out.1 (.tmp 81) (.tmp 84) 22 Try.underlying22 info_int (by omega) (by unfold maxLen; omega) ⟨rfl, rfl, rfl, rfl, rfl, by decide⟩ (.inl ⟨rfl, rfl⟩) ?_
                      intro vi4 wi4 ow4 grow4
                      have S4 := S2.grown grow4 S2.size (fun k hk => (ow2.lt k hk).1)
                      simp only [Nat.zero_add, List.nil_append] at ow4
                      refine hK.out _ _ S4 (fun hHeld => ?_)
                      clear hK K
                      (try simp only [List.getElem_toArray, List.getElem_cons_succ, List.getElem_cons_zero, Act.put, List.setIfInBounds_toArray, List.set_cons_zero, List.set_cons_succ])
                      have nw5 : ∀ j u, [.int .i64 x][j]? = some u → wi4.cell? ⟨w4.heap.size + 1, j, none⟩ = some u := fun j u hj => grow4.cell (nw2 j u hj) (by simp [Value.ownBlock])
                      refine wpAnyH_ready (rs := [10]) (by kernel_rfl) (by simp) ?_
                      refine AllReadyH.cons rfl (fun K hK => ?_) AllReadyH.nil
                      refine step_append_own ow4 S4.size (.tmp 85) (.tmp 90) 22 Try.underlying22 info_int (by omega) (by unfold maxLen; omega) nw5 insL ⟨rfl, rfl, rfl, rfl, rfl, rfl, by decide⟩ ?_
                      intro vi5 wi5 ow5 grow5 _
                      have S5 := S4.grown grow5 S4.size (fun k hk => (ow4.lt k hk).1)
                      refine hK.out _ _ S5 (fun hHeld => ?_)
                      clear hK K
                      (try simp only [List.getElem_toArray, List.getElem_cons_succ, List.getElem_cons_zero, Act.put, List.setIfInBounds_toArray, List.set_cons_zero, List.set_cons_succ])
                      refine wpAnyH_ready (rs := [14]) (by kernel_rfl) (by simp) ?_
                      refine AllReadyH.cons rfl (fun K hK => ?_) AllReadyH.nil
                      refine step_append_src ow5 S5.size (HTL.out.below S5) HC1.out.2 (.tmp 91) (.tmp 94) 22 Try.underlying22 info_int (by omega) (by unfold maxLen; omega) ⟨rfl, rfl, rfl, rfl, rfl, by decide⟩ (by by_cases hcw : cn = p; (exact .inr ⟨by omega, by omega⟩); (refine .inl ⟨?_, by omega⟩; first | rfl | (simp [hcw]; done) | (simp [hcw]; omega))) ?_
                      intro v6 w6 own6 gr6
                      have S6 := S5.grown gr6 S5.size (fun k hk => (ow5.lt k hk).1)
                      refine hK.out _ _ S6 (fun hHeld => ?_)
                      clear hK K
                      (try simp only [List.getElem_toArray, List.getElem_cons_succ, List.getElem_cons_zero, Act.put, List.setIfInBounds_toArray, List.set_cons_zero, List.set_cons_succ])
                      (refine wpAnyH_take (i := 15) (v := ?_) rfl (by kernel_rfl) (by kernel_rfl) (by kernel_rfl) (fun _ _ _ h => h) (Or.inl ⟨by rfl, ?_⟩) (by assumption) ?_; rotate_left; focus (intro w hSw; (try dsimp only at hSw); go_simp; try with_reducible rfl))
                      (try simp only [List.getElem_toArray, List.getElem_cons_succ, List.getElem_cons_zero, Act.put, List.setIfInBounds_toArray, List.set_cons_zero, List.set_cons_succ])
                      refine wpAnyH_done (by kernel_rfl) ?_ _
                      first | refine NoPanic.normal ?_ | skip
                      go_wp2
                      all_goals
                        go_meet
                        refine ⟨?_, S6⟩
                        rw [ints_insF, show ns.length + 1 = p + 1 + (ns.length - p) by omega]
                        exact own6
                  · go_simp
                    have SC := SD.alloc (Nat.le_refl _) (.cells #[.int .i64 x] 3)
                    have nw1 : ∀ j u, [.int .i64 x][j]? = some u → (w4.drew.alloc (.cells #[.int .i64 x] 3)).cell? ⟨w4.heap.size, j, none⟩ = some u := fun j u hj => new_here (w := w4.drew) hj
                    refine hK.out _ _ SC (fun hHeld => ?_)
                    clear hK K
                    (try simp only [List.getElem_toArray, List.getElem_cons_succ, List.getElem_cons_zero, Act.put, List.setIfInBounds_toArray, List.set_cons_zero, List.set_cons_succ])
                    refine wpAnyH_ready (rs := [0]) (by kernel_rfl) (by simp) ?_
                    refine AllReadyH.cons rfl (fun K hK => ?_) AllReadyH.nil
                    go_simp
                    have ow2 : ((w4.drew.alloc (.cells #[.int .i64 x] 3)).alloc (.cells #[] 3)).ownsRow w4.heap.size 3 1 (.slice (some ⟨w4.heap.size + 1, 0, none⟩) 0 0) 0 [] := by rw [show w4.heap.size + 1 = (w4.drew.alloc (.cells #[.int .i64 x] 3)).heap.size from by simp]; exact World.ownsRow_made _ _ _ SC.size (by simp) rfl
                    have S2 := SC.alloc SC.size (.cells #[] 3)
                    have nw2 : ∀ j u, [.int .i64 x][j]? = some u → ((w4.drew.alloc (.cells #[.int .i64 x] 3)).alloc (.cells #[] 3)).cell? ⟨w4.heap.size, j, none⟩ = some u := fun j u hj => (World.cell?_alloc_lt _ _ _ (by simp)).trans (nw1 j u hj)
                    refine hK.out _ _ S2 (fun hHeld => ?_)
                    clear hK K
                    (try simp only [List.getElem_toArray, List.getElem_cons_succ, List.getElem_cons_zero, Act.put, List.setIfInBounds_toArray, List.set_cons_zero, List.set_cons_succ])
                    refine wpAnyH_ready (rs := [4]) (by kernel_rfl) (by simp) ?_
                    refine AllReadyH.cons rfl (fun K hK => ?_) AllReadyH.nil
                    refine step_append_src ow2 S2.size (HHD.out.below S2) HC1.out.1 (.tmp 81) (.tmp 84) 22 Try.underlying22 info_int (by omega) (by unfold maxLen; omega) ⟨rfl, rfl, rfl, rfl, rfl, by decide⟩ (.inl ⟨rfl, rfl⟩) ?_
                    intro vi4 wi4 ow4 grow4
                    have S4 := S2.grown grow4 S2.size (fun k hk => (ow2.lt k hk).1)
                    simp only [Nat.zero_add, List.nil_append] at ow4
                    refine hK.out _ _ S4 (fun hHeld => ?_)
                    clear hK K
                    (try simp only [List.getElem_toArray, List.getElem_cons_succ, List.getElem_cons_zero, Act.put, List.setIfInBounds_toArray, List.set_cons_zero, List.set_cons_succ])
                    have nw5 : ∀ j u, [.int .i64 x][j]? = some u → wi4.cell? ⟨w4.heap.size, j, none⟩ = some u := fun j u hj => grow4.cell (nw2 j u hj) (by simp [Value.ownBlock])
                    refine wpAnyH_ready (rs := [10]) (by kernel_rfl) (by simp) ?_
                    refine AllReadyH.cons rfl (fun K hK => ?_) AllReadyH.nil
                    refine step_append_own ow4 S4.size (.tmp 85) (.tmp 90) 22 Try.underlying22 info_int (by omega) (by unfold maxLen; omega) nw5 insL ⟨rfl, rfl, rfl, rfl, rfl, rfl, by decide⟩ ?_
                    intro vi5 wi5 ow5 grow5 _
                    have S5 := S4.grown grow5 S4.size (fun k hk => (ow4.lt k hk).1)
                    refine hK.out _ _ S5 (fun hHeld => ?_)
                    clear hK K
                    (try simp only [List.getElem_toArray, List.getElem_cons_succ, List.getElem_cons_zero, Act.put, List.setIfInBounds_toArray, List.set_cons_zero, List.set_cons_succ])
                    refine wpAnyH_ready (rs := [14]) (by kernel_rfl) (by simp) ?_
                    refine AllReadyH.cons rfl (fun K hK => ?_) AllReadyH.nil
                    refine step_append_src ow5 S5.size (HTL.out.below S5) HC1.out.2 (.tmp 91) (.tmp 94) 22 Try.underlying22 info_int (by omega) (by unfold maxLen; omega) ⟨rfl, rfl, rfl, rfl, rfl, by decide⟩ (by by_cases hcw : cn = p; (exact .inr ⟨by omega, by omega⟩); (refine .inl ⟨?_, by omega⟩; first | rfl | (simp [hcw]; done) | (simp [hcw]; omega))) ?_
                    intro v6 w6 own6 gr6
                    have S6 := S5.grown gr6 S5.size (fun k hk => (ow5.lt k hk).1)
                    refine hK.out _ _ S6 (fun hHeld => ?_)
                    clear hK K
                    (try simp only [List.getElem_toArray, List.getElem_cons_succ, List.getElem_cons_zero, Act.put, List.setIfInBounds_toArray, List.set_cons_zero, List.set_cons_succ])
                    (refine wpAnyH_take (i := 15) (v := ?_) rfl (by kernel_rfl) (by kernel_rfl) (by kernel_rfl) (fun _ _ _ h => h) (Or.inl ⟨by rfl, ?_⟩) (by assumption) ?_; rotate_left; focus (intro w hSw; (try dsimp only at hSw); go_simp; try with_reducible rfl))
                    (try simp only [List.getElem_toArray, List.getElem_cons_succ, List.getElem_cons_zero, Act.put, List.setIfInBounds_toArray, List.set_cons_zero, List.set_cons_succ])
                    refine wpAnyH_done (by kernel_rfl) ?_ _
                    first | refine NoPanic.normal ?_ | skip
                    go_wp2
                    all_goals
                      go_meet
                      refine ⟨?_, S6⟩
                      rw [ints_insF, show ns.length + 1 = p + 1 + (ns.length - p) by omega]
                      exact own6
                case rest =>
                obtain ⟨own5, b5⟩ := hcut
                have HOC5 := Lib.hid (row_below HOC4.out b5)
                clear HHD HTL HC1 insL SB0
                obtain ⟨gn5, cn5, hv5, hg5, hb5, hn5, hm5⟩ := row_some own5 (by omega)
                subst hv5
                have HON5 := Lib.hid own5
                obtain ⟨w5, hw5⟩ : ∃ w5, w5 = wc := ⟨_, rfl⟩
                rw [← hw5] at HOC5 HON5 hb5 b5 ⊢
                have HB5 := Lib.hid b5
                clear own5 hw5 b5
                have HHD := Lib.hid (row_head HOC5.out hp)
                have HTL := Lib.hid (row_tail HOC5.out hp)
                have HC1 := Lib.hid (cell_one (HOI.out (ns.map (cntS l))) p)
                have insL : ∀ y ∈ [Value.int .i64 cx], y.oneCell' = true := fun y hy => by obtain rfl := List.mem_singleton.1 hy; rfl
                have SB0 := Below.refl w5.heap.size w5
                have hlen : (ns.take p ++ [x] ++ ns.drop p).length = ns.length + 1 := by simp; omega
                have HLEN := Lib.hid hlen
                have hg5 : w.heap.size ≤ w4.heap.size := sz4
                clear hlen
                go_wp2
                first | refine wp_region_noPanic ?_ | skip
                refine wp_region_held_drew (S := fun w' => Below w5.heap.size w5 w') (by kernel_rfl) (by exact SB0.drew) (fun hHeld => ?_)
                (refine wpAnyH_take (i := 1) (v := ?_) rfl (by kernel_rfl) (by kernel_rfl) (by kernel_rfl) (fun _ _ _ h => h) (Or.inl ⟨by rfl, ?_⟩) (by assumption) ?_; rotate_left; focus (intro w hSw; (try dsimp only at hSw); go_simp; try with_reducible rfl))
                (try simp only [List.getElem_toArray, List.getElem_cons_succ, List.getElem_cons_zero, Act.put, List.setIfInBounds_toArray, List.set_cons_zero, List.set_cons_succ])
                (refine wpAnyH_take (i := 2) (v := ?_) rfl (by kernel_rfl) (by kernel_rfl) (by kernel_rfl) (fun _ _ _ h => h) (Or.inl ⟨by rfl, ?_⟩) (by assumption) ?_; rotate_left; focus (intro w hSw; (try dsimp only at hSw); go_simp; try with_reducible rfl))
                (try simp only [List.getElem_toArray, List.getElem_cons_succ, List.getElem_cons_zero, Act.put, List.setIfInBounds_toArray, List.set_cons_zero, List.set_cons_succ])
                (refine wpAnyH_take (i := 5) (v := ?_) rfl (by kernel_rfl) (by kernel_rfl) (by kernel_rfl) (fun _ _ _ h => h) (Or.inl ⟨by rfl, ?_⟩) (by assumption) ?_; rotate_left; focus (intro w hSw; (try dsimp only at hSw); go_simp; try with_reducible rfl))
                (try simp only [List.getElem_toArray, List.getElem_cons_succ, List.getElem_cons_zero, Act.put, List.setIfInBounds_toArray, List.set_cons_zero, List.set_cons_succ])
                (refine wpAnyH_take (i := 8) (v := ?_) rfl (by kernel_rfl) (by kernel_rfl) (by kernel_rfl) (fun _ _ _ h => h) (Or.inl ⟨by rfl, ?_⟩) (by assumption) ?_; rotate_left; focus (intro w hSw; (try dsimp only at hSw); go_simp; try with_reducible rfl))
                (try simp only [List.getElem_toArray, List.getElem_cons_succ, List.getElem_cons_zero, Act.put, List.setIfInBounds_toArray, List.set_cons_zero, List.set_cons_succ])
                (refine wpAnyH_take (i := 9) (v := ?_) rfl (by kernel_rfl) (by kernel_rfl) (by kernel_rfl) (fun _ _ _ h => h) (Or.inl ⟨by rfl, ?_⟩) (by assumption) ?_; rotate_left; focus (intro w hSw; (try dsimp only at hSw); go_simp; try with_reducible rfl))
                (try simp only [List.getElem_toArray, List.getElem_cons_succ, List.getElem_cons_zero, Act.put, List.setIfInBounds_toArray, List.set_cons_zero, List.set_cons_succ])
                (refine wpAnyH_take (i := 3) (v := ?_) rfl (by kernel_rfl) (by kernel_rfl) (by kernel_rfl) (fun _ _ _ h => h) (Or.inl ⟨by rfl, ?_⟩) (by assumption) ?_; rotate_left; focus (intro w hSw; (try dsimp only at hSw); go_simp; try with_reducible rfl))
                (try simp only [List.getElem_toArray, List.getElem_cons_succ, List.getElem_cons_zero, Act.put, List.setIfInBounds_toArray, List.set_cons_zero, List.set_cons_succ])
                (refine wpAnyH_take (i := 10) (v := ?_) rfl (by kernel_rfl) (by kernel_rfl) (by kernel_rfl) (fun _ _ _ h => h) (Or.inl ⟨by rfl, ?_⟩) (by assumption) ?_; rotate_left; focus (intro w hSw; (try dsimp only at hSw); go_simp; try with_reducible rfl))
                (try simp only [List.getElem_toArray, List.getElem_cons_succ, List.getElem_cons_zero, Act.put, List.setIfInBounds_toArray, List.set_cons_zero, List.set_cons_succ])
                have SD : Below w5.heap.size w5 w5.drew := SB0.drew
                refine wpAnyH_ready (rs := [0, 6]) (by kernel_rfl) (by simp) ?_
                refine AllReadyH.cons rfl (fun K hK => ?_) (AllReadyH.cons rfl (fun K hK => ?_) AllReadyH.nil)
                · go_simp
                  have ow1 : (w5.drew.alloc (.cells #[] 3)).ownsRow w5.heap.size 3 1 (.slice (some ⟨w5.heap.size, 0, none⟩) 0 0) 0 [] := World.ownsRow_made _ _ _ (Nat.le_refl _) (by simp) rfl
                  have SA := SD.alloc (Nat.le_refl _) (.cells #[] 3)
                  refine hK.out _ _ SA (fun hHeld => ?_)
                  clear hK K
                  (try simp only [List.getElem_toArray, List.getElem_cons_succ, List.getElem_cons_zero, Act.put, List.setIfInBounds_toArray, List.set_cons_zero, List.set_cons_succ])
                  refine wpAnyH_ready (rs := [4, 6]) (by kernel_rfl) (by simp) ?_
                  refine AllReadyH.cons rfl (fun K hK => ?_) (AllReadyH.cons rfl (fun K hK => ?_) AllReadyH.nil)
                  · refine step_append_src ow1 SA.size (HHD.out.below SA) HC1.out.1 (.tmp 96) (.tmp 99) 22 Try.underlying22 info_int (by omega) (by unfold maxLen; omega) ⟨rfl, rfl, rfl, rfl, rfl, by decide⟩ (.inl ⟨rfl, rfl⟩) ?_
                    intro vi3 wi3 ow3 grow3
                    have S3 := SA.grown grow3 SA.size (fun k hk => (ow1.lt k hk).1)
                    simp only [Nat.zero_add, List.nil_append] at ow3
                    refine hK.out _ _ S3 (fun hHeld => ?_)
                    clear hK K
                    (try simp only [List.getElem_toArray, List.getElem_cons_succ, List.getElem_cons_zero, Act.put, List.setIfInBounds_toArray, List.set_cons_zero, List.set_cons_succ])
                    refine wpAnyH_ready (rs := [6]) (by kernel_rfl) (by simp) ?_
                    refine AllReadyH.cons rfl (fun K hK => ?_) AllReadyH.nil
                    go_simp
                    have ow4 := ow3.alloc (.cells #[.int .i64 cx] 3)
                    have S4 := S3.alloc S3.size (.cells #[.int .i64 cx] 3)
                    have nw4 : ∀ j u, [.int .i64 cx][j]? = some u → (wi3.alloc (.cells #[.int .i64 cx] 3)).cell? ⟨wi3.heap.size, j, none⟩ = some u := fun j u hj => new_here hj
                    refine hK.out _ _ S4 (fun hHeld => ?_)
                    clear hK K
                    (try simp only [List.getElem_toArray, List.getElem_cons_succ, List.getElem_cons_zero, Act.put, List.setIfInBounds_toArray, List.set_cons_zero, List.set_cons_succ])
                    refine wpAnyH_ready (rs := [7]) (by kernel_rfl) (by simp) ?_
                    refine AllReadyH.cons rfl (fun K hK => ?_) AllReadyH.nil
                    refine step_append_own ow4 S4.size (.tmp 100) (.tmp 102) 22 Try.underlying22 info_int (by omega) (by unfold maxLen; omega) nw4 insL ⟨rfl, rfl, rfl, rfl, rfl, rfl, by decide⟩ ?_
                    intro vi5 wi5 ow5 grow5 _
                    have S5 := S4.grown grow5 S4.size (fun k hk => (ow4.lt k hk).1)
                    refine hK.out _ _ S5 (fun hHeld => ?_)
                    clear hK K
                    (try simp only [List.getElem_toArray, List.getElem_cons_succ, List.getElem_cons_zero, Act.put, List.setIfInBounds_toArray, List.set_cons_zero, List.set_cons_succ])
                    refine wpAnyH_ready (rs := [11]) (by kernel_rfl) (by simp) ?_
                    refine AllReadyH.cons rfl (fun K hK => ?_) AllReadyH.nil
                    refine step_append_src ow5 S5.size (HTL.out.below S5) HC1.out.2 (.tmp 103) (.tmp 106) 22 Try.underlying22 info_int (by omega) (by unfold maxLen; omega) ⟨rfl, rfl, rfl, rfl, rfl, by decide⟩ (by by_cases hcw : cc = p; (exact .inr ⟨by omega, by omega⟩); (refine .inl ⟨?_, by omega⟩; first | rfl | (simp [hcw]; done) | (simp [hcw]; omega))) ?_
                    intro v6 w6 own6 gr6
                    have S6 := S5.grown gr6 S5.size (fun k hk => (ow5.lt k hk).1)
                    refine hK.out _ _ S6 (fun hHeld => ?_)
                    clear hK K
                    (try simp only [List.getElem_toArray, List.getElem_cons_succ, List.getElem_cons_zero, Act.put, List.setIfInBounds_toArray, List.set_cons_zero, List.set_cons_succ])
                    (refine wpAnyH_take (i := 12) (v := ?_) rfl (by kernel_rfl) (by kernel_rfl) (by kernel_rfl) (fun _ _ _ h => h) (Or.inl ⟨by rfl, ?_⟩) (by assumption) ?_; rotate_left; focus (intro w hSw; (try dsimp only at hSw); go_simp; try with_reducible rfl))
                    (try simp only [List.getElem_toArray, List.getElem_cons_succ, List.getElem_cons_zero, Act.put, List.setIfInBounds_toArray, List.set_cons_zero, List.set_cons_succ])
                    refine wpAnyH_done (by kernel_rfl) ?_ _
                    first | refine NoPanic.normal ?_ | skip
                    have hz6 : 0 < p + 1 + (ns.length - p) := by omega
                    obtain ⟨gc6, cc6, hv6, hg6, hb6, hn6, hm6⟩ := row_some own6 hz6
                    subst hv6
                    have HON6 := Lib.hid (row_below HON5.out S6)
                    have hl6 : p + 1 + (ns.length - p) = ns.length + 1 := by omega
                    have HL6 := Lib.hid hl6
                    have HOC6 := Lib.hid (show w6.ownsRow w5.heap.size 3 1 (.slice (some ⟨gc6, 0, none⟩) (p + 1 + (ns.length - p)) cc6) (p + 1 + (ns.length - p)) (ints ((ns.take p ++ [x] ++ ns.drop p).map (cntS l))) by rw [List.map_append, List.map_append, List.map_take, List.map_drop, List.map_singleton, ← HCX.out, ints_insF]; exact own6)
                    have HB6 := Lib.hid (HB4.out.trans ((HB5.out.mono HB4.out.size).trans (S6.mono (Nat.le_trans HB4.out.size HB5.out.size))))
                    have hne : gn5 ≠ gc6 := by omega
                    have hg6' : w.heap.size ≤ w5.heap.size := by have := HB5.out.size; omega
                    clear own6 hl6 hHeld
                    go_wp2
                    all_goals
                      go_roundg (l.length - (k + 1))
                      case measure => omega
                      case rel =>
                        refine ⟨k + 1, ns.take p ++ [x] ++ ns.drop p, rfl, hlt, by go_num, HPUT.out, HMEM.out, by rw [HLEN.out]; omega, ⟨gn5, cn5, by rw [HLEN.out], by rw [HLEN.out]; exact hn5, hm5, ?_, gc6, cc6, hne, by rw [HLEN.out, ← HL6.out], by rw [HLEN.out, ← HL6.out]; exact hn6, hm6, ?_⟩, HB6.out⟩
                        · rw [HLEN.out]
                          exact HON6.out.base (by omega)
                        · rw [HLEN.out, ← HL6.out]
                          exact HOC6.out.base hg6'
                  · go_simp
                    have ow2 := ow1.alloc (.cells #[.int .i64 cx] 3)
                    have S2 := SA.alloc SA.size (.cells #[.int .i64 cx] 3)
                    have nw2 : ∀ j u, [.int .i64 cx][j]? = some u → ((w5.drew.alloc (.cells #[] 3)).alloc (.cells #[.int .i64 cx] 3)).cell? ⟨w5.heap.size + 1, j, none⟩ = some u := fun j u hj => by rw [show w5.heap.size + 1 = (w5.drew.alloc (.cells #[] 3)).heap.size from by simp]; exact new_here hj
                    refine hK.out _ _ S2 (fun hHeld => ?_)
                    clear hK K
                    (try simp only [List.getElem_toArray, List.getElem_cons_succ, List.getElem_cons_zero, Act.put, List.setIfInBounds_toArray, List.set_cons_zero, List.set_cons_succ])
                    refine wpAnyH_ready (rs := [4]) (by kernel_rfl) (by simp) ?_
                    refine AllReadyH.cons rfl (fun K hK => ?_) AllReadyH.nil
                    refine step_append_src ow2 S2.size (HHD.out.below S2) HC1.out.1 (.tmp 96) (.tmp 99) 22 Try.underlying22 info_int (by omega) (by unfold maxLen; omega) ⟨rfl, rfl, rfl, rfl, rfl, by decide⟩ (.inl ⟨rfl, rfl⟩) ?_
                    intro vi4 wi4 ow4 grow4
                    have S4 := S2.grown grow4 S2.size (fun k hk => (ow2.lt k hk).1)
                    simp only [Nat.zero_add, List.nil_append] at ow4
                    refine hK.out _ _ S4 (fun hHeld => ?_)
                    clear hK K
                    (try simp only [List.getElem_toArray, List.getElem_cons_succ, List.getElem_cons_zero, Act.put, List.setIfInBounds_toArray, List.set_cons_zero, List.set_cons_succ])
                    have nw5 : ∀ j u, [.int .i64 cx][j]? = some u → wi4.cell? ⟨w5.heap.size + 1, j, none⟩ = some u := fun j u hj => grow4.cell (nw2 j u hj) (by simp [Value.ownBlock])
                    refine wpAnyH_ready (rs := [7]) (by kernel_rfl) (by simp) ?_
                    refine AllReadyH.cons rfl (fun K hK => ?_) AllReadyH.nil
                    refine step_append_own ow4 S4.size (.tmp 100) (.tmp 102) 22 Try.underlying22 info_int (by omega) (by unfold maxLen; omega) nw5 insL ⟨rfl, rfl, rfl, rfl, rfl, rfl, by decide⟩ ?_
                    intro vi5 wi5 ow5 grow5 _
                    have S5 := S4.grown grow5 S4.size (fun k hk => (ow4.lt k hk).1)
                    refine hK.out _ _ S5 (fun hHeld => ?_)
                    clear hK K
                    (try simp only [List.getElem_toArray, List.getElem_cons_succ, List.getElem_cons_zero, Act.put, List.setIfInBounds_toArray, List.set_cons_zero, List.set_cons_succ])
                    refine wpAnyH_ready (rs := [11]) (by kernel_rfl) (by simp) ?_
                    refine AllReadyH.cons rfl (fun K hK => ?_) AllReadyH.nil
                    refine step_append_src ow5 S5.size (HTL.out.below S5) HC1.out.2 (.tmp 103) (.tmp 106) 22 Try.underlying22 info_int (by omega) (by unfold maxLen; omega) ⟨rfl, rfl, rfl, rfl, rfl, by decide⟩ (by by_cases hcw : cc = p; (exact .inr ⟨by omega, by omega⟩); (refine .inl ⟨?_, by omega⟩; first | rfl | (simp [hcw]; done) | (simp [hcw]; omega))) ?_
                    intro v6 w6 own6 gr6
                    have S6 := S5.grown gr6 S5.size (fun k hk => (ow5.lt k hk).1)
                    refine hK.out _ _ S6 (fun hHeld => ?_)
                    clear hK K
                    (try simp only [List.getElem_toArray, List.getElem_cons_succ, List.getElem_cons_zero, Act.put, List.setIfInBounds_toArray, List.set_cons_zero, List.set_cons_succ])
                    (refine wpAnyH_take (i := 12) (v := ?_) rfl (by kernel_rfl) (by kernel_rfl) (by kernel_rfl) (fun _ _ _ h => h) (Or.inl ⟨by rfl, ?_⟩) (by assumption) ?_; rotate_left; focus (intro w hSw; (try dsimp only at hSw); go_simp; try with_reducible rfl))
                    (try simp only [List.getElem_toArray, List.getElem_cons_succ, List.getElem_cons_zero, Act.put, List.setIfInBounds_toArray, List.set_cons_zero, List.set_cons_succ])
                    refine wpAnyH_done (by kernel_rfl) ?_ _
                    first | refine NoPanic.normal ?_ | skip
                    have hz6 : 0 < p + 1 + (ns.length - p) := by omega
                    obtain ⟨gc6, cc6, hv6, hg6, hb6, hn6, hm6⟩ := row_some own6 hz6
                    subst hv6
                    have HON6 := Lib.hid (row_below HON5.out S6)
                    have hl6 : p + 1 + (ns.length - p) = ns.length + 1 := by omega
                    have HL6 := Lib.hid hl6
                    have HOC6 := Lib.hid (show w6.ownsRow w5.heap.size 3 1 (.slice (some ⟨gc6, 0, none⟩) (p + 1 + (ns.length - p)) cc6) (p + 1 + (ns.length - p)) (ints ((ns.take p ++ [x] ++ ns.drop p).map (cntS l))) by rw [List.map_append, List.map_append, List.map_take, List.map_drop, List.map_singleton, ← HCX.out, ints_insF]; exact own6)
                    have HB6 := Lib.hid (HB4.out.trans ((HB5.out.mono HB4.out.size).trans (S6.mono (Nat.le_trans HB4.out.size HB5.out.size))))
                    have hne : gn5 ≠ gc6 := by omega
                    have hg6' : w.heap.size ≤ w5.heap.size := by have := HB5.out.size; omega
                    clear own6 hl6 hHeld
                    go_wp2
                    all_goals
                      go_roundg (l.length - (k + 1))
                      case measure => omega
                      case rel =>
                        refine ⟨k + 1, ns.take p ++ [x] ++ ns.drop p, rfl, hlt, by go_num, HPUT.out, HMEM.out, by rw [HLEN.out]; omega, ⟨gn5, cn5, by rw [HLEN.out], by rw [HLEN.out]; exact hn5, hm5, ?_, gc6, cc6, hne, by rw [HLEN.out, ← HL6.out], by rw [HLEN.out, ← HL6.out]; exact hn6, hm6, ?_⟩, HB6.out⟩
                        · rw [HLEN.out]
                          exact HON6.out.base (by omega)
                        · rw [HLEN.out, ← HL6.out]
                          exact HOC6.out.base hg6'
                · go_simp
                  have SC := SD.alloc (Nat.le_refl _) (.cells #[.int .i64 cx] 3)
                  have nw1 : ∀ j u, [.int .i64 cx][j]? = some u → (w5.drew.alloc (.cells #[.int .i64 cx] 3)).cell? ⟨w5.heap.size, j, none⟩ = some u := fun j u hj => new_here (w := w5.drew) hj
                  refine hK.out _ _ SC (fun hHeld => ?_)
                  clear hK K
                  (try simp only [List.getElem_toArray, List.getElem_cons_succ, List.getElem_cons_zero, Act.put, List.setIfInBounds_toArray, List.set_cons_zero, List.set_cons_succ])
                  refine wpAnyH_ready (rs := [0]) (by kernel_rfl) (by simp) ?_
                  refine AllReadyH.cons rfl (fun K hK => ?_) AllReadyH.nil
                  go_simp
                  have ow2 : ((w5.drew.alloc (.cells #[.int .i64 cx] 3)).alloc (.cells #[] 3)).ownsRow w5.heap.size 3 1 (.slice (some ⟨w5.heap.size + 1, 0, none⟩) 0 0) 0 [] := by rw [show w5.heap.size + 1 = (w5.drew.alloc (.cells #[.int .i64 cx] 3)).heap.size from by simp]; exact World.ownsRow_made _ _ _ SC.size (by simp) rfl
                  have S2 := SC.alloc SC.size (.cells #[] 3)
                  have nw2 : ∀ j u, [.int .i64 cx][j]? = some u → ((w5.drew.alloc (.cells #[.int .i64 cx] 3)).alloc (.cells #[] 3)).cell? ⟨w5.heap.size, j, none⟩ = some u := fun j u hj => (World.cell?_alloc_lt _ _ _ (by simp)).trans (nw1 j u hj)
                  refine hK.out _ _ S2 (fun hHeld => ?_)
                  clear hK K
                  (try simp only [List.getElem_toArray, List.getElem_cons_succ, List.getElem_cons_zero, Act.put, List.setIfInBounds_toArray, List.set_cons_zero, List.set_cons_succ])
                  refine wpAnyH_ready (rs := [4]) (by kernel_rfl) (by simp) ?_
                  refine AllReadyH.cons rfl (fun K hK => ?_) AllReadyH.nil
                  refine step_append_src ow2 S2.size (HHD.out.below S2) HC1.out.1 (.tmp 96) (.tmp 99) 22 Try.underlying22 info_int (by omega) (by unfold maxLen; omega) ⟨rfl, rfl, rfl, rfl, rfl, by decide⟩ (.inl ⟨rfl, rfl⟩) ?_
                  intro vi4 wi4 ow4 grow4
                  have S4 := S2.grown grow4 S2.size (fun k hk => (ow2.lt k hk).1)
                  simp only [Nat.zero_add, List.nil_append] at ow4
                  refine hK.out _ _ S4 (fun hHeld => ?_)
                  clear hK K
                  (try simp only [List.getElem_toArray, List.getElem_cons_succ, List.getElem_cons_zero, Act.put, List.setIfInBounds_toArray, List.set_cons_zero, List.set_cons_succ])
                  have nw5 : ∀ j u, [.int .i64 cx][j]? = some u → wi4.cell? ⟨w5.heap.size, j, none⟩ = some u := fun j u hj => grow4.cell (nw2 j u hj) (by simp [Value.ownBlock])
                  refine wpAnyH_ready (rs := [7]) (by kernel_rfl) (by simp) ?_
                  refine AllReadyH.cons rfl (fun K hK => ?_) AllReadyH.nil
                  refine step_append_own ow4 S4.size (.tmp 100) (.tmp 102) 22 Try.underlying22 info_int (by omega) (by unfold maxLen; omega) nw5 insL ⟨rfl, rfl, rfl, rfl, rfl, rfl, by decide⟩ ?_
                  intro vi5 wi5 ow5 grow5 _
                  have S5 := S4.grown grow5 S4.size (fun k hk => (ow4.lt k hk).1)
                  refine hK.out _ _ S5 (fun hHeld => ?_)
                  clear hK K
                  (try simp only [List.getElem_toArray, List.getElem_cons_succ, List.getElem_cons_zero, Act.put, List.setIfInBounds_toArray, List.set_cons_zero, List.set_cons_succ])
                  refine wpAnyH_ready (rs := [11]) (by kernel_rfl) (by simp) ?_
                  refine AllReadyH.cons rfl (fun K hK => ?_) AllReadyH.nil
                  refine step_append_src ow5 S5.size (HTL.out.below S5) HC1.out.2 (.tmp 103) (.tmp 106) 22 Try.underlying22 info_int (by omega) (by unfold maxLen; omega) ⟨rfl, rfl, rfl, rfl, rfl, by decide⟩ (by by_cases hcw : cc = p; (exact .inr ⟨by omega, by omega⟩); (refine .inl ⟨?_, by omega⟩; first | rfl | (simp [hcw]; done) | (simp [hcw]; omega))) ?_
                  intro v6 w6 own6 gr6
                  have S6 := S5.grown gr6 S5.size (fun k hk => (ow5.lt k hk).1)
                  refine hK.out _ _ S6 (fun hHeld => ?_)
                  clear hK K
                  (try simp only [List.getElem_toArray, List.getElem_cons_succ, List.getElem_cons_zero, Act.put, List.setIfInBounds_toArray, List.set_cons_zero, List.set_cons_succ])
                  (refine wpAnyH_take (i := 12) (v := ?_) rfl (by kernel_rfl) (by kernel_rfl) (by kernel_rfl) (fun _ _ _ h => h) (Or.inl ⟨by rfl, ?_⟩) (by assumption) ?_; rotate_left; focus (intro w hSw; (try dsimp only at hSw); go_simp; try with_reducible rfl))
                  (try simp only [List.getElem_toArray, List.getElem_cons_succ, List.getElem_cons_zero, Act.put, List.setIfInBounds_toArray, List.set_cons_zero, List.set_cons_succ])
                  refine wpAnyH_done (by kernel_rfl) ?_ _
                  first | refine NoPanic.normal ?_ | skip
                  have hz6 : 0 < p + 1 + (ns.length - p) := by omega
                  obtain ⟨gc6, cc6, hv6, hg6, hb6, hn6, hm6⟩ := row_some own6 hz6
                  subst hv6
                  have HON6 := Lib.hid (row_below HON5.out S6)
                  have hl6 : p + 1 + (ns.length - p) = ns.length + 1 := by omega
                  have HL6 := Lib.hid hl6
                  have HOC6 := Lib.hid (show w6.ownsRow w5.heap.size 3 1 (.slice (some ⟨gc6, 0, none⟩) (p + 1 + (ns.length - p)) cc6) (p + 1 + (ns.length - p)) (ints ((ns.take p ++ [x] ++ ns.drop p).map (cntS l))) by rw [List.map_append, List.map_append, List.map_take, List.map_drop, List.map_singleton, ← HCX.out, ints_insF]; exact own6)
                  have HB6 := Lib.hid (HB4.out.trans ((HB5.out.mono HB4.out.size).trans (S6.mono (Nat.le_trans HB4.out.size HB5.out.size))))
                  have hne : gn5 ≠ gc6 := by omega
                  have hg6' : w.heap.size ≤ w5.heap.size := by have := HB5.out.size; omega
                  clear own6 hl6 hHeld
                  go_wp2
                  all_goals
                    go_roundg (l.length - (k + 1))
                    case measure => omega
                    case rel =>
                      refine ⟨k + 1, ns.take p ++ [x] ++ ns.drop p, rfl, hlt, by go_num, HPUT.out, HMEM.out, by rw [HLEN.out]; omega, ⟨gn5, cn5, by rw [HLEN.out], by rw [HLEN.out]; exact hn5, hm5, ?_, gc6, cc6, hne, by rw [HLEN.out, ← HL6.out], by rw [HLEN.out, ← HL6.out]; exact hn6, hm6, ?_⟩, HB6.out⟩
                      · rw [HLEN.out]
                        exact HON6.out.base (by omega)
                      · rw [HLEN.out, ← HL6.out]
                        exact HOC6.out.base hg6'
    · obtain rfl : k = l.length := by omega
      have HF := Lib.hid (show Freq l ns from ⟨HPW.out, fun x => by rw [HME.out x, List.take_length]⟩)
      go_wp2
      go_ret3
      exact ⟨.slice (some ⟨gn, 0, none⟩) ns.length cn, .slice (some ⟨gc, 0, none⟩) ns.length cc, ns, by rw [HV.out]; rfl, fun _ => HF.out, fun h => (by rw [HV.out] at h; cases h), Own.of_row HON.out, Own.of_row HOC.out, HB.out, fun g hg hg2 => by
        simp only [Value.ownBlock, Option.some.injEq] at hg hg2
        omega⟩
end Go.Proofs.Ytfgfbnmcihjfmaa
