/-
  The reference's list of states of the search in memory: a row of three cells each, two of them rows of ints that are never written.
-/
import Derived.Test.YtekidodfcanjaaaGreatDoorSrchPl
import Derived.Test.YtekidodfcanjaaaGreatDoorDictT
import Derived.Test.YtekidodfcanjaaaGreatDoorBase
import Derived.Test.YtekidodfcanjaaaGreatDoorRows
import Derived.Test.YtekidodfcanjaaaGreatDoorWitA
import Derived.Test.YtekidodfcanjaaaGreatDoorBegins
import Derived.Test.YtekidodfcanjaaaGreatDoorSegS
import Derived.Test.YtekidodfcanjaaaGreatDoorAtS
namespace Go.Proofs.YtekidodfcanjaaaGreatDoor
open Go.RowKit
set_option linter.unusedVariables false
set_option linter.unusedSimpArgs false
set_option maxRecDepth 100000

abbrev Cell3 := Value × Value × Value
def cellsS (cs : List Cell3) : List Value := cs.flatMap fun c => [c.1, c.2.1, c.2.2]
theorem cellsS_length (cs : List Cell3) : (cellsS cs).length = cs.length * 3 := by
  induction cs with
  | nil => rfl
  | cons p ps ih => simp only [cellsS, List.flatMap_cons, List.length_append, List.length_cons, List.length_nil] at *; omega
theorem cellsS_snoc (cs : List Cell3) (a b c : Value) : cellsS (cs ++ [(a, b, c)]) = cellsS cs ++ [a, b, c] := by simp [cellsS]
theorem cellsS_split (a : List Cell3) (c : Cell3) (b : List Cell3) : cellsS (a ++ c :: b) = cellsS a ++ c.1 :: c.2.1 :: c.2.2 :: cellsS b := by simp [cellsS]
theorem cellsS_at {cs : List Cell3} {k : Nat} {c : Cell3} (h : cs[k]? = some c) : (cellsS cs)[k * 3]? = some c.1 ∧ (cellsS cs)[k * 3 + 1]? = some c.2.1 ∧ (cellsS cs)[k * 3 + 2]? = some c.2.2 := by
  obtain ⟨a, b, rfl, rfl⟩ := split_at h
  rw [cellsS_split]
  have hn := cellsS_length a
  refine ⟨?_, ?_, ?_⟩
  · rw [List.getElem?_append_right (by omega), hn, Nat.sub_self]; rfl
  · rw [List.getElem?_append_right (by omega), hn, show a.length * 3 + 1 - a.length * 3 = 1 by omega]; rfl
  · rw [List.getElem?_append_right (by omega), hn, show a.length * 3 + 2 - a.length * 3 = 2 by omega]; rfl
theorem cellsS_set1 {cs : List Cell3} {k : Nat} {c : Cell3} (h : cs[k]? = some c) (u : Value) : (cellsS cs).set (k * 3 + 1) u = cellsS (cs.set k (c.1, u, c.2.2)) := by
  obtain ⟨a, b, rfl, rfl⟩ := split_at h
  rw [List.set_append_right _ _ (Nat.le_refl _), Nat.sub_self, List.set_cons_zero, cellsS_split, cellsS_split]
  have hn := cellsS_length a
  rw [List.set_append_right _ _ (by omega), hn, show a.length * 3 + 1 - a.length * 3 = 1 by omega]
  rfl
theorem cellsS_set2 {cs : List Cell3} {k : Nat} {c : Cell3} (h : cs[k]? = some c) (u : Value) : (cellsS cs).set (k * 3 + 2) u = cellsS (cs.set k (c.1, c.2.1, u)) := by
  obtain ⟨a, b, rfl, rfl⟩ := split_at h
  rw [List.set_append_right _ _ (Nat.le_refl _), Nat.sub_self, List.set_cons_zero, cellsS_split, cellsS_split]
  have hn := cellsS_length a
  rw [List.set_append_right _ _ (by omega), hn, show a.length * 3 + 2 - a.length * 3 = 2 by omega]
  rfl

/-- A list of ints as a value: a row of the call's own that is never written. -/
def RowV (B : Nat) (w : World) (v : Value) (xs : List Int) : Prop := w.ownsRow B 3 1 v xs.length (ints xs)
section
variable {B : Nat} {w w' : World} {v u : Value} {xs : List Int} {S : List StD} {s : StD}
theorem RowV.keep (h : RowV B w v xs) (k : Keep 3 B w w') : RowV B w' v xs := by
  obtain ⟨h1, h2⟩ := h
  refine ⟨h1, ?_⟩
  rcases h2 with h2 | ⟨g, cap, cur, hv, hb, hg, rest⟩
  · exact .inl h2
  · exact .inr ⟨g, cap, cur, hv, hb, k.typed g cur hg, rest⟩
theorem RowV.slice (h : RowV B w v xs) : ∃ (A : Option Addr) (c : Nat), v = .slice A xs.length c ∧ Reads w w.heap.size 1 A xs.length (ints xs) ∧ xs.length ≤ c ∧ c ≤ maxLen := (Own.of_row h).slice
def StOk (B : Nat) (w : World) (c : Cell3) (s : StD) : Prop := RowV B w c.1 s.1 ∧ RowV B w c.2.1 s.2.1 ∧ c.2.2 = .bool s.2.2
theorem StOk.keep {c : Cell3} (h : StOk B w c s) (k : Keep 3 B w w') : StOk B w' c s := ⟨h.1.keep k, h.2.1.keep k, h.2.2⟩
def States (B : Nat) (w : World) (v : Value) (S : List StD) : Prop :=
  ∃ cs : List Cell3, cs.length = S.length ∧ w.ownsRow B 92 3 v S.length (cellsS cs) ∧ ∀ (j : Nat) c s, cs[j]? = some c → S[j]? = some s → StOk B w c s
theorem States.keep (h : States B w v S) (k : Keep 3 B w w') (ho : ∀ xs, w.ownsRow B 92 3 v S.length xs → w'.ownsRow B 92 3 v S.length xs) : States B w' v S := by
  obtain ⟨cs, h1, h2, h3⟩ := h
  exact ⟨cs, h1, ho _ h2, fun j c s hc hs => (h3 j c s hc hs).keep k⟩
theorem States.far (h : States B w v S) (hb : Below w.heap.size w w') (hB : B ≤ w.heap.size) : States B w' v S :=
  h.keep (Keep.of_below hb hB) fun xs ho => ((Own.of_row ho).below hb).1
theorem States.slice (h : States B w v S) : ∃ A c, v = .slice A S.length c := by
  obtain ⟨cs, h1, h2, h3⟩ := h
  obtain ⟨A, c, rfl, -, -, -⟩ := (Own.of_row h2).slice
  exact ⟨A, c, rfl⟩
theorem States.made (hB : B ≤ w.heap.size) : States B (w.alloc (.cells #[] 92)) (.slice (some ⟨w.heap.size, 0, none⟩) 0 0) [] :=
  ⟨[], rfl, World.ownsRow_made w #[] 0 hB (by simp) rfl, fun j c s h => by simp at h⟩
/-- Where there is a state: its block and cells. -/
theorem States.open_ (h : States B w v S) (hn : 0 < S.length) : ∃ g cap, v = .slice (some ⟨g, 0, none⟩) S.length cap ∧ B ≤ g ∧ g < w.heap.size ∧ S.length ≤ cap ∧ cap ≤ maxLen ∧ (∀ j, w.frozen? ⟨g, j, none⟩ = false) ∧
    ∀ (j : Nat) s, S[j]? = some s → ∃ c : Cell3, StOk B w c s ∧ w.cell? ⟨g, j * 3, none⟩ = some c.1 ∧ w.cell? ⟨g, j * 3 + 1, none⟩ = some c.2.1 ∧ w.cell? ⟨g, j * 3 + 2, none⟩ = some c.2.2 := by
  obtain ⟨cs, h1, h2, h3⟩ := h
  obtain ⟨g, cap, rfl, k1, -, k2, k3, k4, k5, k6⟩ := (Own.of_row h2).open_ hn
  refine ⟨g, cap, rfl, k1, k2, k3, k4, k6, fun j s hs => ?_⟩
  have hj := (List.getElem?_eq_some_iff.1 hs).1
  obtain ⟨c, hc⟩ := some_at cs (show j < cs.length by omega)
  obtain ⟨e0, e1, e2⟩ := cellsS_at hc
  exact ⟨c, h3 j c s hc hs, (k5 _ (by omega)).trans e0, (k5 _ (by omega)).trans e1, (k5 _ (by omega)).trans e2⟩
theorem get_set {α : Type} {l : List α} {j k : Nat} {x y : α} (h : (l.set k x)[j]? = some y) : (j = k ∧ y = x) ∨ (j ≠ k ∧ l[j]? = some y) := by
  rw [List.getElem?_set] at h
  split at h
  · split at h
    · exact .inl ⟨by omega, (Option.some.inj h).symm⟩
    · cases h
  · exact .inr ⟨by omega, h⟩
/-- A state's strokes are others. -/
theorem States.set1 {g cap k : Nat} {a : List Int} (h : States B w (.slice (some ⟨g, 0, none⟩) S.length cap) S) (hk : S[k]? = some s) (ha : RowV B w u a) :
    States B (w.setCell ⟨g, k * 3 + 1, none⟩ u) (.slice (some ⟨g, 0, none⟩) S.length cap) (S.set k (s.1, a, s.2.2)) ∧ Keep 3 B w (w.setCell ⟨g, k * 3 + 1, none⟩ u) := by
  obtain ⟨cs, h1, h2, h3⟩ := h
  have kp : Keep 3 B w (w.setCell ⟨g, k * 3 + 1, none⟩ u) := Keep.of_set h2 (by decide) (Nat.le_refl _) _ _
  have hkl := (List.getElem?_eq_some_iff.1 hk).1
  obtain ⟨c, hc⟩ := some_at cs (show k < cs.length by omega)
  have h4 := ((Own.of_row h2).set_ (k * 3 + 1) u).1
  rw [cellsS_set1 hc] at h4
  refine ⟨⟨cs.set k (c.1, u, c.2.2), by simp [h1], by rw [List.length_set]; exact h4, fun j d t hd ht => ?_⟩, kp⟩
  rcases get_set hd with ⟨rfl, rfl⟩ | ⟨hj, hd⟩
  · rcases get_set ht with ⟨-, rfl⟩ | ⟨hj, -⟩
    · have h5 := h3 _ _ _ hc hk
      exact ⟨h5.1.keep kp, ha.keep kp, h5.2.2⟩
    · exact absurd rfl hj
  · rcases get_set ht with ⟨hj2, -⟩ | ⟨-, ht⟩
    · exact absurd hj2 hj
    · exact (h3 _ _ _ hd ht).keep kp
/-- A state is done. -/
theorem States.set2 {g cap k : Nat} {b : Bool} (h : States B w (.slice (some ⟨g, 0, none⟩) S.length cap) S) (hk : S[k]? = some s) :
    States B (w.setCell ⟨g, k * 3 + 2, none⟩ (.bool b)) (.slice (some ⟨g, 0, none⟩) S.length cap) (S.set k (s.1, s.2.1, b)) ∧ Keep 3 B w (w.setCell ⟨g, k * 3 + 2, none⟩ (.bool b)) := by
  obtain ⟨cs, h1, h2, h3⟩ := h
  have kp : Keep 3 B w (w.setCell ⟨g, k * 3 + 2, none⟩ (.bool b)) := Keep.of_set h2 (by decide) (Nat.le_refl _) _ _
  have hkl := (List.getElem?_eq_some_iff.1 hk).1
  obtain ⟨c, hc⟩ := some_at cs (show k < cs.length by omega)
  have h4 := ((Own.of_row h2).set_ (k * 3 + 2) (.bool b)).1
  rw [cellsS_set2 hc] at h4
  refine ⟨⟨cs.set k (c.1, c.2.1, .bool b), by simp [h1], by rw [List.length_set]; exact h4, fun j d t hd ht => ?_⟩, kp⟩
  rcases get_set hd with ⟨rfl, rfl⟩ | ⟨hj, hd⟩
  · rcases get_set ht with ⟨-, rfl⟩ | ⟨hj, -⟩
    · have h5 := h3 _ _ _ hc hk
      exact ⟨h5.1.keep kp, h5.2.1.keep kp, rfl⟩
    · exact absurd rfl hj
  · rcases get_set ht with ⟨hj2, -⟩ | ⟨-, ht⟩
    · exact absurd hj2 hj
    · exact (h3 _ _ _ hd ht).keep kp
/-- A state is put behind the others. -/
theorem States.put {cs : List Cell3} {v2 rv av : Value} {r a : List Int} (h1 : cs.length = S.length) (h2 : w.ownsRow B 92 3 v S.length (cellsS cs)) (h3 : ∀ (j : Nat) c s, cs[j]? = some c → S[j]? = some s → StOk B w c s) (hB : B ≤ w.heap.size)
    (hr : RowV B w rv r) (ha : RowV B w av a) (own2 : w'.ownsRow B 92 3 v2 (S.length + 1) (cellsS cs ++ [rv, av, .bool false])) (gr : w.grownBy w' v.ownBlock) :
    States B w' v2 (S ++ [(r, a, false)]) ∧ Keep 3 B w w' := by
  have kp : Keep 3 B w w' := Keep.of_grown h2 gr (by decide) (Nat.le_refl _) hB
  refine ⟨⟨cs ++ [(rv, av, .bool false)], by simp [h1], by rw [cellsS_snoc, List.length_append]; exact own2, fun j c s hc hs => ?_⟩, kp⟩
  rcases Nat.lt_trichotomy j S.length with h | h | h
  · rw [List.getElem?_append_left (by omega)] at hc hs
    exact (h3 j c s hc hs).keep kp
  · subst h
    rw [List.getElem?_append_right (by omega), h1] at hc
    rw [List.getElem?_append_right (by omega)] at hs
    simp only [Nat.sub_self, List.getElem?_cons_zero, Option.some.injEq] at hc hs
    subst hc hs
    exact ⟨hr.keep kp, ha.keep kp, rfl⟩
  · have := (List.getElem?_eq_some_iff.1 hs).1
    simp at this
    omega
end
end Go.Proofs.YtekidodfcanjaaaGreatDoor
namespace Go.Proofs.YtekidodfcanjaaaGreatDoor
open Go.RowKit
set_option linter.unusedVariables false
set_option linter.unusedSimpArgs false
set_option maxRecDepth 100000

theorem info_state : (Tryz.prog.info? 92).map (fun i => (i.zero, i.size, i.bytes)) = some (some (.agg #[.slice none 0 0, .slice none 0 0, .bool false]), 3, 56) := by kernel_rfl

set_option maxHeartbeats 4000000 in
theorem spec_l22Put (B : Nat) (v rv av : Value) (S : List StD) (r a : List Int) (w : World) (hS : States B w v S) (hB : B ≤ w.heap.size) (hr : RowV B w rv r) (ha : RowV B w av a) (hn : S.length ≤ 1000) (hl : ∀ s ∈ S, s.1.length ≤ 1048576 ∧ s.2.1.length ≤ 1048576) (hrl : r.length ≤ 1048576) (hal : a.length ≤ 1048576) :
    Calls Tryz.prog 74 #[v, rv, av] w fun e w' => ∃ v2, e = .returned v2 ∧ States B w' v2 (putL S r a) ∧ Keep 3 B w w' := by
  obtain ⟨Av, cv, rfl⟩ := hS.slice
  obtain ⟨Ar, cr, rfl, -, -, -⟩ := hr.slice
  obtain ⟨Aa, ca, rfl, -, -, -⟩ := ha.slice
  have HS := Lib.hid hS
  have HR := Lib.hid hr
  have HA := Lib.hid ha
  have HL := Lib.hid hl
  clear hS hr ha hl
  go_enter Tryz.func74, Tryz.ntmps74
  go_wp2
  go_loopw [7] (fun i wr => ∃ k : Nat, k ≤ S.length ∧ i = .int .i64 k ∧ (∀ (j : Nat) t, j < k → S[j]? = some t → t.1 ≠ r) ∧ Below w.heap.size w wr) (fun i _ => S.length - (intOf i).toNat)
  case atStart => exact ⟨0, Nat.zero_le _, rfl, fun j t h => absurd h (Nat.not_lt_zero _), Below.refl _ _⟩
  case round =>
    obtain ⟨k, hk, rfl, hno, hb⟩ := hrel
    have HNO := Lib.hid hno
    have HB := Lib.hid hb
    have hBr := Nat.le_trans hB hb.size
    have kr := Keep.of_below (e := 3) hb hB
    have HSr := Lib.hid (HS.out.far hb hB)
    clear hno
    by_cases hlt : k < S.length
    · have i0 : (0 : Int) ≤ (k : Int) := by omega
      have i1 : (k : Int) < (S.length : Int) := by omega
      obtain ⟨s, hs⟩ := some_at S hlt
      obtain ⟨g, cap, hv, hg, hgl, hcap, hcm, hfr, hcell⟩ := HSr.out.open_ (by omega)
      injection hv with hv1 _ hv2
      subst hv1 hv2
      obtain ⟨⟨u1, u2, u3⟩, ⟨o1, o2, o3⟩, d0, d1, d2⟩ := hcell k s hs
      simp only at o1 o2 o3 d0 d1 d2
      obtain ⟨A1, c1, rfl, rd1, -, -⟩ := o1.slice
      obtain ⟨A2, c2, rfl, rd2, -, -⟩ := o2.slice
      obtain ⟨l1, l2⟩ := HL.out s (List.mem_of_getElem? hs)
      obtain ⟨s1, s2, s3⟩ := s
      simp only at l1 l2 d0 d1 d2 rd1 rd2
      have rdr := (Own.of_row (HR.out.keep kr)).slice
      obtain ⟨Ar', cr', hvr, rdr, -, -⟩ := rdr
      injection hvr with hvr1 _ hvr2
      subst hvr1 hvr2
      have f1 := hfr (k * 3 + 1)
      have HS1 := Lib.hid hs
      clear hcell hfr o1 o2 o3 d2 hs HL
      have D1 := Lib.hid d1
      clear d1
      go_wp2_with fail
      refine (spec_l1Same A1 Ar c1 cr s1 r _ rd1 rdr l1).mono ?_
      rintro e w2 ⟨rfl, b2⟩
      have HB2 := Lib.hid (HB.out.trans (b2.mono HB.out.size))
      have HSr2 := Lib.hid (HSr.out.far b2 hBr)
      clear d0
      by_cases hsr : s1 = r
      · rw [show decide (s1 = r) = true by simp [hsr]]
        have d1 := (b2.cell (p := ⟨g, k * 3 + 1, none⟩) hgl).trans D1.out
        have f1' := (b2.frozen (p := ⟨g, k * 3 + 1, none⟩) hgl).trans f1
        have k2 := Keep.of_below (e := 3) HB2.out hB
        obtain ⟨Aa', ca', hva, rda, -, -⟩ := (Own.of_row (HA.out.keep k2)).slice
        injection hva with hva1 _ hva2
        subst hva1 hva2
        have rd2' := (rd2.below b2).more b2.size
        clear rd2 rd1 rdr
        go_wp2_with fail
        refine (spec_l22Before Aa A2 ca c2 a s2 _ rda rd2' hal l2).mono ?_
        rintro e w3 ⟨rfl, b3⟩
        have hB3 := HB2.out.trans (b3.mono HB2.out.size)
        have hB3s := Nat.le_trans hB hB3.size
        have HSr3 := Lib.hid (HSr2.out.far b3 (Nat.le_trans hB HB2.out.size))
        have k3 := Keep.of_below (e := 3) hB3 hB
        have hgl2 := Nat.lt_of_lt_of_le hgl b2.size
        have e1 := (b3.cell (p := ⟨g, k * 3 + 1, none⟩) hgl2).trans d1
        have e2 := (b3.frozen (p := ⟨g, k * 3 + 1, none⟩) hgl2).trans f1'
        have HP := Lib.hid (putL_at S k (s1, s2, s3) r a HS1.out hsr HNO.out)
        clear d1 f1' f1 rda rd2' b2 b3
        cases hlt2 : ltA a s2 with
        | true =>
          have HX := Lib.hid (HSr3.out.set1 (u := .slice Aa a.length ca) HS1.out (HA.out.keep k3))
          go_wp2
          go_ret
          refine ⟨_, rfl, ?_, k3.trans HX.out.2⟩
          rw [HP.out]
          simp only [hlt2, if_true]
          exact HX.out.1
        | false =>
          go_wp2
          go_ret
          refine ⟨_, rfl, ?_, k3⟩
          rw [HP.out]
          simp only [hlt2, Bool.false_eq_true, if_false]
          rw [set_same HS1.out]
          exact HSr3.out
      · rw [show decide (s1 = r) = false by simp [hsr]]
        have HNE := Lib.hid hsr
        clear rd1 rd2 rdr f1 hsr
        go_wp2
        go_roundw
        case rel => exact ⟨k + 1, hlt, by go_num, fun j t hj ht => by
          by_cases e : j = k
          · subst e
            rw [HS1.out] at ht
            cases ht
            exact HNE.out
          · exact HNO.out j t (by omega) ht, HB2.out⟩
        case measure => simp [intOf]; omega
    · obtain rfl : k = S.length := by omega
      have HP := Lib.hid (putL_new S r a (fun t ht => by
        obtain ⟨j, hj⟩ := List.mem_iff_getElem?.1 ht
        exact HNO.out j t (List.getElem?_eq_some_iff.1 hj).1 hj))
      obtain ⟨cs, h1, h2, h3⟩ := HSr.out
      have H3 := Lib.hid h3
      have H1 := Lib.hid h1
      clear h3 h1 hlt
      go_wp2_with (at_builtin; refine wpList_append_threeG h2 hBr (.tmp 34) (.tmp 38) 89 Tryz.underlying89 info_state (by omega) (by unfold maxLen; omega) ⟨rfl, rfl, rfl, rfl, rfl, rfl, rfl, rfl⟩ rfl ?_; intro v7 w7 own7 gr7)
      go_ret
      have HX := States.put H1.out h2 H3.out hBr (HR.out.keep kr) (HA.out.keep kr) own7 gr7
      exact ⟨_, rfl, by rw [HP.out]; exact HX.1, kr.trans HX.2⟩
end Go.Proofs.YtekidodfcanjaaaGreatDoor
namespace Go.Proofs.YtekidodfcanjaaaGreatDoor
open Go.RowKit
set_option linter.unusedVariables false
set_option linter.unusedSimpArgs false
set_option maxRecDepth 100000

theorem reads_suffix {w : World} {B b off n k : Nat} {xs : List Value} (h : Reads w B 1 (some ⟨b, off, none⟩) n xs) (hk : k ≤ n) : Reads w B 1 (some ⟨b, off + k, none⟩) (n - k) (xs.drop k) := by
  refine ⟨by rw [List.length_drop, h.1]; omega, fun hn => ?_⟩
  obtain ⟨b', off', hA, hb, hc⟩ := h.2 (by omega)
  injection hA with hA
  injection hA with e1 e2
  subst e1 e2
  exact ⟨b, off + k, rfl, hb, fun j u hj => by rw [List.getElem?_drop] at hj; rw [Nat.add_assoc]; exact hc _ u hj⟩
theorem begins_leN {xs ys : List Int} (h : beginsB xs ys = true) : ys.length ≤ xs.length := by
  obtain ⟨x, hx⟩ := begins_iff.1 h
  rw [hx]; simp
theorem ints_drop (xs : List Int) (k : Nat) : ints (xs.drop k) = (ints xs).drop k := by simp [ints, List.map_drop]

set_option maxHeartbeats 16000000 in
theorem spec_l22Witness (A : Option Addr) (cap : Nat) (l : List EntD) (w : World) (hr : DictR w w.heap.size A l) (hv : dictB l = true) :
    Calls Tryz.prog 43 #[.agg #[.slice A l.length cap]] w fun e w' => ∃ v, e = .returned v ∧ Own w' w.heap.size w'.heap.size 3 1 v (ambD l).length (ints (ambD l)) ∧ AmbRes (outsD l) (ambD l) ∧ Below w.heap.size w w' := by
  obtain ⟨W1, hW1⟩ : ∃ W1, W1 = w.alloc (.cells #[.slice A l.length cap] 31) := ⟨_, rfl⟩
  have hs1 : W1.heap.size = w.heap.size + 1 := by rw [hW1]; simp
  have hb1 : Below w.heap.size w W1 := by rw [hW1]; exact (Below.refl _ _).alloc (Nat.le_refl _) _
  have bP : Box W1 w.heap.size 31 (.slice A l.length cap) := by rw [hW1]; exact Box.new w _ _
  have h40 := dict_len hv
  have HV := Lib.hid hv
  have HE := Lib.hid (show (outsD l).length ≤ 40 by rw [outs_len]; exact h40)
  have HSIX := Lib.hid (outs_six hv)
  have HBW := Lib.hid (show ∀ W', Below (w.heap.size + 1) W1 W' → Below w.heap.size w W' from fun W' hb => hb1.trans (hb.mono (by omega)))
  have HRT := Lib.hid (show ∀ W', Below (w.heap.size + 1) W1 W' → DictR W' w.heap.size A l from fun W' hb => hr.below (hb1.trans (hb.mono (by omega))))
  have HBX := Lib.hid (show ∀ W', Below (w.heap.size + 1) W1 W' → W'.cell? ⟨w.heap.size, 0, none⟩ = some (.slice A l.length cap) from fun W' hb => (bP.below hb (by omega)).cell)
  have ST0 := Lib.hid (show States (w.heap.size + 1) (W1.alloc (.cells #[] 92)) (.slice (some ⟨w.heap.size + 1, 0, none⟩) 0 0) [] by
    have h := States.made (B := w.heap.size + 1) (w := W1) (by omega)
    rw [hs1] at h
    exact h)
  have B0 := Lib.hid (show Below (w.heap.size + 1) W1 (W1.alloc (.cells #[] 92)) from (Below.refl _ _).alloc (by omega) _)
  clear hr hv hb1
  go_enter Tryz.func43, Tryz.ntmps43
  go_upto_region 1 with fail
  rw [← hW1]
  clear hW1
  have cP := bP.cell
  clear bP
  go_wp2
  clear cP
  go_loopw [3, 4] (fun u i wr => ∃ (k : Nat) (S : List StD), k ≤ l.length ∧ i = .int .i64 k ∧ States (w.heap.size + 1) wr u S ∧ SInv (outsD l) S (PairQ l k 0) 0 ∧ Below (w.heap.size + 1) W1 wr) (fun _ i _ => l.length - (intOf i).toNat)
  case atStart => exact ⟨0, [], Nat.zero_le _, rfl, ST0.out, sinv_weaken (sinv_nil _) (fun r a h => absurd h pairQ_zero), B0.out⟩
  case round =>
    clear ST0 B0
    obtain ⟨k, S, hk, rfl, hS, hI, hb⟩ := hrel
    have cP := HBX.out _ hb
    by_cases hlt : k < l.length
    · obtain ⟨⟨o, t⟩, hx⟩ := some_at l hlt
      have hol := dict_out HV.out hx
      simp only at hol
      have HX := Lib.hid hx
      have HS0 := Lib.hid hS
      have HI0 := Lib.hid hI
      have HB0 := Lib.hid hb
      clear hx hS hI hb
      go_wp2
      clear cP
      go_loopw [3, 5] (fun u j wr => ∃ (m : Nat) (S : List StD), m ≤ l.length ∧ j = .int .i64 m ∧ States (w.heap.size + 1) wr u S ∧ SInv (outsD l) S (PairQ l k m) 0 ∧ Below (w.heap.size + 1) W1 wr) (fun _ j _ => l.length - (intOf j).toNat)
      case atStart => exact ⟨0, S, Nat.zero_le _, rfl, HS0.out, HI0.out, HB0.out⟩
      case round =>
        clear HS0 HI0 HB0
        obtain ⟨m, S, hm, rfl, hS, hI, hb⟩ := hrel
        have cP := HBX.out _ hb
        have HS := Lib.hid hS
        have HI := Lib.hid hI
        have HB := Lib.hid hb
        have hBs := hb.size
        have hsz := (hI.size HE.out HSIX.out).1
        clear hS hI hb
        by_cases hmt : m < l.length
        · obtain ⟨bD, oD, rfl, hb0, hc⟩ := (HRT.out _ HB.out) (by omega)
          obtain ⟨ao, co, cD1, -, r1, hco, hcom⟩ := DictR.at_ hc HX.out
          obtain ⟨⟨p, q⟩, hy⟩ := some_at l hmt
          obtain ⟨ap, cp, cD2, -, r2, hcp, hcpm⟩ := DictR.at_ hc hy
          have hpl := dict_out HV.out hy
          simp only at hpl
          obtain ⟨bp, op, rfl, hbp, hcells⟩ := r2.2 (by omega)
          have HY := Lib.hid hy
          have i0 : (0 : Int) ≤ (k : Int) := by omega
          have i1 : (k : Int) < (l.length : Int) := by omega
          have i2 : (0 : Int) ≤ (m : Int) := by omega
          have i3 : (m : Int) < (l.length : Int) := by omega
          obtain ⟨wx, hwx⟩ : ∃ wx, wx = wr.drew := ⟨_, rfl⟩
          have bx : Below wr.heap.size wr wx := by rw [hwx]; exact (Below.refl _ _).drew
          have HSx := Lib.hid (HS.out.far bx (by omega))
          have HBx := Lib.hid (HB.out.trans (bx.mono (by omega)))
          have hBx : w.heap.size + 1 ≤ wx.heap.size := Nat.le_trans (by omega) bx.size
          have HR1 := Lib.hid (show ∀ W', Below (w.heap.size + 1) W1 W' → Reads W' W'.heap.size 1 ao o.length (ints o) from fun W' hb' => (r1.keep (fun x hx => (hb'.cell (p := x) (by omega)).trans (HB.out.cell (p := x) (by omega)).symm)).more (by have := hb'.size; omega))
          have HR2 := Lib.hid (show ∀ W', Below (w.heap.size + 1) W1 W' → Reads W' W'.heap.size 1 (some ⟨bp, op, none⟩) p.length (ints p) from fun W' hb' => (r2.keep (fun x hx => (hb'.cell (p := x) (by omega)).trans (HB.out.cell (p := x) (by omega)).symm)).more (by have := hb'.size; omega))
          have cPD : wr.drew.cell? ⟨w.heap.size, 0, none⟩ = some (.slice (some ⟨bD, oD, none⟩) l.length cap) := cP
          clear r1 r2 hc hcells hy hbp hb0
          go_wp2
          first | refine wp_region_noPanic ?_ | skip
          refine wp_region_held_drew (S := fun w' => w'.cell? ⟨w.heap.size, 0, none⟩ = some (.slice (some ⟨bD, oD, none⟩) l.length cap) ∧ w'.cell? ⟨bD, oD + k * 2, none⟩ = some (.slice ao o.length co) ∧ w'.cell? ⟨bD, oD + m * 2, none⟩ = some (.slice (some ⟨bp, op, none⟩) p.length cp)) (by kernel_rfl) (by exact ⟨cPD, cD1, cD2⟩) (fun hHeld => ?_)
          (refine wpAnyH_take (i := 0) (v := ?_) rfl (by kernel_rfl) (by kernel_rfl) (by kernel_rfl) (fun _ _ _ h => h) (Or.inl ⟨by rfl, ?_⟩) (by assumption) ?_; rotate_left; focus (intro w hSw; (try dsimp only at hSw); go_simp; try with_reducible rfl))
          (try simp only [List.getElem_toArray, List.getElem_cons_succ, List.getElem_cons_zero, Act.put, List.setIfInBounds_toArray, List.set_cons_zero, List.set_cons_succ])
          (refine wpAnyH_take (i := 1) (v := ?_) rfl (by kernel_rfl) (by kernel_rfl) (by kernel_rfl) (fun _ _ _ h => h) (Or.inl ⟨by rfl, ?_⟩) (by assumption) ?_; rotate_left; focus (intro w hSw; (try dsimp only at hSw); go_simp; try with_reducible rfl))
          (try simp only [List.getElem_toArray, List.getElem_cons_succ, List.getElem_cons_zero, Act.put, List.setIfInBounds_toArray, List.set_cons_zero, List.set_cons_succ])
          (refine wpAnyH_take (i := 2) (v := ?_) rfl (by kernel_rfl) (by kernel_rfl) (by kernel_rfl) (fun _ _ _ h => h) (Or.inl ⟨by rfl, ?_⟩) (by assumption) ?_; rotate_left; focus (intro w hSw; (try dsimp only at hSw); go_simp; try with_reducible rfl))
          (try simp only [List.getElem_toArray, List.getElem_cons_succ, List.getElem_cons_zero, Act.put, List.setIfInBounds_toArray, List.set_cons_zero, List.set_cons_succ])
          (refine wpAnyH_take (i := 3) (v := ?_) rfl (by kernel_rfl) (by kernel_rfl) (by kernel_rfl) (fun _ _ _ h => h) (Or.inl ⟨by rfl, ?_⟩) (by assumption) ?_; rotate_left; focus (intro w hSw; (try dsimp only at hSw); go_simp; try with_reducible rfl))
          (try simp only [List.getElem_toArray, List.getElem_cons_succ, List.getElem_cons_zero, Act.put, List.setIfInBounds_toArray, List.set_cons_zero, List.set_cons_succ])
          (refine wpAnyH_take (i := 4) (v := ?_) rfl (by kernel_rfl) (by kernel_rfl) (by kernel_rfl) (fun _ _ _ h => h) (Or.inl ⟨by rfl, ?_⟩) (by assumption) ?_; rotate_left; focus (intro w hSw; (try dsimp only at hSw); go_simp; try with_reducible rfl))
          (try simp only [List.getElem_toArray, List.getElem_cons_succ, List.getElem_cons_zero, Act.put, List.setIfInBounds_toArray, List.set_cons_zero, List.set_cons_succ])
          (refine wpAnyH_take (i := 5) (v := ?_) rfl (by kernel_rfl) (by kernel_rfl) (by kernel_rfl) (fun _ _ _ h => h) (Or.inl ⟨by rfl, ?_⟩) (by assumption) ?_; rotate_left; focus (intro w hSw; (try dsimp only at hSw); go_simp; try with_reducible rfl))
          (try simp only [List.getElem_toArray, List.getElem_cons_succ, List.getElem_cons_zero, Act.put, List.setIfInBounds_toArray, List.set_cons_zero, List.set_cons_succ])
          (refine wpAnyH_take (i := 6) (v := ?_) rfl (by kernel_rfl) (by kernel_rfl) (by kernel_rfl) (fun _ _ _ h => h) (Or.inl ⟨by rfl, ?_⟩) (by assumption) ?_; rotate_left; focus (intro w hSw; (try dsimp only at hSw); go_simp; try with_reducible rfl))
          (try simp only [List.getElem_toArray, List.getElem_cons_succ, List.getElem_cons_zero, Act.put, List.setIfInBounds_toArray, List.set_cons_zero, List.set_cons_succ])
          (refine wpAnyH_take (i := 7) (v := ?_) rfl (by kernel_rfl) (by kernel_rfl) (by kernel_rfl) (fun _ _ _ h => h) (Or.inl ⟨by rfl, ?_⟩) (by assumption) ?_; rotate_left; focus (intro w hSw; (try dsimp only at hSw); go_simp; try with_reducible rfl))
          (try simp only [List.getElem_toArray, List.getElem_cons_succ, List.getElem_cons_zero, Act.put, List.setIfInBounds_toArray, List.set_cons_zero, List.set_cons_succ])
          (refine wpAnyH_take (i := 8) (v := ?_) rfl (by kernel_rfl) (by kernel_rfl) (by kernel_rfl) (fun _ _ _ h => h) (Or.inl ⟨by rfl, ?_⟩) (by assumption) ?_; rotate_left; focus (intro w hSw; (try dsimp only at hSw); go_simp; try with_reducible rfl))
          (try simp only [List.getElem_toArray, List.getElem_cons_succ, List.getElem_cons_zero, Act.put, List.setIfInBounds_toArray, List.set_cons_zero, List.set_cons_succ])
          (refine wpAnyH_take (i := 9) (v := ?_) rfl (by kernel_rfl) (by kernel_rfl) (by kernel_rfl) (fun _ _ _ h => h) (Or.inl ⟨by rfl, ?_⟩) (by assumption) ?_; rotate_left; focus (intro w hSw; (try dsimp only at hSw); go_simp; try with_reducible rfl))
          (try simp only [List.getElem_toArray, List.getElem_cons_succ, List.getElem_cons_zero, Act.put, List.setIfInBounds_toArray, List.set_cons_zero, List.set_cons_succ])
          (refine wpAnyH_take (i := 10) (v := ?_) rfl (by kernel_rfl) (by kernel_rfl) (by kernel_rfl) (fun _ _ _ h => h) (Or.inl ⟨by rfl, ?_⟩) (by assumption) ?_; rotate_left; focus (intro w hSw; (try dsimp only at hSw); go_simp; try with_reducible rfl))
          (try simp only [List.getElem_toArray, List.getElem_cons_succ, List.getElem_cons_zero, Act.put, List.setIfInBounds_toArray, List.set_cons_zero, List.set_cons_succ])
          (refine wpAnyH_take (i := 11) (v := ?_) rfl (by kernel_rfl) (by kernel_rfl) (by kernel_rfl) (fun _ _ _ h => h) (Or.inl ⟨by rfl, ?_⟩) (by assumption) ?_; rotate_left; focus (intro w hSw; (try dsimp only at hSw); go_simp; try with_reducible rfl))
          (try simp only [List.getElem_toArray, List.getElem_cons_succ, List.getElem_cons_zero, Act.put, List.setIfInBounds_toArray, List.set_cons_zero, List.set_cons_succ])
          (refine wpAnyH_take (i := 12) (v := ?_) rfl (by kernel_rfl) (by kernel_rfl) (by kernel_rfl) (fun _ _ _ h => h) (Or.inl ⟨by rfl, ?_⟩) (by assumption) ?_; rotate_left; focus (intro w hSw; (try dsimp only at hSw); go_simp; try with_reducible rfl))
          (try simp only [List.getElem_toArray, List.getElem_cons_succ, List.getElem_cons_zero, Act.put, List.setIfInBounds_toArray, List.set_cons_zero, List.set_cons_succ])
          (refine wpAnyH_take (i := 13) (v := ?_) rfl (by kernel_rfl) (by kernel_rfl) (by kernel_rfl) (fun _ _ _ h => h) (Or.inl ⟨by rfl, ?_⟩) (by assumption) ?_; rotate_left; focus (intro w hSw; (try dsimp only at hSw); go_simp; try with_reducible rfl))
          (try simp only [List.getElem_toArray, List.getElem_cons_succ, List.getElem_cons_zero, Act.put, List.setIfInBounds_toArray, List.set_cons_zero, List.set_cons_succ])
          refine wpAnyH_done (by kernel_rfl) ?_ _
          first | refine NoPanic.normal ?_ | skip
          clear hHeld cP cPD cD1 cD2
          rw [← hwx]
          clear hwx bx
          by_cases hkm : k = m
          · have g1 : ((k : Int) != (m : Int)) = false := by simp [hkm]
            have HNO := Lib.hid (pair_no HX.out HY.out (by rintro ⟨h1, -⟩; exact h1 hkm))
            clear hkm
            go_wp2
            go_roundw
            case rel => exact ⟨m + 1, S, by omega, by go_num, HSx.out, sinv_weaken HI.out (fun r a h => pairQ_miss HX.out HY.out HNO.out h), HBx.out⟩
            case measure => simp [intOf]; omega
          · have g1 : ((k : Int) != (m : Int)) = true := by simp; omega
            have HKM := Lib.hid hkm
            clear hkm
            go_wp2_with fail
            refine (spec_l4Begins (some ⟨bp, op, none⟩) ao cp co p o _ (HR2.out _ HBx.out) (HR1.out _ HBx.out) (by omega) (by omega) hcp hcpm).mono ?_
            rintro e w4 ⟨rfl, b4⟩
            have HS4 := Lib.hid (HSx.out.far b4 hBx)
            have HB4 := Lib.hid (HBx.out.trans (b4.mono hBx))
            have hB4 := Nat.le_trans hBx b4.size
            clear b4 g1
            cases hbg : beginsB p o with
            | false =>
              have HNO := Lib.hid (pair_no HX.out HY.out (by rintro ⟨-, h1⟩; simp only at h1; rw [hbg] at h1; cases h1))
              clear hbg
              go_wp2
              go_roundw
              case rel => exact ⟨m + 1, S, by omega, by go_num, HS4.out, sinv_weaken HI.out (fun r a h => pairQ_miss HX.out HY.out HNO.out h), HB4.out⟩
              case measure => simp [intOf]; omega
            | true =>
              have hlt2 := pair_lt HV.out HX.out HY.out HKM.out hbg
              have hst := pair_start HX.out HY.out hlt2 hbg
              simp only at hlt2 hst
              obtain ⟨ys, hys⟩ : ∃ ys, ys = p.drop o.length := ⟨_, rfl⟩
              have hyl : ys.length = p.length - o.length := by rw [hys, List.length_drop]
              have HRY := Lib.hid (show ∀ W', Below (w.heap.size + 1) W1 W' → Reads W' W'.heap.size 1 (some ⟨bp, op + o.length, none⟩) ys.length (ints ys) from fun W' hb' => by
                rw [hyl, hys, ints_drop]
                exact reads_suffix (HR2.out W' hb') (by omega))
              rw [← hys] at hst
              have HST := Lib.hid hst
              have HYS := Lib.hid hys
              have l0 : (0 : Int) ≤ (o.length : Int) := by omega
              have l1 : (o.length : Int) ≤ (p.length : Int) := by omega
              have hne : ¬ cp = o.length := by omega
              have HL := Lib.hid (show ∀ s ∈ S, s.1.length ≤ 1048576 ∧ s.2.1.length ≤ 1048576 from fun s hs => by have := sinv_lens HI.out HE.out HSIX.out s hs; omega)
              clear hbg hst hys
              go_wp2_with fail
              rw [← hyl]
              refine (spec_l22Join none (some ⟨bp, op + o.length, none⟩) 0 (cp - o.length) [] ys _ Reads.none_ (HRY.out _ HB4.out) (by simp) (by omega)).mono ?_
              rintro e w5 ⟨v5, rfl, o5, b5⟩
              have HB5 := Lib.hid (HB4.out.trans (b5.mono hB4))
              have hB5 := Nat.le_trans hB4 b5.size
              have HS5 := Lib.hid (HS4.out.far b5 hB4)
              have O5 := Lib.hid o5
              clear o5 b5
              go_wp2_with fail
              refine (spec_l22Join none (some ⟨bp, op, none⟩) 0 cp [] p _ Reads.none_ (HR2.out _ HB5.out) (by simp) (by omega)).mono ?_
              rintro e w6 ⟨v6, rfl, o6, b6⟩
              have HB6 := Lib.hid (HB5.out.trans (b6.mono hB5))
              have hB6 := Nat.le_trans hB5 b6.size
              have HS6 := Lib.hid (HS5.out.far b6 hB5)
              have SV5 := Lib.hid (RowV.keep (B := w.heap.size + 1) (show w5.ownsRow (w.heap.size + 1) 3 1 v5 ys.length (ints ys) from O5.out.1.base hB4) (Keep.of_below b6 hB5))
              have SV6 := Lib.hid (show w6.ownsRow (w.heap.size + 1) 3 1 v6 p.length (ints p) from o6.1.base hB5)
              clear o6 b6
              go_wp2_with fail
              refine (spec_l22Put (w.heap.size + 1) _ v5 v6 S ys p _ HS6.out hB6 SV5.out SV6.out (by omega) HL.out (by omega) (by omega)).mono ?_
              rintro e w7 ⟨v7, rfl, s7, k7⟩
              have HP := sinv_put HI.out (.start HST.out) (by omega) (fun r0 a0 h0 => absurd h0 (sinv_none HI.out r0 a0))
              have HS7 := Lib.hid s7
              have HI7 := Lib.hid HP.1
              have HB7 := Lib.hid (HB6.out.trans k7.below)
              clear s7 k7 HP
              go_wp2
              go_roundw
              case rel => exact ⟨m + 1, _, by omega, by go_num, HS7.out, sinv_weaken HI7.out (fun r a h => by rw [HYS.out]; exact pairQ_next HX.out HY.out h), HB7.out⟩
              case measure => simp [intOf]; omega
        · obtain rfl : m = l.length := by omega
          go_wp2
          go_roundw
          case rel => exact ⟨k + 1, S, by omega, by go_num, HS.out, sinv_weaken HI.out (fun r a h => pairQ_row h), HB.out⟩
          case measure => simp [intOf]; omega
    · obtain rfl : k = l.length := by omega
      have HS0 := Lib.hid hS
      have HI0 := Lib.hid (sinv_weaken hI (Q' := Due (outsD l) (DS S)) (fun r a h => pairQ_start (due_nil (sinv_none hI) h)))
      have HB0 := Lib.hid hb
      clear hS hI hb
      go_wp2
      clear cP hlt
      go_loopg [3] (281) (fun n u wr => ∃ (S : List StD) (m : Nat), n = 281 - m ∧ States (w.heap.size + 1) wr u S ∧ SInv (outsD l) S (Due (outsD l) (DS S)) m ∧ Below (w.heap.size + 1) W1 wr)
      case atStart => exact ⟨S, 0, rfl, HS0.out, HI0.out, HB0.out⟩
      case round =>
        clear HS0 HI0 HB0
        obtain ⟨S, m, rfl, hS, hI, hb⟩ := hrel
        obtain ⟨Au, cu, rfl⟩ := hS.slice
        obtain ⟨hsz, hms⟩ := hI.size HE.out HSIX.out
        have HI := Lib.hid hI
        have HS0 := Lib.hid hS
        have HB0 := Lib.hid hb
        have HLN := Lib.hid (sinv_lens hI HE.out HSIX.out)
        clear hS hI hb
        go_wp2
        go_loopw [8, 9] (fun b i wr => ∃ (k : Nat) (bb : Int), k ≤ S.length ∧ i = .int .i64 k ∧ b = .int .i64 bb ∧ BestAt S k bb ∧ States (w.heap.size + 1) wr (.slice Au S.length cu) S ∧ Below (w.heap.size + 1) W1 wr) (fun _ i _ => S.length - (intOf i).toNat)
        case atStart => exact ⟨0, -1, Nat.zero_le _, rfl, rfl, best_none0 S, HS0.out, HB0.out⟩
        case round =>
          clear HS0 HB0
          obtain ⟨k, bb, hk, rfl, rfl, hbest, hS, hb⟩ := hrel
          have HBS := Lib.hid hbest
          have HS := Lib.hid hS
          have HB := Lib.hid hb
          have hBs := hb.size
          have hBr : w.heap.size + 1 ≤ wr.heap.size := by omega
          clear hbest hS hb
          by_cases hlt : k < S.length
          · obtain ⟨⟨s1, s2, s3⟩, hs⟩ := some_at S hlt
            obtain ⟨g, cc, hv, hg, hgl, hcap, hcm, hfr, hcell⟩ := HS.out.open_ (by omega)
            injection hv with hv1 hv0 hv2
            clear hv0
            subst hv1 hv2
            obtain ⟨⟨u1, u2, u3⟩, ⟨q1, q2, q3⟩, z0, z1, z2⟩ := hcell k _ hs
            simp only at q1 q2 q3 z0 z1 z2
            subst q3
            obtain ⟨A2, c2, rfl, rd2, -, -⟩ := q2.slice
            have hln := HLN.out _ (List.mem_of_getElem? hs)
            simp only at hln
            have i0 : (0 : Int) ≤ (k : Int) := by omega
            have i1 : (k : Int) < (S.length : Int) := by omega
            have HSK := Lib.hid hs
            have HCL := Lib.hid hcell
            clear hs hcell hfr q1 q2 z0
            cases s3 with
            | true =>
              have x2 : wr.drew.cell? ⟨g, k * 3 + 2, none⟩ = some (.bool true) := z2
              obtain ⟨wx, hwx⟩ : ∃ wx, wx = wr.drew := ⟨_, rfl⟩
              have bx : Below wr.heap.size wr wx := by rw [hwx]; exact (Below.refl _ _).drew
              clear z1 rd2
              go_wp2
              first | refine wp_region_noPanic ?_ | skip
              refine wp_region_held_drew (S := fun w' => w'.cell? ⟨g, k * 3 + 2, none⟩ = some (.bool true)) (by kernel_rfl) (by exact x2) (fun hHeld => ?_)
              (refine wpAnyH_take (i := 0) (v := ?_) rfl (by kernel_rfl) (by kernel_rfl) (by kernel_rfl) (fun _ _ _ h => h) (Or.inl ⟨by rfl, ?_⟩) (by assumption) ?_; rotate_left; focus (intro w hSw; (try dsimp only at hSw); go_simp; try with_reducible rfl))
              (try simp only [List.getElem_toArray, List.getElem_cons_succ, List.getElem_cons_zero, Act.put, List.setIfInBounds_toArray, List.set_cons_zero, List.set_cons_succ])
              (refine wpAnyH_take (i := 1) (v := ?_) rfl (by kernel_rfl) (by kernel_rfl) (by kernel_rfl) (fun _ _ _ h => h) (Or.inl ⟨by rfl, ?_⟩) (by assumption) ?_; rotate_left; focus (intro w hSw; (try dsimp only at hSw); go_simp; try with_reducible rfl))
              (try simp only [List.getElem_toArray, List.getElem_cons_succ, List.getElem_cons_zero, Act.put, List.setIfInBounds_toArray, List.set_cons_zero, List.set_cons_succ])
              (refine wpAnyH_take (i := 2) (v := ?_) rfl (by kernel_rfl) (by kernel_rfl) (by kernel_rfl) (fun _ _ _ h => h) (Or.inl ⟨by rfl, ?_⟩) (by assumption) ?_; rotate_left; focus (intro w hSw; (try dsimp only at hSw); go_simp; try with_reducible rfl))
              (try simp only [List.getElem_toArray, List.getElem_cons_succ, List.getElem_cons_zero, Act.put, List.setIfInBounds_toArray, List.set_cons_zero, List.set_cons_succ])
              (refine wpAnyH_take (i := 3) (v := ?_) rfl (by kernel_rfl) (by kernel_rfl) (by kernel_rfl) (fun _ _ _ h => h) (Or.inl ⟨by rfl, ?_⟩) (by assumption) ?_; rotate_left; focus (intro w hSw; (try dsimp only at hSw); go_simp; try with_reducible rfl))
              (try simp only [List.getElem_toArray, List.getElem_cons_succ, List.getElem_cons_zero, Act.put, List.setIfInBounds_toArray, List.set_cons_zero, List.set_cons_succ])
              (refine wpAnyH_take (i := 4) (v := ?_) rfl (by kernel_rfl) (by kernel_rfl) (by kernel_rfl) (fun _ _ _ h => h) (Or.inl ⟨by rfl, ?_⟩) (by assumption) ?_; rotate_left; focus (intro w hSw; (try dsimp only at hSw); go_simp; try with_reducible rfl))
              (try simp only [List.getElem_toArray, List.getElem_cons_succ, List.getElem_cons_zero, Act.put, List.setIfInBounds_toArray, List.set_cons_zero, List.set_cons_succ])
              (refine wpAnyH_take (i := 5) (v := ?_) rfl (by kernel_rfl) (by kernel_rfl) (by kernel_rfl) (fun _ _ _ h => h) (Or.inl ⟨by rfl, ?_⟩) (by assumption) ?_; rotate_left; focus (intro w hSw; (try dsimp only at hSw); go_simp; try with_reducible rfl))
              (try simp only [List.getElem_toArray, List.getElem_cons_succ, List.getElem_cons_zero, Act.put, List.setIfInBounds_toArray, List.set_cons_zero, List.set_cons_succ])
              (refine wpAnyH_take (i := 6) (v := ?_) rfl (by kernel_rfl) (by kernel_rfl) (by kernel_rfl) (fun _ _ _ h => h) (Or.inl ⟨by rfl, ?_⟩) (by assumption) ?_; rotate_left; focus (intro w hSw; (try dsimp only at hSw); go_simp; try with_reducible rfl))
              (try simp only [List.getElem_toArray, List.getElem_cons_succ, List.getElem_cons_zero, Act.put, List.setIfInBounds_toArray, List.set_cons_zero, List.set_cons_succ])
              refine wpAnyH_take (i := 7) rfl (by kernel_rfl) (by kernel_rfl) (by kernel_rfl) (fun _ _ _ h => h) (Or.inr ⟨by kernel_rfl, rfl⟩) (by assumption) ?_
              (try simp only [List.getElem_toArray, List.getElem_cons_succ, List.getElem_cons_zero, Act.put, List.setIfInBounds_toArray, List.set_cons_zero, List.set_cons_succ])
              refine wpAnyH_take (i := 8) rfl (by kernel_rfl) (by kernel_rfl) (by kernel_rfl) (fun _ _ _ h => h) (Or.inr ⟨by kernel_rfl, rfl⟩) (by assumption) ?_
              (try simp only [List.getElem_toArray, List.getElem_cons_succ, List.getElem_cons_zero, Act.put, List.setIfInBounds_toArray, List.set_cons_zero, List.set_cons_succ])
              refine wpAnyH_take (i := 9) rfl (by kernel_rfl) (by kernel_rfl) (by kernel_rfl) (fun _ _ _ h => h) (Or.inr ⟨by kernel_rfl, rfl⟩) (by assumption) ?_
              (try simp only [List.getElem_toArray, List.getElem_cons_succ, List.getElem_cons_zero, Act.put, List.setIfInBounds_toArray, List.set_cons_zero, List.set_cons_succ])
              refine wpAnyH_take (i := 10) rfl (by kernel_rfl) (by kernel_rfl) (by kernel_rfl) (fun _ _ _ h => h) (Or.inr ⟨by kernel_rfl, rfl⟩) (by assumption) ?_
              (try simp only [List.getElem_toArray, List.getElem_cons_succ, List.getElem_cons_zero, Act.put, List.setIfInBounds_toArray, List.set_cons_zero, List.set_cons_succ])
              refine wpAnyH_take (i := 11) rfl (by kernel_rfl) (by kernel_rfl) (by kernel_rfl) (fun _ _ _ h => h) (Or.inr ⟨by kernel_rfl, rfl⟩) (by assumption) ?_
              (try simp only [List.getElem_toArray, List.getElem_cons_succ, List.getElem_cons_zero, Act.put, List.setIfInBounds_toArray, List.set_cons_zero, List.set_cons_succ])
              refine wpAnyH_take (i := 12) rfl (by kernel_rfl) (by kernel_rfl) (by kernel_rfl) (fun _ _ _ h => h) (Or.inr ⟨by kernel_rfl, rfl⟩) (by assumption) ?_
              (try simp only [List.getElem_toArray, List.getElem_cons_succ, List.getElem_cons_zero, Act.put, List.setIfInBounds_toArray, List.set_cons_zero, List.set_cons_succ])
              refine wpAnyH_take (i := 13) rfl (by kernel_rfl) (by kernel_rfl) (by kernel_rfl) (fun _ _ _ h => h) (Or.inr ⟨by kernel_rfl, rfl⟩) (by assumption) ?_
              (try simp only [List.getElem_toArray, List.getElem_cons_succ, List.getElem_cons_zero, Act.put, List.setIfInBounds_toArray, List.set_cons_zero, List.set_cons_succ])
              refine wpAnyH_take (i := 14) rfl (by kernel_rfl) (by kernel_rfl) (by kernel_rfl) (fun _ _ _ h => h) (Or.inr ⟨by kernel_rfl, rfl⟩) (by assumption) ?_
              (try simp only [List.getElem_toArray, List.getElem_cons_succ, List.getElem_cons_zero, Act.put, List.setIfInBounds_toArray, List.set_cons_zero, List.set_cons_succ])
              refine wpAnyH_take (i := 15) rfl (by kernel_rfl) (by kernel_rfl) (by kernel_rfl) (fun _ _ _ h => h) (Or.inr ⟨by kernel_rfl, rfl⟩) (by assumption) ?_
              (try simp only [List.getElem_toArray, List.getElem_cons_succ, List.getElem_cons_zero, Act.put, List.setIfInBounds_toArray, List.set_cons_zero, List.set_cons_succ])
              refine wpAnyH_take (i := 16) rfl (by kernel_rfl) (by kernel_rfl) (by kernel_rfl) (fun _ _ _ h => h) (Or.inr ⟨by kernel_rfl, rfl⟩) (by assumption) ?_
              (try simp only [List.getElem_toArray, List.getElem_cons_succ, List.getElem_cons_zero, Act.put, List.setIfInBounds_toArray, List.set_cons_zero, List.set_cons_succ])
              refine wpAnyH_take (i := 17) rfl (by kernel_rfl) (by kernel_rfl) (by kernel_rfl) (fun _ _ _ h => h) (Or.inr ⟨by kernel_rfl, rfl⟩) (by assumption) ?_
              (try simp only [List.getElem_toArray, List.getElem_cons_succ, List.getElem_cons_zero, Act.put, List.setIfInBounds_toArray, List.set_cons_zero, List.set_cons_succ])
              refine wpAnyH_take (i := 18) rfl (by kernel_rfl) (by kernel_rfl) (by kernel_rfl) (fun _ _ _ h => h) (Or.inr ⟨by kernel_rfl, rfl⟩) (by assumption) ?_
              (try simp only [List.getElem_toArray, List.getElem_cons_succ, List.getElem_cons_zero, Act.put, List.setIfInBounds_toArray, List.set_cons_zero, List.set_cons_succ])
              refine wpAnyH_take (i := 19) rfl (by kernel_rfl) (by kernel_rfl) (by kernel_rfl) (fun _ _ _ h => h) (Or.inr ⟨by kernel_rfl, rfl⟩) (by assumption) ?_
              (try simp only [List.getElem_toArray, List.getElem_cons_succ, List.getElem_cons_zero, Act.put, List.setIfInBounds_toArray, List.set_cons_zero, List.set_cons_succ])
              refine wpAnyH_take (i := 20) rfl (by kernel_rfl) (by kernel_rfl) (by kernel_rfl) (fun _ _ _ h => h) (Or.inr ⟨by kernel_rfl, rfl⟩) (by assumption) ?_
              (try simp only [List.getElem_toArray, List.getElem_cons_succ, List.getElem_cons_zero, Act.put, List.setIfInBounds_toArray, List.set_cons_zero, List.set_cons_succ])
              refine wpAnyH_take (i := 21) rfl (by kernel_rfl) (by kernel_rfl) (by kernel_rfl) (fun _ _ _ h => h) (Or.inr ⟨by kernel_rfl, rfl⟩) (by assumption) ?_
              (try simp only [List.getElem_toArray, List.getElem_cons_succ, List.getElem_cons_zero, Act.put, List.setIfInBounds_toArray, List.set_cons_zero, List.set_cons_succ])
              (refine wpAnyH_take (i := 22) (v := ?_) rfl (by kernel_rfl) (by kernel_rfl) (by kernel_rfl) (fun _ _ _ h => h) (Or.inl ⟨by rfl, ?_⟩) (by assumption) ?_; rotate_left; focus (intro w hSw; (try dsimp only at hSw); go_simp; try with_reducible rfl))
              (try simp only [List.getElem_toArray, List.getElem_cons_succ, List.getElem_cons_zero, Act.put, List.setIfInBounds_toArray, List.set_cons_zero, List.set_cons_succ])
              refine wpAnyH_done (by kernel_rfl) ?_ _
              first | refine NoPanic.normal ?_ | skip
              rw [← hwx]
              clear hHeld x2 z2 hwx
              go_wp2
              go_roundw
              case rel => exact ⟨k + 1, bb, hlt, by go_num, rfl, best_done HBS.out HSK.out rfl, HS.out.far bx hBr, HB.out.trans (bx.mono hBr)⟩
              case measure => simp [intOf]; omega
            | false =>
              rcases best_cases HBS.out with rfl | ⟨n, r4, a4, rfl, hn, hsn⟩
              · have x2 : wr.drew.cell? ⟨g, k * 3 + 2, none⟩ = some (.bool false) := z2
                obtain ⟨wx, hwx⟩ : ∃ wx, wx = wr.drew := ⟨_, rfl⟩
                have bx : Below wr.heap.size wr wx := by rw [hwx]; exact (Below.refl _ _).drew
                clear z1 rd2
                go_wp2
                first | refine wp_region_noPanic ?_ | skip
                refine wp_region_held_drew (S := fun w' => w'.cell? ⟨g, k * 3 + 2, none⟩ = some (.bool false)) (by kernel_rfl) (by exact x2) (fun hHeld => ?_)
                (refine wpAnyH_take (i := 0) (v := ?_) rfl (by kernel_rfl) (by kernel_rfl) (by kernel_rfl) (fun _ _ _ h => h) (Or.inl ⟨by rfl, ?_⟩) (by assumption) ?_; rotate_left; focus (intro w hSw; (try dsimp only at hSw); go_simp; try with_reducible rfl))
                (try simp only [List.getElem_toArray, List.getElem_cons_succ, List.getElem_cons_zero, Act.put, List.setIfInBounds_toArray, List.set_cons_zero, List.set_cons_succ])
                (refine wpAnyH_take (i := 1) (v := ?_) rfl (by kernel_rfl) (by kernel_rfl) (by kernel_rfl) (fun _ _ _ h => h) (Or.inl ⟨by rfl, ?_⟩) (by assumption) ?_; rotate_left; focus (intro w hSw; (try dsimp only at hSw); go_simp; try with_reducible rfl))
                (try simp only [List.getElem_toArray, List.getElem_cons_succ, List.getElem_cons_zero, Act.put, List.setIfInBounds_toArray, List.set_cons_zero, List.set_cons_succ])
                (refine wpAnyH_take (i := 2) (v := ?_) rfl (by kernel_rfl) (by kernel_rfl) (by kernel_rfl) (fun _ _ _ h => h) (Or.inl ⟨by rfl, ?_⟩) (by assumption) ?_; rotate_left; focus (intro w hSw; (try dsimp only at hSw); go_simp; try with_reducible rfl))
                (try simp only [List.getElem_toArray, List.getElem_cons_succ, List.getElem_cons_zero, Act.put, List.setIfInBounds_toArray, List.set_cons_zero, List.set_cons_succ])
                (refine wpAnyH_take (i := 3) (v := ?_) rfl (by kernel_rfl) (by kernel_rfl) (by kernel_rfl) (fun _ _ _ h => h) (Or.inl ⟨by rfl, ?_⟩) (by assumption) ?_; rotate_left; focus (intro w hSw; (try dsimp only at hSw); go_simp; try with_reducible rfl))
                (try simp only [List.getElem_toArray, List.getElem_cons_succ, List.getElem_cons_zero, Act.put, List.setIfInBounds_toArray, List.set_cons_zero, List.set_cons_succ])
                (refine wpAnyH_take (i := 4) (v := ?_) rfl (by kernel_rfl) (by kernel_rfl) (by kernel_rfl) (fun _ _ _ h => h) (Or.inl ⟨by rfl, ?_⟩) (by assumption) ?_; rotate_left; focus (intro w hSw; (try dsimp only at hSw); go_simp; try with_reducible rfl))
                (try simp only [List.getElem_toArray, List.getElem_cons_succ, List.getElem_cons_zero, Act.put, List.setIfInBounds_toArray, List.set_cons_zero, List.set_cons_succ])
                (refine wpAnyH_take (i := 5) (v := ?_) rfl (by kernel_rfl) (by kernel_rfl) (by kernel_rfl) (fun _ _ _ h => h) (Or.inl ⟨by rfl, ?_⟩) (by assumption) ?_; rotate_left; focus (intro w hSw; (try dsimp only at hSw); go_simp; try with_reducible rfl))
                (try simp only [List.getElem_toArray, List.getElem_cons_succ, List.getElem_cons_zero, Act.put, List.setIfInBounds_toArray, List.set_cons_zero, List.set_cons_succ])
                (refine wpAnyH_take (i := 6) (v := ?_) rfl (by kernel_rfl) (by kernel_rfl) (by kernel_rfl) (fun _ _ _ h => h) (Or.inl ⟨by rfl, ?_⟩) (by assumption) ?_; rotate_left; focus (intro w hSw; (try dsimp only at hSw); go_simp; try with_reducible rfl))
                (try simp only [List.getElem_toArray, List.getElem_cons_succ, List.getElem_cons_zero, Act.put, List.setIfInBounds_toArray, List.set_cons_zero, List.set_cons_succ])
                (refine wpAnyH_take (i := 7) (v := ?_) rfl (by kernel_rfl) (by kernel_rfl) (by kernel_rfl) (fun _ _ _ h => h) (Or.inl ⟨by rfl, ?_⟩) (by assumption) ?_; rotate_left; focus (intro w hSw; (try dsimp only at hSw); go_simp; try with_reducible rfl))
                (try simp only [List.getElem_toArray, List.getElem_cons_succ, List.getElem_cons_zero, Act.put, List.setIfInBounds_toArray, List.set_cons_zero, List.set_cons_succ])
                (refine wpAnyH_take (i := 8) (v := ?_) rfl (by kernel_rfl) (by kernel_rfl) (by kernel_rfl) (fun _ _ _ h => h) (Or.inl ⟨by rfl, ?_⟩) (by assumption) ?_; rotate_left; focus (intro w hSw; (try dsimp only at hSw); go_simp; try with_reducible rfl))
                (try simp only [List.getElem_toArray, List.getElem_cons_succ, List.getElem_cons_zero, Act.put, List.setIfInBounds_toArray, List.set_cons_zero, List.set_cons_succ])
                (refine wpAnyH_take (i := 9) (v := ?_) rfl (by kernel_rfl) (by kernel_rfl) (by kernel_rfl) (fun _ _ _ h => h) (Or.inl ⟨by rfl, ?_⟩) (by assumption) ?_; rotate_left; focus (intro w hSw; (try dsimp only at hSw); go_simp; try with_reducible rfl))
                (try simp only [List.getElem_toArray, List.getElem_cons_succ, List.getElem_cons_zero, Act.put, List.setIfInBounds_toArray, List.set_cons_zero, List.set_cons_succ])
                refine wpAnyH_take (i := 10) rfl (by kernel_rfl) (by kernel_rfl) (by kernel_rfl) (fun _ _ _ h => h) (Or.inr ⟨by kernel_rfl, rfl⟩) (by assumption) ?_
                (try simp only [List.getElem_toArray, List.getElem_cons_succ, List.getElem_cons_zero, Act.put, List.setIfInBounds_toArray, List.set_cons_zero, List.set_cons_succ])
                refine wpAnyH_take (i := 11) rfl (by kernel_rfl) (by kernel_rfl) (by kernel_rfl) (fun _ _ _ h => h) (Or.inr ⟨by kernel_rfl, rfl⟩) (by assumption) ?_
                (try simp only [List.getElem_toArray, List.getElem_cons_succ, List.getElem_cons_zero, Act.put, List.setIfInBounds_toArray, List.set_cons_zero, List.set_cons_succ])
                refine wpAnyH_take (i := 12) rfl (by kernel_rfl) (by kernel_rfl) (by kernel_rfl) (fun _ _ _ h => h) (Or.inr ⟨by kernel_rfl, rfl⟩) (by assumption) ?_
                (try simp only [List.getElem_toArray, List.getElem_cons_succ, List.getElem_cons_zero, Act.put, List.setIfInBounds_toArray, List.set_cons_zero, List.set_cons_succ])
                refine wpAnyH_take (i := 13) rfl (by kernel_rfl) (by kernel_rfl) (by kernel_rfl) (fun _ _ _ h => h) (Or.inr ⟨by kernel_rfl, rfl⟩) (by assumption) ?_
                (try simp only [List.getElem_toArray, List.getElem_cons_succ, List.getElem_cons_zero, Act.put, List.setIfInBounds_toArray, List.set_cons_zero, List.set_cons_succ])
                refine wpAnyH_take (i := 14) rfl (by kernel_rfl) (by kernel_rfl) (by kernel_rfl) (fun _ _ _ h => h) (Or.inr ⟨by kernel_rfl, rfl⟩) (by assumption) ?_
                (try simp only [List.getElem_toArray, List.getElem_cons_succ, List.getElem_cons_zero, Act.put, List.setIfInBounds_toArray, List.set_cons_zero, List.set_cons_succ])
                refine wpAnyH_take (i := 15) rfl (by kernel_rfl) (by kernel_rfl) (by kernel_rfl) (fun _ _ _ h => h) (Or.inr ⟨by kernel_rfl, rfl⟩) (by assumption) ?_
                (try simp only [List.getElem_toArray, List.getElem_cons_succ, List.getElem_cons_zero, Act.put, List.setIfInBounds_toArray, List.set_cons_zero, List.set_cons_succ])
                refine wpAnyH_take (i := 16) rfl (by kernel_rfl) (by kernel_rfl) (by kernel_rfl) (fun _ _ _ h => h) (Or.inr ⟨by kernel_rfl, rfl⟩) (by assumption) ?_
                (try simp only [List.getElem_toArray, List.getElem_cons_succ, List.getElem_cons_zero, Act.put, List.setIfInBounds_toArray, List.set_cons_zero, List.set_cons_succ])
                refine wpAnyH_take (i := 17) rfl (by kernel_rfl) (by kernel_rfl) (by kernel_rfl) (fun _ _ _ h => h) (Or.inr ⟨by kernel_rfl, rfl⟩) (by assumption) ?_
                (try simp only [List.getElem_toArray, List.getElem_cons_succ, List.getElem_cons_zero, Act.put, List.setIfInBounds_toArray, List.set_cons_zero, List.set_cons_succ])
                refine wpAnyH_take (i := 18) rfl (by kernel_rfl) (by kernel_rfl) (by kernel_rfl) (fun _ _ _ h => h) (Or.inr ⟨by kernel_rfl, rfl⟩) (by assumption) ?_
                (try simp only [List.getElem_toArray, List.getElem_cons_succ, List.getElem_cons_zero, Act.put, List.setIfInBounds_toArray, List.set_cons_zero, List.set_cons_succ])
                refine wpAnyH_take (i := 19) rfl (by kernel_rfl) (by kernel_rfl) (by kernel_rfl) (fun _ _ _ h => h) (Or.inr ⟨by kernel_rfl, rfl⟩) (by assumption) ?_
                (try simp only [List.getElem_toArray, List.getElem_cons_succ, List.getElem_cons_zero, Act.put, List.setIfInBounds_toArray, List.set_cons_zero, List.set_cons_succ])
                refine wpAnyH_take (i := 20) rfl (by kernel_rfl) (by kernel_rfl) (by kernel_rfl) (fun _ _ _ h => h) (Or.inr ⟨by kernel_rfl, rfl⟩) (by assumption) ?_
                (try simp only [List.getElem_toArray, List.getElem_cons_succ, List.getElem_cons_zero, Act.put, List.setIfInBounds_toArray, List.set_cons_zero, List.set_cons_succ])
                (refine wpAnyH_take (i := 21) (v := ?_) rfl (by kernel_rfl) (by kernel_rfl) (by kernel_rfl) (fun _ _ _ h => h) (Or.inl ⟨by rfl, ?_⟩) (by assumption) ?_; rotate_left; focus (intro w hSw; (try dsimp only at hSw); go_simp; try with_reducible rfl))
                (try simp only [List.getElem_toArray, List.getElem_cons_succ, List.getElem_cons_zero, Act.put, List.setIfInBounds_toArray, List.set_cons_zero, List.set_cons_succ])
                (refine wpAnyH_take (i := 22) (v := ?_) rfl (by kernel_rfl) (by kernel_rfl) (by kernel_rfl) (fun _ _ _ h => h) (Or.inl ⟨by rfl, ?_⟩) (by assumption) ?_; rotate_left; focus (intro w hSw; (try dsimp only at hSw); go_simp; try with_reducible rfl))
                (try simp only [List.getElem_toArray, List.getElem_cons_succ, List.getElem_cons_zero, Act.put, List.setIfInBounds_toArray, List.set_cons_zero, List.set_cons_succ])
                refine wpAnyH_done (by kernel_rfl) ?_ _
                first | refine NoPanic.normal ?_ | skip
                rw [← hwx]
                clear hHeld x2 z2 hwx
                go_wp2
                go_roundw
                case rel => exact ⟨k + 1, (k : Int), hlt, by go_num, rfl, best_first HBS.out HSK.out, HS.out.far bx hBr, HB.out.trans (bx.mono hBr)⟩
                case measure => simp [intOf]; omega
              · obtain ⟨⟨u4, u5, u6⟩, ⟨p1, p2, p3⟩, -, y1', -⟩ := HCL.out n _ hsn
                simp only at p2 y1'
                obtain ⟨A4, c4, rfl, rd4', -, -⟩ := p2.slice
                have hln4 := HLN.out _ (List.mem_of_getElem? hsn)
                simp only at hln4
                have x2 : wr.drew.cell? ⟨g, k * 3 + 2, none⟩ = some (.bool false) := z2
                have x1 : wr.drew.cell? ⟨g, k * 3 + 1, none⟩ = some (.slice A2 s2.length c2) := z1
                have y1 : wr.drew.cell? ⟨g, n * 3 + 1, none⟩ = some (.slice A4 a4.length c4) := y1'
                have n0 : decide ((n : Int) < 0) = false := by rw [decide_eq_false_iff_not]; omega
                have n1 : (0 : Int) ≤ (n : Int) := by omega
                have n2 : (n : Int) < (S.length : Int) := by omega
                have HSN := Lib.hid hsn
                have rd4 : Reads wr.drew wr.drew.heap.size 1 A4 a4.length (ints a4) := rd4'
                have rd2x : Reads wr.drew wr.drew.heap.size 1 A2 s2.length (ints s2) := rd2
                have bx : Below wr.heap.size wr wr.drew := (Below.refl _ _).drew
                obtain ⟨lb, hlb⟩ : ∃ lb, lb = ltA s2 a4 := ⟨_, rfl⟩
                have HLB := Lib.hid hlb
                clear p1 p2 p3 y1' hsn rd4' hlb
                go_wp2
                first | refine wp_region_noPanic ?_ | skip
                refine wp_region_held_drew (S := fun w' => w'.cell? ⟨g, k * 3 + 2, none⟩ = some (.bool false) ∧ w'.cell? ⟨g, k * 3 + 1, none⟩ = some (.slice A2 s2.length c2) ∧ w'.cell? ⟨g, n * 3 + 1, none⟩ = some (.slice A4 a4.length c4)) (by kernel_rfl) (by exact ⟨x2, x1, y1⟩) (fun hHeld => ?_)
                (refine wpAnyH_take (i := 0) (v := ?_) rfl (by kernel_rfl) (by kernel_rfl) (by kernel_rfl) (fun _ _ _ h => h) (Or.inl ⟨by rfl, ?_⟩) (by assumption) ?_; rotate_left; focus (intro w hSw; (try dsimp only at hSw); go_simp; try with_reducible rfl))
                (try simp only [List.getElem_toArray, List.getElem_cons_succ, List.getElem_cons_zero, Act.put, List.setIfInBounds_toArray, List.set_cons_zero, List.set_cons_succ])
                (refine wpAnyH_take (i := 1) (v := ?_) rfl (by kernel_rfl) (by kernel_rfl) (by kernel_rfl) (fun _ _ _ h => h) (Or.inl ⟨by rfl, ?_⟩) (by assumption) ?_; rotate_left; focus (intro w hSw; (try dsimp only at hSw); go_simp; try with_reducible rfl))
                (try simp only [List.getElem_toArray, List.getElem_cons_succ, List.getElem_cons_zero, Act.put, List.setIfInBounds_toArray, List.set_cons_zero, List.set_cons_succ])
                (refine wpAnyH_take (i := 2) (v := ?_) rfl (by kernel_rfl) (by kernel_rfl) (by kernel_rfl) (fun _ _ _ h => h) (Or.inl ⟨by rfl, ?_⟩) (by assumption) ?_; rotate_left; focus (intro w hSw; (try dsimp only at hSw); go_simp; try with_reducible rfl))
                (try simp only [List.getElem_toArray, List.getElem_cons_succ, List.getElem_cons_zero, Act.put, List.setIfInBounds_toArray, List.set_cons_zero, List.set_cons_succ])
                (refine wpAnyH_take (i := 3) (v := ?_) rfl (by kernel_rfl) (by kernel_rfl) (by kernel_rfl) (fun _ _ _ h => h) (Or.inl ⟨by rfl, ?_⟩) (by assumption) ?_; rotate_left; focus (intro w hSw; (try dsimp only at hSw); go_simp; try with_reducible rfl))
                (try simp only [List.getElem_toArray, List.getElem_cons_succ, List.getElem_cons_zero, Act.put, List.setIfInBounds_toArray, List.set_cons_zero, List.set_cons_succ])
                (refine wpAnyH_take (i := 4) (v := ?_) rfl (by kernel_rfl) (by kernel_rfl) (by kernel_rfl) (fun _ _ _ h => h) (Or.inl ⟨by rfl, ?_⟩) (by assumption) ?_; rotate_left; focus (intro w hSw; (try dsimp only at hSw); go_simp; try with_reducible rfl))
                (try simp only [List.getElem_toArray, List.getElem_cons_succ, List.getElem_cons_zero, Act.put, List.setIfInBounds_toArray, List.set_cons_zero, List.set_cons_succ])
                (refine wpAnyH_take (i := 5) (v := ?_) rfl (by kernel_rfl) (by kernel_rfl) (by kernel_rfl) (fun _ _ _ h => h) (Or.inl ⟨by rfl, ?_⟩) (by assumption) ?_; rotate_left; focus (intro w hSw; (try dsimp only at hSw); go_simp; try with_reducible rfl))
                (try simp only [List.getElem_toArray, List.getElem_cons_succ, List.getElem_cons_zero, Act.put, List.setIfInBounds_toArray, List.set_cons_zero, List.set_cons_succ])
                (refine wpAnyH_take (i := 6) (v := ?_) rfl (by kernel_rfl) (by kernel_rfl) (by kernel_rfl) (fun _ _ _ h => h) (Or.inl ⟨by rfl, ?_⟩) (by assumption) ?_; rotate_left; focus (intro w hSw; (try dsimp only at hSw); go_simp; try with_reducible rfl))
                (try simp only [List.getElem_toArray, List.getElem_cons_succ, List.getElem_cons_zero, Act.put, List.setIfInBounds_toArray, List.set_cons_zero, List.set_cons_succ])
                (refine wpAnyH_take (i := 7) (v := ?_) rfl (by kernel_rfl) (by kernel_rfl) (by kernel_rfl) (fun _ _ _ h => h) (Or.inl ⟨by rfl, ?_⟩) (by assumption) ?_; rotate_left; focus (intro w hSw; (try dsimp only at hSw); go_simp; try with_reducible rfl))
                (try simp only [List.getElem_toArray, List.getElem_cons_succ, List.getElem_cons_zero, Act.put, List.setIfInBounds_toArray, List.set_cons_zero, List.set_cons_succ])
                (refine wpAnyH_take (i := 8) (v := ?_) rfl (by kernel_rfl) (by kernel_rfl) (by kernel_rfl) (fun _ _ _ h => h) (Or.inl ⟨by rfl, ?_⟩) (by assumption) ?_; rotate_left; focus (intro w hSw; (try dsimp only at hSw); go_simp; try with_reducible rfl))
                (try simp only [List.getElem_toArray, List.getElem_cons_succ, List.getElem_cons_zero, Act.put, List.setIfInBounds_toArray, List.set_cons_zero, List.set_cons_succ])
                (refine wpAnyH_take (i := 9) (v := ?_) rfl (by kernel_rfl) (by kernel_rfl) (by kernel_rfl) (fun _ _ _ h => h) (Or.inl ⟨by rfl, ?_⟩) (by assumption) ?_; rotate_left; focus (intro w hSw; (try dsimp only at hSw); go_simp; try with_reducible rfl))
                (try simp only [List.getElem_toArray, List.getElem_cons_succ, List.getElem_cons_zero, Act.put, List.setIfInBounds_toArray, List.set_cons_zero, List.set_cons_succ])
                (refine wpAnyH_take (i := 10) (v := ?_) rfl (by kernel_rfl) (by kernel_rfl) (by kernel_rfl) (fun _ _ _ h => h) (Or.inl ⟨by rfl, ?_⟩) (by assumption) ?_; rotate_left; focus (intro w hSw; (try dsimp only at hSw); go_simp; try with_reducible rfl))
                (try simp only [List.getElem_toArray, List.getElem_cons_succ, List.getElem_cons_zero, Act.put, List.setIfInBounds_toArray, List.set_cons_zero, List.set_cons_succ])
                (refine wpAnyH_take (i := 11) (v := ?_) rfl (by kernel_rfl) (by kernel_rfl) (by kernel_rfl) (fun _ _ _ h => h) (Or.inl ⟨by rfl, ?_⟩) (by assumption) ?_; rotate_left; focus (intro w hSw; (try dsimp only at hSw); go_simp; try with_reducible rfl))
                (try simp only [List.getElem_toArray, List.getElem_cons_succ, List.getElem_cons_zero, Act.put, List.setIfInBounds_toArray, List.set_cons_zero, List.set_cons_succ])
                (refine wpAnyH_take (i := 12) (v := ?_) rfl (by kernel_rfl) (by kernel_rfl) (by kernel_rfl) (fun _ _ _ h => h) (Or.inl ⟨by rfl, ?_⟩) (by assumption) ?_; rotate_left; focus (intro w hSw; (try dsimp only at hSw); go_simp; try with_reducible rfl))
                (try simp only [List.getElem_toArray, List.getElem_cons_succ, List.getElem_cons_zero, Act.put, List.setIfInBounds_toArray, List.set_cons_zero, List.set_cons_succ])
                (refine wpAnyH_take (i := 13) (v := ?_) rfl (by kernel_rfl) (by kernel_rfl) (by kernel_rfl) (fun _ _ _ h => h) (Or.inl ⟨by rfl, ?_⟩) (by assumption) ?_; rotate_left; focus (intro w hSw; (try dsimp only at hSw); go_simp; try with_reducible rfl))
                (try simp only [List.getElem_toArray, List.getElem_cons_succ, List.getElem_cons_zero, Act.put, List.setIfInBounds_toArray, List.set_cons_zero, List.set_cons_succ])
                (refine wpAnyH_take (i := 14) (v := ?_) rfl (by kernel_rfl) (by kernel_rfl) (by kernel_rfl) (fun _ _ _ h => h) (Or.inl ⟨by rfl, ?_⟩) (by assumption) ?_; rotate_left; focus (intro w hSw; (try dsimp only at hSw); go_simp; try with_reducible rfl))
                (try simp only [List.getElem_toArray, List.getElem_cons_succ, List.getElem_cons_zero, Act.put, List.setIfInBounds_toArray, List.set_cons_zero, List.set_cons_succ])
                (refine wpAnyH_take (i := 15) (v := ?_) rfl (by kernel_rfl) (by kernel_rfl) (by kernel_rfl) (fun _ _ _ h => h) (Or.inl ⟨by rfl, ?_⟩) (by assumption) ?_; rotate_left; focus (intro w hSw; (try dsimp only at hSw); go_simp; try with_reducible rfl))
                (try simp only [List.getElem_toArray, List.getElem_cons_succ, List.getElem_cons_zero, Act.put, List.setIfInBounds_toArray, List.set_cons_zero, List.set_cons_succ])
                (refine wpAnyH_take (i := 16) (v := ?_) rfl (by kernel_rfl) (by kernel_rfl) (by kernel_rfl) (fun _ _ _ h => h) (Or.inl ⟨by rfl, ?_⟩) (by assumption) ?_; rotate_left; focus (intro w hSw; (try dsimp only at hSw); go_simp; try with_reducible rfl))
                (try simp only [List.getElem_toArray, List.getElem_cons_succ, List.getElem_cons_zero, Act.put, List.setIfInBounds_toArray, List.set_cons_zero, List.set_cons_succ])
                (refine wpAnyH_take (i := 17) (v := ?_) rfl (by kernel_rfl) (by kernel_rfl) (by kernel_rfl) (fun _ _ _ h => h) (Or.inl ⟨by rfl, ?_⟩) (by assumption) ?_; rotate_left; focus (intro w hSw; (try dsimp only at hSw); go_simp; try with_reducible rfl))
                (try simp only [List.getElem_toArray, List.getElem_cons_succ, List.getElem_cons_zero, Act.put, List.setIfInBounds_toArray, List.set_cons_zero, List.set_cons_succ])
                (refine wpAnyH_take (i := 18) (v := ?_) rfl (by kernel_rfl) (by kernel_rfl) (by kernel_rfl) (fun _ _ _ h => h) (Or.inl ⟨by rfl, ?_⟩) (by assumption) ?_; rotate_left; focus (intro w hSw; (try dsimp only at hSw); go_simp; try with_reducible rfl))
                (try simp only [List.getElem_toArray, List.getElem_cons_succ, List.getElem_cons_zero, Act.put, List.setIfInBounds_toArray, List.set_cons_zero, List.set_cons_succ])
                (refine wpAnyH_take (i := 19) (v := ?_) rfl (by kernel_rfl) (by kernel_rfl) (by kernel_rfl) (fun _ _ _ h => h) (Or.inl ⟨by rfl, ?_⟩) (by assumption) ?_; rotate_left; focus (intro w hSw; (try dsimp only at hSw); go_simp; try with_reducible rfl))
                (try simp only [List.getElem_toArray, List.getElem_cons_succ, List.getElem_cons_zero, Act.put, List.setIfInBounds_toArray, List.set_cons_zero, List.set_cons_succ])
                refine wpAnyH_ready (rs := [20]) (by kernel_rfl) (by simp) ?_
                refine AllReadyH.cons rfl (fun K hK => ?_) AllReadyH.nil
                go_simp
                refine (spec_l22Before A2 A4 c2 c4 s2 a4 _ rd2x rd4 (by omega) (by omega)).mono ?_
                rw [← HLB.out]
                rintro e w5 ⟨rfl, b5⟩
                refine hK.out _ _ (⟨(b5.cell (p := ⟨g, k * 3 + 2, none⟩) hgl).trans x2, (b5.cell (p := ⟨g, k * 3 + 1, none⟩) hgl).trans x1, (b5.cell (p := ⟨g, n * 3 + 1, none⟩) hgl).trans y1⟩) (fun hHeld => ?_)
                clear hK K
                (try simp only [List.getElem_toArray, List.getElem_cons_succ, List.getElem_cons_zero, Act.put, List.setIfInBounds_toArray, List.set_cons_zero, List.set_cons_succ])
                (refine wpAnyH_take (i := 21) (v := ?_) rfl (by kernel_rfl) (by kernel_rfl) (by kernel_rfl) (fun _ _ _ h => h) (Or.inl ⟨by rfl, ?_⟩) (by assumption) ?_; rotate_left; focus (intro w hSw; (try dsimp only at hSw); go_simp; try with_reducible rfl))
                (try simp only [List.getElem_toArray, List.getElem_cons_succ, List.getElem_cons_zero, Act.put, List.setIfInBounds_toArray, List.set_cons_zero, List.set_cons_succ])
                (refine wpAnyH_take (i := 22) (v := ?_) rfl (by kernel_rfl) (by kernel_rfl) (by kernel_rfl) (fun _ _ _ h => h) (Or.inl ⟨by rfl, ?_⟩) (by assumption) ?_; rotate_left; focus (intro w hSw; (try dsimp only at hSw); go_simp; try with_reducible rfl))
                (try simp only [List.getElem_toArray, List.getElem_cons_succ, List.getElem_cons_zero, Act.put, List.setIfInBounds_toArray, List.set_cons_zero, List.set_cons_succ])
                refine wpAnyH_done (by kernel_rfl) ?_ _
                first | refine NoPanic.normal ?_ | skip
                have HS5 := Lib.hid (HS.out.far (bx.trans b5) hBr)
                have HB5 := Lib.hid (HB.out.trans ((bx.trans b5).mono hBr))
                clear hHeld x2 x1 y1 z2 z1 rd2 rd2x rd4 bx b5 n0 n1 n2
                cases lb with
                | true =>
                  go_wp2
                  go_roundw
                  case rel => exact ⟨k + 1, (k : Int), hlt, by go_num, rfl, best_other HBS.out HSN.out HSK.out HLB.out.symm, HS5.out, HB5.out⟩
                  case measure => simp [intOf]; omega
                | false =>
                  go_wp2
                  go_roundw
                  case rel => exact ⟨k + 1, (n : Int), hlt, by go_num, rfl, best_same HBS.out HSN.out HSK.out HLB.out.symm, HS5.out, HB5.out⟩
                  case measure => simp [intOf]; omega
          · obtain rfl : k = S.length := by omega
            rcases best_cases HBS.out with rfl | ⟨n, r, a, rfl, hn, hsn⟩
            · have HR := Lib.hid (search_none HI.out.srch (best_none HBS.out))
              have HA := Lib.hid (ambD_eq HR.out (by simp))
              have own0 : (wr.alloc (.cells #[] 3)).ownsRow w.heap.size 3 1 (.slice (some ⟨wr.heap.size, 0, none⟩) 0 0) 0 [] := World.ownsRow_made wr #[] 0 (by omega) (by simp) rfl
              have bF := HBW.out _ (HB.out.alloc (by omega) (.cells #[] 3))
              go_wp2
              go_ret
              refine ⟨_, rfl, ?_, ?_, bF⟩
              · rw [HA.out]; exact Own.of_row own0
              · rw [HA.out]; exact HR.out
            · obtain ⟨g, cc, hv, hg, hgl, hcap, hcm, hfr, hcell⟩ := HS.out.open_ (by omega)
              injection hv with hv1 hv0 hv2
              clear hv0
              subst hv1 hv2
              have HMIN := Lib.hid (best_min HBS.out hsn)
              have HSN := Lib.hid hsn
              have hal := HI.out.len _ (List.mem_of_getElem? hsn)
              have hln := HLN.out _ (List.mem_of_getElem? hsn)
              have HRCH := Lib.hid (HI.out.reach _ (List.mem_of_getElem? hsn))
              simp only at hal hln HRCH
              have HX := HS.out.set2 (b := true) hsn
              obtain ⟨c9, -, -, -, z2⟩ := hcell n _ hsn
              have f2 := hfr (n * 3 + 2)
              obtain ⟨w3, hw3⟩ : ∃ w3, w3 = wr.setCell ⟨g, n * 3 + 2, none⟩ (.bool true) := ⟨_, rfl⟩
              simp only at HX
              rw [← hw3] at HX
              have hB3 := HB.out.setCell (p := ⟨g, n * 3 + 2, none⟩) hg (.bool true)
              rw [← hw3] at hB3
              have hz3 := hB3.size
              have hBr3 : w.heap.size + 1 ≤ w3.heap.size := by omega
              obtain ⟨g', cc', hv', -, -, -, -, -, hcell3⟩ := HX.1.open_ (by rw [List.length_set]; omega)
              injection hv' with hv1 hx1 hx2
              clear hx1 hx2
              injection hv1 with hv1
              injection hv1 with hv1 hx3 hx4
              clear hx3 hx4
              subst hv1
              obtain ⟨⟨v1, v2, v3⟩, ⟨q1, q2, -⟩, y0', y1', -⟩ := hcell3 n (r, a, true) (by rw [List.getElem?_set]; simp; omega)
              simp only at q1 q2 y0' y1'
              obtain ⟨Ar, cr, rfl, -, hcr, hcrm⟩ := q1.slice
              obtain ⟨Aa, ca, rfl, -, -, -⟩ := q2.slice
              obtain ⟨wx, hwx⟩ : ∃ wx, wx = w3.drew := ⟨_, rfl⟩
              have bx : Below w3.heap.size w3 wx := by rw [hwx]; exact (Below.refl _ _).drew
              have SSX := Lib.hid (HX.1.far bx hBr3)
              have RRX := Lib.hid (q1.keep (Keep.of_below bx hBr3))
              have RAX := Lib.hid (q2.keep (Keep.of_below bx hBr3))
              have HBL := Lib.hid (hB3.trans (bx.mono hBr3))
              have hBx := Nat.le_trans hBr3 bx.size
              have y0 : w3.drew.cell? ⟨g, n * 3, none⟩ = some (.slice Ar r.length cr) := y0'
              have y1 : w3.drew.cell? ⟨g, n * 3 + 1, none⟩ = some (.slice Aa a.length ca) := y1'
              have n0 : ¬ ((n : Int) < 0) := by omega
              have n1 : (0 : Int) ≤ (n : Int) := by omega
              have n2 : (n : Int) < (S.length : Int) := by omega
              have HW3 := Lib.hid hw3
              have HWX := Lib.hid hwx
              clear hcell hfr hcell3 q1 q2 y0' y1' HX hsn hB3 bx hw3 hwx
              go_wp2
              rw [← HW3.out]
              first | refine wp_region_noPanic ?_ | skip
              refine wp_region_held_drew (S := fun w' => w'.cell? ⟨g, n * 3, none⟩ = some (.slice Ar r.length cr) ∧ w'.cell? ⟨g, n * 3 + 1, none⟩ = some (.slice Aa a.length ca)) (by kernel_rfl) (by exact ⟨y0, y1⟩) (fun hHeld => ?_)
              (refine wpAnyH_take (i := 0) (v := ?_) rfl (by kernel_rfl) (by kernel_rfl) (by kernel_rfl) (fun _ _ _ h => h) (Or.inl ⟨by rfl, ?_⟩) (by assumption) ?_; rotate_left; focus (intro w hSw; (try dsimp only at hSw); go_simp; try with_reducible rfl))
              (try simp only [List.getElem_toArray, List.getElem_cons_succ, List.getElem_cons_zero, Act.put, List.setIfInBounds_toArray, List.set_cons_zero, List.set_cons_succ])
              (refine wpAnyH_take (i := 1) (v := ?_) rfl (by kernel_rfl) (by kernel_rfl) (by kernel_rfl) (fun _ _ _ h => h) (Or.inl ⟨by rfl, ?_⟩) (by assumption) ?_; rotate_left; focus (intro w hSw; (try dsimp only at hSw); go_simp; try with_reducible rfl))
              (try simp only [List.getElem_toArray, List.getElem_cons_succ, List.getElem_cons_zero, Act.put, List.setIfInBounds_toArray, List.set_cons_zero, List.set_cons_succ])
              (refine wpAnyH_take (i := 2) (v := ?_) rfl (by kernel_rfl) (by kernel_rfl) (by kernel_rfl) (fun _ _ _ h => h) (Or.inl ⟨by rfl, ?_⟩) (by assumption) ?_; rotate_left; focus (intro w hSw; (try dsimp only at hSw); go_simp; try with_reducible rfl))
              (try simp only [List.getElem_toArray, List.getElem_cons_succ, List.getElem_cons_zero, Act.put, List.setIfInBounds_toArray, List.set_cons_zero, List.set_cons_succ])
              (refine wpAnyH_take (i := 3) (v := ?_) rfl (by kernel_rfl) (by kernel_rfl) (by kernel_rfl) (fun _ _ _ h => h) (Or.inl ⟨by rfl, ?_⟩) (by assumption) ?_; rotate_left; focus (intro w hSw; (try dsimp only at hSw); go_simp; try with_reducible rfl))
              (try simp only [List.getElem_toArray, List.getElem_cons_succ, List.getElem_cons_zero, Act.put, List.setIfInBounds_toArray, List.set_cons_zero, List.set_cons_succ])
              (refine wpAnyH_take (i := 4) (v := ?_) rfl (by kernel_rfl) (by kernel_rfl) (by kernel_rfl) (fun _ _ _ h => h) (Or.inl ⟨by rfl, ?_⟩) (by assumption) ?_; rotate_left; focus (intro w hSw; (try dsimp only at hSw); go_simp; try with_reducible rfl))
              (try simp only [List.getElem_toArray, List.getElem_cons_succ, List.getElem_cons_zero, Act.put, List.setIfInBounds_toArray, List.set_cons_zero, List.set_cons_succ])
              (refine wpAnyH_take (i := 5) (v := ?_) rfl (by kernel_rfl) (by kernel_rfl) (by kernel_rfl) (fun _ _ _ h => h) (Or.inl ⟨by rfl, ?_⟩) (by assumption) ?_; rotate_left; focus (intro w hSw; (try dsimp only at hSw); go_simp; try with_reducible rfl))
              (try simp only [List.getElem_toArray, List.getElem_cons_succ, List.getElem_cons_zero, Act.put, List.setIfInBounds_toArray, List.set_cons_zero, List.set_cons_succ])
              (refine wpAnyH_take (i := 6) (v := ?_) rfl (by kernel_rfl) (by kernel_rfl) (by kernel_rfl) (fun _ _ _ h => h) (Or.inl ⟨by rfl, ?_⟩) (by assumption) ?_; rotate_left; focus (intro w hSw; (try dsimp only at hSw); go_simp; try with_reducible rfl))
              (try simp only [List.getElem_toArray, List.getElem_cons_succ, List.getElem_cons_zero, Act.put, List.setIfInBounds_toArray, List.set_cons_zero, List.set_cons_succ])
              (refine wpAnyH_take (i := 7) (v := ?_) rfl (by kernel_rfl) (by kernel_rfl) (by kernel_rfl) (fun _ _ _ h => h) (Or.inl ⟨by rfl, ?_⟩) (by assumption) ?_; rotate_left; focus (intro w hSw; (try dsimp only at hSw); go_simp; try with_reducible rfl))
              (try simp only [List.getElem_toArray, List.getElem_cons_succ, List.getElem_cons_zero, Act.put, List.setIfInBounds_toArray, List.set_cons_zero, List.set_cons_succ])
              (refine wpAnyH_take (i := 8) (v := ?_) rfl (by kernel_rfl) (by kernel_rfl) (by kernel_rfl) (fun _ _ _ h => h) (Or.inl ⟨by rfl, ?_⟩) (by assumption) ?_; rotate_left; focus (intro w hSw; (try dsimp only at hSw); go_simp; try with_reducible rfl))
              (try simp only [List.getElem_toArray, List.getElem_cons_succ, List.getElem_cons_zero, Act.put, List.setIfInBounds_toArray, List.set_cons_zero, List.set_cons_succ])
              (refine wpAnyH_take (i := 9) (v := ?_) rfl (by kernel_rfl) (by kernel_rfl) (by kernel_rfl) (fun _ _ _ h => h) (Or.inl ⟨by rfl, ?_⟩) (by assumption) ?_; rotate_left; focus (intro w hSw; (try dsimp only at hSw); go_simp; try with_reducible rfl))
              (try simp only [List.getElem_toArray, List.getElem_cons_succ, List.getElem_cons_zero, Act.put, List.setIfInBounds_toArray, List.set_cons_zero, List.set_cons_succ])
              (refine wpAnyH_take (i := 10) (v := ?_) rfl (by kernel_rfl) (by kernel_rfl) (by kernel_rfl) (fun _ _ _ h => h) (Or.inl ⟨by rfl, ?_⟩) (by assumption) ?_; rotate_left; focus (intro w hSw; (try dsimp only at hSw); go_simp; try with_reducible rfl))
              (try simp only [List.getElem_toArray, List.getElem_cons_succ, List.getElem_cons_zero, Act.put, List.setIfInBounds_toArray, List.set_cons_zero, List.set_cons_succ])
              (refine wpAnyH_take (i := 11) (v := ?_) rfl (by kernel_rfl) (by kernel_rfl) (by kernel_rfl) (fun _ _ _ h => h) (Or.inl ⟨by rfl, ?_⟩) (by assumption) ?_; rotate_left; focus (intro w hSw; (try dsimp only at hSw); go_simp; try with_reducible rfl))
              (try simp only [List.getElem_toArray, List.getElem_cons_succ, List.getElem_cons_zero, Act.put, List.setIfInBounds_toArray, List.set_cons_zero, List.set_cons_succ])
              refine wpAnyH_done (by kernel_rfl) ?_ _
              first | refine NoPanic.normal ?_ | skip
              rw [← HWX.out]
              clear hHeld y0 y1 z2 f2 n0 n1 n2
              by_cases hr0 : r = []
              · have g0 : ((r.length : Int) == 0) = true := by rw [hr0]; rfl
                have HR := Lib.hid (search_found HI.out.srch (a := a) (by have := List.mem_of_getElem? HSN.out; rw [hr0] at this; exact this) HMIN.out)
                have HA := Lib.hid (ambD_eq HR.out (by omega))
                have bF := HBW.out _ HBL.out
                clear hr0
                go_wp2
                go_ret
                refine ⟨_, rfl, ?_, ?_, bF⟩
                · rw [HA.out]; exact Own.of_row (World.ownsRow.base RAX.out (by omega))
                · rw [HA.out]; exact HR.out
              · have hr1 := List.length_pos_iff.2 hr0
                have g0 : ((r.length : Int) == 0) = false := by rw [beq_eq_false_iff_ne]; omega
                obtain ⟨hi1, hd1, hle1⟩ := sinv_done HI.out HSN.out hr0 HMIN.out
                have HI1 := Lib.hid hi1
                have HD1 := Lib.hid hd1
                have HLE := Lib.hid (show ∀ r0 a0, (DS S r0 a0 ∨ (r0 = r ∧ a0 = a)) → leA a0 a from fun r0 a0 h => hle1 r0 a0 ((hd1 r0 a0).2 h))
                clear hi1 hd1 hle1 hr0
                go_wp2
                clear g0
                go_loopw [3, 12] (fun u i wr => ∃ (k : Nat) (S2 : List StD), k ≤ l.length ∧ i = .int .i64 k ∧ States (w.heap.size + 1) wr u S2 ∧ SInv (outsD l) S2 (fun r' a' => Due (outsD l) (DS S) r' a' ∨ StepQ l k r a r' a') (m + 1) ∧ (∀ r0 a0, DS S2 r0 a0 ↔ (DS S r0 a0 ∨ (r0 = r ∧ a0 = a))) ∧ RowV (w.heap.size + 1) wr (.slice Ar r.length cr) r ∧ RowV (w.heap.size + 1) wr (.slice Aa a.length ca) a ∧ Below (w.heap.size + 1) W1 wr) (fun _ i _ => l.length - (intOf i).toNat)
                case atStart => exact ⟨0, _, Nat.zero_le _, rfl, SSX.out, sinv_weaken HI1.out (fun r' a' h => h.resolve_right stepQ_zero), HD1.out, RRX.out, RAX.out, HBL.out⟩
                case round =>
                  clear SSX RRX RAX HBL HI1 HD1
                  obtain ⟨k, S2, hk, rfl, hS, hI2, hDS, hR, hA, hb⟩ := hrel
                  have SS := Lib.hid hS
                  have II := Lib.hid hI2
                  have DD := Lib.hid hDS
                  have RR := Lib.hid hR
                  have RA := Lib.hid hA
                  have HBL := Lib.hid hb
                  have hsz2 := (hI2.size HE.out HSIX.out).1
                  have HL2 := Lib.hid (show ∀ s ∈ S2, s.1.length ≤ 1048576 ∧ s.2.1.length ≤ 1048576 from fun s hs => by have := sinv_lens II.out HE.out HSIX.out s hs; omega)
                  have hbz := hb.size
                  have hB4 : w.heap.size + 1 ≤ wr.heap.size := by omega
                  have cP := HBX.out _ hb
                  clear hS hI2 hDS hR hA hb
                  by_cases hlt : k < l.length
                  · obtain ⟨⟨o, t⟩, hx⟩ := some_at l hlt
                    have hol := dict_out HV.out hx
                    simp only at hol
                    have HX := Lib.hid hx
                    obtain ⟨bD, oD, rfl, hb0, hc⟩ := (HRT.out _ HBL.out) (by omega)
                    obtain ⟨ao, co, cD1, -, r1, hco, hcom⟩ := DictR.at_ hc hx
                    obtain ⟨bo, oo, rfl, hbo, -⟩ := r1.2 (by omega)
                    have HRO := Lib.hid (show ∀ W', Below (w.heap.size + 1) W1 W' → Reads W' W'.heap.size 1 (some ⟨bo, oo, none⟩) o.length (ints o) from fun W' hb' => (r1.keep (fun x hx => (hb'.cell (p := x) (by omega)).trans (HBL.out.cell (p := x) (by omega)).symm)).more (by have := hb'.size; omega))
                    obtain ⟨Ar', cr', hvr, rdr, -, -⟩ := RR.out.slice
                    injection hvr with hvr1 _ hvr2
                    subst hvr1 hvr2
                    obtain ⟨br, orr, hAr, -, -⟩ := rdr.2 (by omega)
                    subst hAr
                    have i0 : (0 : Int) ≤ (k : Int) := by omega
                    have i1 : (k : Int) < (l.length : Int) := by omega
                    clear r1 hc hx hbo hb0
                    go_wp2_with fail
                    refine (spec_l4Begins (some ⟨br, orr, none⟩) (some ⟨bo, oo, none⟩) cr co r o _ rdr (HRO.out _ HBL.out) (by omega) (by omega) hcr hcrm).mono ?_
                    rintro e w5 ⟨rfl, b5⟩
                    have SS5 := Lib.hid (SS.out.far b5 hB4)
                    have RR5 := Lib.hid (RR.out.keep (Keep.of_below b5 hB4))
                    have RA5 := Lib.hid (RA.out.keep (Keep.of_below b5 hB4))
                    have HBL5 := Lib.hid (HBL.out.trans (b5.mono hB4))
                    have hB5 := Nat.le_trans hB4 b5.size
                    clear cP cD1 i0 i1 rdr b5 SS RR RA HBL
                    by_cases h1 : beginsB r o = true
                    · rw [h1]
                      have hle := begins_leN h1
                      obtain ⟨ys, hys⟩ : ∃ ys, ys = r.drop o.length := ⟨_, rfl⟩
                      have hyl : ys.length = r.length - o.length := by rw [hys, List.length_drop]
                      have HST := Lib.hid (show stepO (o, t).1 r a = some (ys, a) by unfold stepO; simp only; rw [if_pos h1, ← hys])
                      have l0 : (0 : Int) ≤ (o.length : Int) := by omega
                      have l1 : (o.length : Int) ≤ (r.length : Int) := by omega
                      have HYS := Lib.hid hys
                      clear hys h1
                      by_cases hce : cr = o.length
                      · subst hce
                        have hy0 : ys = [] := List.eq_nil_of_length_eq_zero (by omega)
                        subst hy0
                        go_wp2_with fail
                        refine (spec_l22Join none (some ⟨br, orr, none⟩) 0 0 [] [] _ Reads.none_ Reads.none_ (by simp) (by simp)).mono ?_
                        rintro e w6 ⟨v6, rfl, o6, b6⟩
                        have hB6 := Nat.le_trans hB5 b6.size
                        have SV6 := Lib.hid (show w6.ownsRow (w.heap.size + 1) 3 1 v6 ([] : List Int).length (ints []) from o6.1.base hB5)
                        have SS6 := Lib.hid (SS5.out.far b6 hB5)
                        have RR6 := Lib.hid (RR5.out.keep (Keep.of_below b6 hB5))
                        have RA6 := Lib.hid (RA5.out.keep (Keep.of_below b6 hB5))
                        have HBL6 := Lib.hid (HBL5.out.trans (b6.mono hB5))
                        clear o6 b6
                        go_wp2_with fail
                        refine (spec_l22Put (w.heap.size + 1) _ v6 (.slice Aa a.length ca) S2 [] a _ SS6.out hB6 SV6.out RA6.out (by omega) HL2.out (by simp) (by omega)).mono ?_
                        rintro e w8 ⟨v8, rfl, s8, k8⟩
                        have HP := sinv_put II.out (.step HRCH.out (outs_mem HX.out) HST.out) (by omega) (fun r0 a0 h0 => HLE.out r0 a0 ((DD.out r0 a0).1 h0))
                        have HS8 := Lib.hid s8
                        have HI8 := Lib.hid HP.1
                        have HD8 := Lib.hid (fun r0 a0 => (HP.2 r0 a0).trans (DD.out r0 a0))
                        have HBL8 := Lib.hid (HBL6.out.trans k8.below)
                        have RR8 := Lib.hid (RR6.out.keep k8)
                        have RA8 := Lib.hid (RA6.out.keep k8)
                        clear s8 k8 HP
                        go_wp2
                        go_roundw
                        case rel => exact ⟨k + 1, _, by omega, by go_num, HS8.out, sinv_weaken HI8.out (fun r' a' h => h.elim (fun h => .inl (.inl h)) (fun h => (stepQ_next HX.out HST.out h).elim (fun h => .inl (.inr h)) .inr)), HD8.out, RR8.out, RA8.out, HBL8.out⟩
                        case measure => simp [intOf]; omega
                      · have HRY := Lib.hid (show Reads w5 w5.heap.size 1 (some ⟨br, orr + o.length, none⟩) ys.length (ints ys) by
                          rw [hyl, HYS.out, ints_drop]
                          obtain ⟨A9, c9, hv9, rd9, -, -⟩ := RR5.out.slice
                          injection hv9 with e1 _ e2
                          subst e1
                          exact reads_suffix rd9 (by omega))
                        go_wp2_with fail
                        rw [← hyl]
                        refine (spec_l22Join none (some ⟨br, orr + o.length, none⟩) 0 (cr - o.length) [] ys _ Reads.none_ HRY.out (by simp) (by omega)).mono ?_
                        rintro e w6 ⟨v6, rfl, o6, b6⟩
                        have hB6 := Nat.le_trans hB5 b6.size
                        have SV6 := Lib.hid (show w6.ownsRow (w.heap.size + 1) 3 1 v6 ys.length (ints ys) from o6.1.base hB5)
                        have SS6 := Lib.hid (SS5.out.far b6 hB5)
                        have RR6 := Lib.hid (RR5.out.keep (Keep.of_below b6 hB5))
                        have RA6 := Lib.hid (RA5.out.keep (Keep.of_below b6 hB5))
                        have HBL6 := Lib.hid (HBL5.out.trans (b6.mono hB5))
                        clear o6 b6 HRY
                        go_wp2_with fail
                        refine (spec_l22Put (w.heap.size + 1) _ v6 (.slice Aa a.length ca) S2 ys a _ SS6.out hB6 SV6.out RA6.out (by omega) HL2.out (by omega) (by omega)).mono ?_
                        rintro e w8 ⟨v8, rfl, s8, k8⟩
                        have HP := sinv_put II.out (.step HRCH.out (outs_mem HX.out) HST.out) (by omega) (fun r0 a0 h0 => HLE.out r0 a0 ((DD.out r0 a0).1 h0))
                        have HS8 := Lib.hid s8
                        have HI8 := Lib.hid HP.1
                        have HD8 := Lib.hid (fun r0 a0 => (HP.2 r0 a0).trans (DD.out r0 a0))
                        have HBL8 := Lib.hid (HBL6.out.trans k8.below)
                        have RR8 := Lib.hid (RR6.out.keep k8)
                        have RA8 := Lib.hid (RA6.out.keep k8)
                        clear s8 k8 HP
                        go_wp2
                        go_roundw
                        case rel => exact ⟨k + 1, _, by omega, by go_num, HS8.out, sinv_weaken HI8.out (fun r' a' h => h.elim (fun h => .inl (.inl h)) (fun h => (stepQ_next HX.out HST.out h).elim (fun h => .inl (.inr h)) .inr)), HD8.out, RR8.out, RA8.out, HBL8.out⟩
                        case measure => simp [intOf]; omega
                    · have h1' : beginsB r o = false := by simpa using h1
                      have HN1 := Lib.hid h1
                      rw [h1']
                      clear h1 h1'
                      go_wp2_with fail
                      refine (spec_l4Begins (some ⟨bo, oo, none⟩) (some ⟨br, orr, none⟩) co cr o r _ (HRO.out _ HBL5.out) (by obtain ⟨A9, c9, hv9, rd9, -, -⟩ := RR5.out.slice; injection hv9 with e1 _ e2; subst e1; exact rd9) (by omega) (by omega) hco hcom).mono ?_
                      rintro e w7 ⟨rfl, b7⟩
                      have SS7 := Lib.hid (SS5.out.far b7 hB5)
                      have RR7 := Lib.hid (RR5.out.keep (Keep.of_below b7 hB5))
                      have RA7 := Lib.hid (RA5.out.keep (Keep.of_below b7 hB5))
                      have HBL7 := Lib.hid (HBL5.out.trans (b7.mono hB5))
                      have hB7 := Nat.le_trans hB5 b7.size
                      clear b7 SS5 RR5 RA5 HBL5
                      by_cases h2 : beginsB o r = true
                      · rw [h2]
                        have hle := begins_leN h2
                        have hlt3 : r.length < o.length := by
                          obtain ⟨x, hx⟩ := begins_iff.1 h2
                          cases x with
                          | nil =>
                            rw [List.append_nil] at hx
                            exact absurd (begins_iff.2 ⟨[], by rw [hx, List.append_nil]⟩) HN1.out
                          | cons y x => rw [hx]; simp
                        obtain ⟨ys, hys⟩ : ∃ ys, ys = o.drop r.length := ⟨_, rfl⟩
                        have hyl : ys.length = o.length - r.length := by rw [hys, List.length_drop]
                        have HST := Lib.hid (show stepO (o, t).1 r a = some (ys, a ++ ys) by unfold stepO; simp only; rw [if_neg HN1.out, if_pos h2, ← hys])
                        obtain ⟨w7d, hw7d⟩ : ∃ x, x = w7.drew := ⟨_, rfl⟩
                        have bd : Below w7.heap.size w7 w7d := by rw [hw7d]; exact (Below.refl _ _).drew
                        have SS7 := Lib.hid (SS7.out.far bd hB7)
                        have RR7 := Lib.hid (RR7.out.keep (Keep.of_below bd hB7))
                        have RA7 := Lib.hid (RA7.out.keep (Keep.of_below bd hB7))
                        have HBL7 := Lib.hid (HBL7.out.trans (bd.mono hB7))
                        have hB7 := Nat.le_trans hB7 bd.size
                        have HW7 := Lib.hid hw7d
                        clear hw7d bd
                        have HRY := Lib.hid (show Reads w7d w7d.heap.size 1 (some ⟨bo, oo + r.length, none⟩) ys.length (ints ys) by
                          rw [hyl, hys, ints_drop]
                          exact reads_suffix (HRO.out w7d HBL7.out) (by omega))
                        have l0 : (0 : Int) ≤ (r.length : Int) := by omega
                        have l1 : (r.length : Int) ≤ (o.length : Int) := by omega
                        have hne : ¬ co = r.length := by omega
                        clear hys h2
                        go_wp2
                        first | refine wp_region_noPanic ?_ | skip
                        refine wp_region_held_drew (S := fun _ => True) (by kernel_rfl) (by exact trivial) (fun hHeld => ?_)
                        (refine wpAnyH_take (i := 0) (v := ?_) rfl (by kernel_rfl) (by kernel_rfl) (by kernel_rfl) (fun _ _ _ h => h) (Or.inl ⟨by rfl, ?_⟩) (by assumption) ?_; rotate_left; focus (intro w hSw; (try dsimp only at hSw); go_simp; try with_reducible rfl))
                        (try simp only [List.getElem_toArray, List.getElem_cons_succ, List.getElem_cons_zero, Act.put, List.setIfInBounds_toArray, List.set_cons_zero, List.set_cons_succ])
                        (refine wpAnyH_take (i := 1) (v := ?_) rfl (by kernel_rfl) (by kernel_rfl) (by kernel_rfl) (fun _ _ _ h => h) (Or.inl ⟨by rfl, ?_⟩) (by assumption) ?_; rotate_left; focus (intro w hSw; (try dsimp only at hSw); go_simp; try with_reducible rfl))
                        (try simp only [List.getElem_toArray, List.getElem_cons_succ, List.getElem_cons_zero, Act.put, List.setIfInBounds_toArray, List.set_cons_zero, List.set_cons_succ])
                        (refine wpAnyH_take (i := 2) (v := ?_) rfl (by kernel_rfl) (by kernel_rfl) (by kernel_rfl) (fun _ _ _ h => h) (Or.inl ⟨by rfl, ?_⟩) (by assumption) ?_; rotate_left; focus (intro w hSw; (try dsimp only at hSw); go_simp; try with_reducible rfl))
                        (try simp only [List.getElem_toArray, List.getElem_cons_succ, List.getElem_cons_zero, Act.put, List.setIfInBounds_toArray, List.set_cons_zero, List.set_cons_succ])
                        (refine wpAnyH_take (i := 3) (v := ?_) rfl (by kernel_rfl) (by kernel_rfl) (by kernel_rfl) (fun _ _ _ h => h) (Or.inl ⟨by rfl, ?_⟩) (by assumption) ?_; rotate_left; focus (intro w hSw; (try dsimp only at hSw); go_simp; try with_reducible rfl))
                        (try simp only [List.getElem_toArray, List.getElem_cons_succ, List.getElem_cons_zero, Act.put, List.setIfInBounds_toArray, List.set_cons_zero, List.set_cons_succ])
                        (refine wpAnyH_take (i := 4) (v := ?_) rfl (by kernel_rfl) (by kernel_rfl) (by kernel_rfl) (fun _ _ _ h => h) (Or.inl ⟨by rfl, ?_⟩) (by assumption) ?_; rotate_left; focus (intro w hSw; (try dsimp only at hSw); go_simp; try with_reducible rfl))
                        (try simp only [List.getElem_toArray, List.getElem_cons_succ, List.getElem_cons_zero, Act.put, List.setIfInBounds_toArray, List.set_cons_zero, List.set_cons_succ])
                        (refine wpAnyH_take (i := 6) (v := ?_) rfl (by kernel_rfl) (by kernel_rfl) (by kernel_rfl) (fun _ _ _ h => h) (Or.inl ⟨by rfl, ?_⟩) (by assumption) ?_; rotate_left; focus (intro w hSw; (try dsimp only at hSw); go_simp; try with_reducible rfl))
                        (try simp only [List.getElem_toArray, List.getElem_cons_succ, List.getElem_cons_zero, Act.put, List.setIfInBounds_toArray, List.set_cons_zero, List.set_cons_succ])
                        (refine wpAnyH_take (i := 7) (v := ?_) rfl (by kernel_rfl) (by kernel_rfl) (by kernel_rfl) (fun _ _ _ h => h) (Or.inl ⟨by rfl, ?_⟩) (by assumption) ?_; rotate_left; focus (intro w hSw; (try dsimp only at hSw); go_simp; try with_reducible rfl))
                        (try simp only [List.getElem_toArray, List.getElem_cons_succ, List.getElem_cons_zero, Act.put, List.setIfInBounds_toArray, List.set_cons_zero, List.set_cons_succ])
                        (refine wpAnyH_take (i := 8) (v := ?_) rfl (by kernel_rfl) (by kernel_rfl) (by kernel_rfl) (fun _ _ _ h => h) (Or.inl ⟨by rfl, ?_⟩) (by assumption) ?_; rotate_left; focus (intro w hSw; (try dsimp only at hSw); go_simp; try with_reducible rfl))
                        (try simp only [List.getElem_toArray, List.getElem_cons_succ, List.getElem_cons_zero, Act.put, List.setIfInBounds_toArray, List.set_cons_zero, List.set_cons_succ])
                        (refine wpAnyH_take (i := 9) (v := ?_) rfl (by kernel_rfl) (by kernel_rfl) (by kernel_rfl) (fun _ _ _ h => h) (Or.inl ⟨by rfl, ?_⟩) (by assumption) ?_; rotate_left; focus (intro w hSw; (try dsimp only at hSw); go_simp; try with_reducible rfl))
                        (try simp only [List.getElem_toArray, List.getElem_cons_succ, List.getElem_cons_zero, Act.put, List.setIfInBounds_toArray, List.set_cons_zero, List.set_cons_succ])
                        (refine wpAnyH_take (i := 10) (v := ?_) rfl (by kernel_rfl) (by kernel_rfl) (by kernel_rfl) (fun _ _ _ h => h) (Or.inl ⟨by rfl, ?_⟩) (by assumption) ?_; rotate_left; focus (intro w hSw; (try dsimp only at hSw); go_simp; try with_reducible rfl))
                        (try simp only [List.getElem_toArray, List.getElem_cons_succ, List.getElem_cons_zero, Act.put, List.setIfInBounds_toArray, List.set_cons_zero, List.set_cons_succ])
                        refine wpAnyH_ready (rs := [5]) (by kernel_rfl) (by simp) ?_
                        refine AllReadyH.cons rfl (fun K hK => ?_) AllReadyH.nil
                        go_simp
                        rw [← HW7.out]
                        rw [← hyl]
                        refine (spec_l22Join none (some ⟨bo, oo + r.length, none⟩) 0 (co - r.length) [] ys _ Reads.none_ HRY.out (by simp) (by omega)).mono ?_
                        rintro e w5 ⟨v5, rfl, o5, b5⟩
                        have SA5 := Lib.hid (RA7.out.keep (Keep.of_below b5 hB7))
                        have SY5 := Lib.hid ((HRY.out.below b5).more b5.size)
                        refine hK.out _ _ (trivial) (fun hHeld => ?_)
                        clear hK K
                        (try simp only [List.getElem_toArray, List.getElem_cons_succ, List.getElem_cons_zero, Act.put, List.setIfInBounds_toArray, List.set_cons_zero, List.set_cons_succ])
                        refine wpAnyH_ready (rs := [11]) (by kernel_rfl) (by simp) ?_
                        refine AllReadyH.cons rfl (fun K hK => ?_) AllReadyH.nil
                        go_simp
                        rw [← hyl]
                        obtain ⟨A9, c9, hv9, rd9, -, -⟩ := SA5.out.slice
                        injection hv9 with hw1 _ hw2
                        subst hw1 hw2
                        refine (spec_l22Join Aa (some ⟨bo, oo + r.length, none⟩) ca (co - r.length) a ys _ rd9 SY5.out (by omega) (by omega)).mono ?_
                        rintro e w6 ⟨v6, rfl, o6, b6⟩
                        have hB5 := Nat.le_trans hB7 b5.size
                        have hB6 := Nat.le_trans hB5 b6.size
                        have SV5 := Lib.hid ((RowV.keep (B := w.heap.size + 1) (show w5.ownsRow (w.heap.size + 1) 3 1 v5 ys.length (ints ys) from o5.1.base (by omega)) (Keep.of_below b6 hB5)))
                        have SV6 := Lib.hid (show w6.ownsRow (w.heap.size + 1) 3 1 v6 (a ++ ys).length (ints (a ++ ys)) from o6.1.base (by omega))
                        have SS6 := Lib.hid ((SS7.out.far b5 hB7).far b6 hB5)
                        have HBL6 := Lib.hid ((HBL7.out.trans (b5.mono hB7)).trans (b6.mono hB5))
                        have RR6 := Lib.hid ((RR7.out.keep (Keep.of_below b5 hB7)).keep (Keep.of_below b6 hB5))
                        have RA6 := Lib.hid (SA5.out.keep (Keep.of_below b6 hB5))
                        refine hK.out _ _ (trivial) (fun hHeld => ?_)
                        clear hK K
                        (try simp only [List.getElem_toArray, List.getElem_cons_succ, List.getElem_cons_zero, Act.put, List.setIfInBounds_toArray, List.set_cons_zero, List.set_cons_succ])
                        refine wpAnyH_ready (rs := [12]) (by kernel_rfl) (by simp) ?_
                        refine AllReadyH.cons rfl (fun K hK => ?_) AllReadyH.nil
                        go_simp
                        refine (spec_l22Put (w.heap.size + 1) _ v5 v6 S2 ys (a ++ ys) _ SS6.out hB6 SV5.out SV6.out (by omega) HL2.out (by omega) (by simp; omega)).mono ?_
                        rintro e w8 ⟨v8, rfl, s8, k8⟩
                        refine hK.out _ _ (trivial) (fun hHeld => ?_)
                        clear hK K
                        (try simp only [List.getElem_toArray, List.getElem_cons_succ, List.getElem_cons_zero, Act.put, List.setIfInBounds_toArray, List.set_cons_zero, List.set_cons_succ])
                        (refine wpAnyH_take (i := 13) (v := ?_) rfl (by kernel_rfl) (by kernel_rfl) (by kernel_rfl) (fun _ _ _ h => h) (Or.inl ⟨by rfl, ?_⟩) (by assumption) ?_; rotate_left; focus (intro w hSw; (try dsimp only at hSw); go_simp; try with_reducible rfl))
                        (try simp only [List.getElem_toArray, List.getElem_cons_succ, List.getElem_cons_zero, Act.put, List.setIfInBounds_toArray, List.set_cons_zero, List.set_cons_succ])
                        refine wpAnyH_done (by kernel_rfl) ?_ _
                        first | refine NoPanic.normal ?_ | skip
                        have HP := sinv_put II.out (.step HRCH.out (outs_mem HX.out) HST.out) (by simp; omega) (fun r0 a0 h0 => leA_trans (HLE.out r0 a0 ((DD.out r0 a0).1 h0)) (stepO_grow HST.out))
                        have HS8 := Lib.hid s8
                        have HI8 := Lib.hid HP.1
                        have HD8 := Lib.hid (fun r0 a0 => (HP.2 r0 a0).trans (DD.out r0 a0))
                        have HBL8 := Lib.hid (HBL6.out.trans k8.below)
                        have RR8 := Lib.hid (RR6.out.keep k8)
                        have RA8 := Lib.hid (RA6.out.keep k8)
                        clear s8 k8 HP hHeld
                        go_wp2
                        go_roundw
                        case rel => exact ⟨k + 1, _, by omega, by go_num, HS8.out, sinv_weaken HI8.out (fun r' a' h => h.elim (fun h => .inl (.inl h)) (fun h => (stepQ_next HX.out HST.out h).elim (fun h => .inl (.inr h)) .inr)), HD8.out, RR8.out, RA8.out, HBL8.out⟩
                        case measure => simp [intOf]; omega
                      · have h2' : beginsB o r = false := by simpa using h2
                        rw [h2']
                        have HST := Lib.hid (show stepO (o, t).1 r a = none by unfold stepO; simp only; rw [if_neg HN1.out, if_neg h2])
                        clear h2 h2'
                        go_wp2
                        go_roundw
                        case rel => exact ⟨k + 1, S2, by omega, by go_num, SS7.out, sinv_weaken II.out (fun r' a' h => h.elim .inl (fun h => .inr (stepQ_miss HX.out HST.out h))), DD.out, RR7.out, RA7.out, HBL7.out⟩
                        case measure => simp [intOf]; omega
                  · obtain rfl : k = l.length := by omega
                    go_wp2
                    go_roundg (281 - (m + 1))
                    case measure => omega
                    case rel => exact ⟨S2, m + 1, rfl, SS.out, sinv_weaken II.out (fun r' a' h => stepQ_due (fun r0 a0 h0 => (DD.out r0 a0).1 h0) h), HBL.out⟩
end Go.Proofs.YtekidodfcanjaaaGreatDoor
