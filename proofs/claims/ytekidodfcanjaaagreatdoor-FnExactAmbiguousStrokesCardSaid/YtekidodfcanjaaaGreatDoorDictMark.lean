/-
  The laws' marks in dictionaries.
-/
import Derived.Test.YtekidodfcanjaaaGreatDoorDictOwn
namespace Go.Proofs.YtekidodfcanjaaaGreatDoor
open Go.RowKit
set_option linter.unusedVariables false
set_option maxRecDepth 100000

def totalM (l : List EntD) : Nat := (l.map fun c => c.1.length + 1).sum
theorem totalM_take {l : List EntD} {k : Nat} {c : EntD} (h : l[k]? = some c) : totalM (l.take (k + 1)) = totalM (l.take k) + (c.1.length + 1) := by
  rw [List.take_add_one, h]
  simp [totalM]
theorem totalM_take_le (l : List EntD) (j : Nat) : totalM (l.take j) ≤ totalM l := by
  have h : totalM l = totalM (l.take j) + totalM (l.drop j) := by
    unfold totalM
    rw [← List.sum_append, ← List.map_append, List.take_append_drop]
  omega
theorem totalM_small {l : List EntD} (h : SmallD l 1048576) : totalM l ≤ 2097152 := by
  have h1 : totalM l ≤ totalD l + l.length := by
    clear h
    induction l with
    | nil => simp [totalM]
    | cons c l ih =>
      simp only [totalM, totalD, List.map_cons, List.sum_cons, List.length_cons] at *
      omega
  unfold SmallD at h
  omega
set_option maxHeartbeats 4000000 in
theorem markEntryS_calls (lo hi : Nat) (v : Value) (l : List EntD) (k0 : Nat) (w : World) (h : OwnD w lo hi v l) (hk0 : 0 < k0) (hk1 : k0 + totalM l ≤ 4000000000) (hn : l.length ≤ 1048576) :
    Calls Tryz.prog 47 #[v, .int .i64 k0] w fun e w' => e = .returned (.int .i64 ((k0 + totalM l : Nat) : Int)) ∧ Only lo hi w w' := by
  obtain ⟨us, o0, r0, hlt0⟩ := h
  obtain ⟨A, cap, rfl, -, hnc, hcm⟩ := o0.slice
  unfold maxLen at hcm
  have HLT := Lib.hid hlt0
  have hul : us.length = l.length := by rw [r0.len]; simp
  have HUL := Lib.hid hul
  clear hlt0
  go_enter Tryz.func47, Tryz.ntmps47
  go_wp2
  go_loopw [1, 5] (fun kv i wr => ∃ (k : Nat) (ps : List (Value × Value)) (rows : List (List Int)), k ≤ l.length ∧ i = .int .i64 k ∧ kv = .int .i64 ((k0 + totalM (l.take k) : Nat) : Int) ∧ ps.length = l.length ∧ (∀ (j : Nat) u, us[j]? = some u → ∃ x, ps[j]? = some (u, x)) ∧ Own wr lo hi 50 2 (.slice A l.length cap) l.length (flat2 ps) ∧ RowsAt wr lo us rows ∧ (∀ (j : Nat) c, l[j]? = some c → ∃ r, rows[j]? = some r ∧ r.length = c.1.length) ∧ Only lo hi w wr)
    (fun _ i _ => l.length - (intOf i).toNat)
  case atStart =>
    refine ⟨0, headsP us l, l.map (·.1), Nat.zero_le _, rfl, by simp [totalM], headsP_length hul, fun j u hu => ?_, o0, r0, fun j c hc => ⟨c.1, by simp [hc], rfl⟩, Only.refl _⟩
    obtain ⟨c, hc⟩ := some_at l (show j < l.length by rw [← hul]; exact (List.getElem?_eq_some_iff.1 hu).1)
    exact ⟨_, headsP_at hu hc⟩
  case round =>
    obtain ⟨k, ps, rows, hk, rfl, rfl, hpl, hps, hown, hrows, hrl, ho⟩ := hrel
    by_cases hlt : k < l.length
    · obtain ⟨g, cap', hv, hg1, hg2, hg3, -, -, hc, hf⟩ := hown.open_ (by omega)
      simp only [Value.slice.injEq, true_and] at hv
      obtain ⟨rfl, rfl⟩ := hv
      obtain ⟨⟨o, t⟩, hx⟩ := some_at l hlt
      obtain ⟨r, hr, hrlen⟩ := hrl k _ hx
      simp only at hrlen
      obtain ⟨u, hu, hru⟩ := hrows.at_ hr
      obtain ⟨x, hpx⟩ := hps k u hu
      obtain ⟨cu, cx⟩ := hown.pair hpx
      simp only at cu cx
      obtain ⟨a, hta, hta2, hta3⟩ := row_tight hru
      obtain ⟨Au, cu', hu', -, -, -⟩ := (Own.of_row hru).slice
      have hub := HLT.out u (List.mem_of_getElem? hu)
      have hlb : ∀ g, u.ownBlock = some g → lo ≤ g := fun g hg => (hru.lt g hg).1
      have hwid : (lo ≤ a ∧ a < hi) ∨ a = wr.heap.size := by
        rcases hta3 with h1 | h1
        · exact .inl ⟨hlb a h1, hub a h1⟩
        · exact .inr h1
      have hga : g < a ∨ a + 1 ≤ g := by
        rcases hta3 with h1 | h1
        · have := rows_apart hru hown.1 (by decide) a h1
          have hne : g ≠ a := fun e => this (by rw [e]; rfl)
          omega
        · omega
      have htk := totalM_take hx
      simp only at htk
      have htl := totalM_take_le l (k + 1)
      have HR := Lib.hid hr
      have HU := Lib.hid hu
      have HX := Lib.hid hx
      have HTK := Lib.hid htk
      have hm1 : k0 + totalM (l.take k) + r.length < 4000000000 := by omega
      have HRL := Lib.hid hrl
      have HPS := Lib.hid hps
      have HPL := Lib.hid hpl
      have HPX := Lib.hid hpx
      have HOL := Lib.hid hrlen
      subst hu'
      generalize hT : k0 + totalM (l.take k) = T at *
      have HT0 := Lib.hid hT
      clear hc hf hr hu hx htk hrl hps hpl hpx hT hrlen htl
      have hT0 : 0 < T := by have := HT0.out; omega
      go_wp2_with fail
      refine (markIntS_calls a (a + 1) _ r.length (ints r) _ _ hta (by omega) (by omega)).mono ?_
      rintro e w1 ⟨rfl, o1, ho1⟩
      have hown1 : Own w1 lo hi 50 2 (.slice (some ⟨g, 0, none⟩) l.length cap) l.length (flat2 ps) := ⟨ownsRow_only hown.1 ho1 (fun g' hg' => by simp only [Value.ownBlock, Option.some.injEq] at hg'; omega), hown.2⟩
      have hrows1 := hrows.set_ HU.out HR.out (r' := marks (T : Int) r.length) (by rw [marks_length]) ho1 hta2 hta3 o1
      have ho2 := ho.trans (only_widen ho1 hwid)
      rw [show ((T : Nat) : Int) + (r.length : Int) = ((T + r.length : Nat) : Int) by omega]
      go_wp2_with fail
      refine (markText_calls (T + r.length) _ (by omega) (by omega)).mono ?_
      rintro e w2 ⟨rfl, b2⟩
      have hown2 := hown1.below b2
      have hrows2 := hrows1.below b2
      obtain ⟨d0, d1⟩ := hown2.pair HPX.out
      simp only at d0 d1
      have f1 : w2.frozen? ⟨g, k * 2 + 1, none⟩ = false := hown2.1.frozenAt _
      have hs1 := ho1.size
      have hs2 := b2.size
      clear d0
      go_wp2
      go_roundw
      case rel =>
        have ho3 : Only lo hi w (w2.setCell ⟨g, k * 2 + 1, none⟩ (.string (mtext (T + r.length)))) := (ho2.trans (Only.of_below b2)).setCell hg1 hg2 _
        have ho4 : Only g (g + 1) w2 (w2.setCell ⟨g, k * 2 + 1, none⟩ (.string (mtext (T + r.length)))) := (Only.refl _).setCell (p := ⟨g, k * 2 + 1, none⟩) (Nat.le_refl _) (by simp) _
        refine ⟨k + 1, ps.set k (.slice Au r.length cu', .string (mtext (T + r.length))), rows.set k (marks (T : Int) r.length), by omega, by go_num, by rw [HTK.out, ← HOL.out, ← Nat.add_assoc, HT0.out]; go_num, by simp [HPL.out], fun j u hu => ?_, ?_, ?_, fun j c hc => ?_, ho3⟩
        · by_cases hj : j = k
          · subst hj
            rw [HU.out] at hu
            rw [← Option.some.inj hu]
            exact ⟨_, List.getElem?_set_self (by rw [HPL.out]; exact hlt)⟩
          · rw [List.getElem?_set_ne (fun e => hj e.symm)]
            exact HPS.out j u hu
        · rw [← flat2_set2 HPX.out]
          exact hown2.set_ (k * 2 + 1) _
        · refine ⟨hrows2.len, fun j x y hx hy => ?_, hrows2.apart⟩
          exact ownsRow_only (hrows2.row j x y hx hy) ho4 (fun g' hg => by
            have h5 := rows_apart (hrows2.row j x y hx hy) hown2.1 (by decide) g' hg
            have hne : g' ≠ g := fun e => h5 (by rw [e]; rfl)
            omega)
        · by_cases hj : j = k
          · subst hj
            obtain ⟨q, hq, hql⟩ := HRL.out j c hc
            rw [HR.out] at hq
            have : q = r := (Option.some.inj hq).symm
            subst this
            exact ⟨_, List.getElem?_set_self (List.getElem?_eq_some_iff.1 HR.out).1, by rw [marks_length]; exact hql⟩
          · rw [List.getElem?_set_ne (fun e => hj e.symm)]
            exact HRL.out j c hc
      case measure => simp [intOf]; omega
    · obtain rfl : k = l.length := by omega
      go_wp2
      go_ret
      exact ⟨ret_int (by rw [List.take_of_length_le (Nat.le_refl _)]), ho⟩
theorem markDictionary_calls (lo hi : Nat) (v : Value) (l : List EntD) (k0 : Nat) (w : World) (h : OwnD w lo hi v l) (hk0 : 0 < k0) (hk1 : k0 + totalM l ≤ 4000000000) (hn : l.length ≤ 1048576) :
    Calls Tryz.prog 14 #[.agg #[v], .int .i64 k0] w fun e w' => e = .returned (.int .i64 ((k0 + totalM l : Nat) : Int)) ∧ Only lo hi w w' := by
  obtain ⟨A, cap, rfl, -, hnc, hcm⟩ := h.slice
  have hb0 : Below w.heap.size w (w.alloc (.cells #[.slice A l.length cap] 31)) := (Below.refl _ _).alloc (Nat.le_refl _) _
  go_enter Tryz.func14, Tryz.ntmps14
  go_wp2_with fail
  refine (markEntryS_calls lo hi _ l k0 _ (h.below hb0) hk0 hk1 hn).mono ?_
  rintro e w1 ⟨rfl, ho⟩
  go_wp2
  go_ret
  exact ⟨rfl, (Only.of_below hb0).trans ho⟩
end Go.Proofs.YtekidodfcanjaaaGreatDoor
