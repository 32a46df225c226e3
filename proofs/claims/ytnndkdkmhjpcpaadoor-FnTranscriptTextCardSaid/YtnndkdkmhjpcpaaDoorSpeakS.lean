/-
  The reference's SpeakerWords.
-/
import Derived.Test.YtnndkdkmhjpcpaaDoorSpeakPl
import Derived.Test.YtnndkdkmhjpcpaaDoorIns
import Derived.Test.YtnndkdkmhjpcpaaDoorConcS
import Derived.Test.YtnndkdkmhjpcpaaDoorInts
import Derived.Test.YtnndkdkmhjpcpaaDoorRowsSS
namespace Go.Proofs.YtnndkdkmhjpcpaaDoor
open Go.RowKit
set_option linter.unusedVariables false
set_option linter.unusedSimpArgs false
set_option maxRecDepth 100000

/-- The speakers, and how many words each said. -/
def spkN (l : List TurnD) : List ByteArray := if transB l then namesL l else []
def spkC (l : List TurnD) : List Int := if transB l then saysL (namesL l) l else []
theorem spkC_len (l : List TurnD) : (spkC l).length = (spkN l).length := by unfold spkC spkN; split <;> simp [says_len]
theorem spkN_len (l : List TurnD) : (spkN l).length ≤ 30 := by
  unfold spkN
  split
  · next h => exact Nat.le_trans (names_len l) (trans_len h)
  · simp
def SpeakRes (l : List TurnD) (w : World) (e : Ending) (w' : World) : Prop :=
  ∃ v u, e = .returned (.tuple #[v, u, .bool (transB l)]) ∧ Own w' w.heap.size w'.heap.size 9 1 v (spkN l).length (strsV (spkN l)) ∧ Own w' w.heap.size w'.heap.size 3 1 u (spkC l).length (ints (spkC l)) ∧ Below w.heap.size w w'
theorem speak_no {l : List TurnD} {w w' : World} (h : transB l = false) (hb : Below w.heap.size w w') : SpeakRes l w (.returned (.tuple #[.slice none 0 0, .slice none 0 0, .bool false])) w' :=
  ⟨_, _, by rw [h], by rw [spkN, h]; exact Own.none_, by rw [spkC, h]; exact Own.none_, hb⟩
/-- Two rows of different types, each in a block of its own. -/
theorem own_tight {w : World} {lo hi size n : Nat} {e : TypeId} {v : Value} {xs : List Value} (h : Own w lo hi e size v n xs) : ∃ a, lo ≤ a ∧ Own w a (a + 1) e size v n xs ∧ (v.ownBlock = some a ∨ v.ownBlock = none) := by
  rcases h.1.2 with ⟨rfl, rfl⟩ | ⟨g, cap, cur, rfl, hb, hh, h1, h2, h3, h4⟩
  · have h0 : xs = [] := List.eq_nil_of_length_eq_zero (by simpa using h.1.1)
    subst h0
    exact ⟨lo, Nat.le_refl _, Own.none_, .inr rfl⟩
  · exact ⟨g, hb, ⟨⟨h.1.1, .inr ⟨g, cap, cur, rfl, Nat.le_refl _, hh, h1, h2, h3, h4⟩⟩, fun x hx => by simp [Value.ownBlock] at hx; omega⟩, .inl rfl⟩
theorem own_two {w : World} {lo hi s1 s2 n1 n2 : Nat} {e1 e2 : TypeId} {v1 v2 : Value} {xs1 xs2 : List Value} (h1 : Own w lo hi e1 s1 v1 n1 xs1) (h2 : Own w lo hi e2 s2 v2 n2 xs2) (hne : e1 ≠ e2) :
    ∃ a b, Own w a (a + 1) e1 s1 v1 n1 xs1 ∧ Own w b (b + 1) e2 s2 v2 n2 xs2 ∧ lo ≤ a ∧ lo ≤ b ∧ (a + 1 ≤ b ∨ b + 1 ≤ a) := by
  obtain ⟨a, ha, oa, ca⟩ := own_tight h1
  obtain ⟨b, hb, ob, cb⟩ := own_tight h2
  have free : ∀ {x : Value} {e : TypeId} {s n : Nat} {xs : List Value} {a : Nat}, x.ownBlock = none → Own w a (a + 1) e s x n xs → ∀ c, Own w c (c + 1) e s x n xs := by
    intro x e s n xs a hx h c
    rcases h.1.2 with ⟨rfl, rfl⟩ | ⟨g, cap, cur, rfl, _⟩
    · have h0 : xs = [] := List.eq_nil_of_length_eq_zero (by simpa using h.1.1)
      subst h0
      exact Own.none_
    · simp [Value.ownBlock] at hx
  rcases ca with ca | ca
  · rcases cb with cb | cb
    · have := rows_apart oa.1 ob.1 hne a ca
      rw [cb] at this
      exact ⟨a, b, oa, ob, ha, hb, by
        rcases Nat.lt_trichotomy a b with h | h | h
        · omega
        · subst h; exact absurd rfl this
        · omega⟩
    · exact ⟨a, a + 1, oa, free cb ob _, ha, by omega, by omega⟩
  · exact ⟨b + 1, b, free ca oa _, ob, by omega, hb, by omega⟩
theorem ints_set (xs : List Int) (j : Nat) (x : Int) : (ints xs).set j (.int .i64 x) = ints (xs.set j x) := by simp [ints]
theorem strsV_ins (l : List ByteArray) (p : Nat) (s : ByteArray) : strsV (l.take p ++ [s] ++ l.drop p) = (strsV l).take p ++ [.string s] ++ (strsV l).drop p := by simp [strsV]
theorem ints_ins (l : List Int) (p : Nat) (s : Int) : ints (l.take p ++ [s] ++ l.drop p) = (ints l).take p ++ [.int .i64 s] ++ (ints l).drop p := by simp [ints]
theorem strs_one : ∀ l : List ByteArray, ∀ u ∈ strsV l, u.oneCell' = true := fun l u hu => by obtain ⟨z, _, rfl⟩ := List.mem_map.1 hu; rfl
theorem ints_one : ∀ l : List Int, ∀ u ∈ ints l, u.oneCell' = true := fun l u hu => by obtain ⟨z, _, rfl⟩ := List.mem_map.1 hu; rfl

set_option maxHeartbeats 8000000 in
theorem spec_SpeakerWords (A : Option Addr) (cap : Nat) (l : List TurnD) (w : World) (hr : Reads w w.heap.size 2 A l.length (turnsV l)) (hn : l.length ≤ 1048576) (ht : ShortT l) :
    Calls Tryd.prog 26 #[.agg #[.slice A l.length cap]] w (SpeakRes l w) := by
  have HT := Lib.hid ht
  clear ht
  obtain ⟨W1, hW1⟩ : ∃ W1, W1 = w.alloc (.cells #[.slice A l.length cap] 26) := ⟨_, rfl⟩
  have hb1 : Below w.heap.size w W1 := by rw [hW1]; exact (Below.refl _ _).alloc (Nat.le_refl _) _
  have bP : Box W1 w.heap.size 26 (.slice A l.length cap) := by rw [hW1]; exact Box.new w _ _
  cases hv : transB l
  · have HV := Lib.hid hv
    go_enter Tryd.func26, Tryd.ntmps26
    go_wp2_with fail
    rw [← hW1]
    clear hW1
    refine (spec_IsValidTranscript A cap l _ ((hr.below hb1).more hb1.size) (by omega) HT.out).mono ?_
    rw [hv]
    clear hv
    rintro e w3 ⟨rfl, b3⟩
    go_wp2
    go_ret3
    exact speak_no HV.out (hb1.trans (b3.mono hb1.size))
  have HV := Lib.hid hv
  go_enter Tryd.func26, Tryd.ntmps26
  go_wp2_with fail
  rw [← hW1]
  clear hW1
  refine (spec_IsValidTranscript A cap l _ ((hr.below hb1).more hb1.size) (by omega) HT.out).mono ?_
  rw [hv]
  clear hv
  rintro e w3 ⟨rfl, b3⟩
  have bP3 := bP.far b3
  have B3 := hb1.trans (b3.mono hb1.size)
  clear bP
  have h30 := trans_len HV.out
  have s3 : w.heap.size + 1 ≤ w3.heap.size := bP3.lt
  have on0 : ((w3.alloc (.cells #[] 9)).alloc (.cells #[] 3)).ownsRow (w.heap.size + 1) 9 1 (.slice (some ⟨w3.heap.size, 0, none⟩) 0 0) 0 [] := (World.ownsRow_made _ _ _ s3 (by simp) rfl).alloc _
  have oc0 : ((w3.alloc (.cells #[] 9)).alloc (.cells #[] 3)).ownsRow (w.heap.size + 1) 3 1 (.slice (some ⟨w3.heap.size + 1, 0, none⟩) 0 0) 0 [] := by
    have := World.ownsRow_made (base := w.heap.size + 1) (e := 3) (size := 1) (w3.alloc (.cells #[] 9)) #[] 0 (by simp; omega) (by simp) rfl
    simpa using this
  have bP4 := (bP3.alloc (.cells #[] 9)).alloc (.cells #[] 3)
  have B4 := (B3.alloc B3.size (.cells #[] 9)).alloc (by simp; omega) (.cells #[] 3)
  have HOT := Lib.hid (strs_one)
  have HOI := Lib.hid (ints_one)
  clear bP3 B3 b3 hb1
  go_wp2
  go_loopg [5, 6, 7] (l.length) (fun n v u i wr => ∃ k : Nat, n = l.length - k ∧ k ≤ l.length ∧ i = .int .i64 k ∧ (∃ g c, v = .slice (some ⟨g, 0, none⟩) (namesL (l.take k)).length c ∧ (namesL (l.take k)).length ≤ c ∧ c ≤ maxLen ∧ wr.ownsRow (w.heap.size + 1) 9 1 v (namesL (l.take k)).length (strsV (namesL (l.take k)))) ∧ (∃ g c, u = .slice (some ⟨g, 0, none⟩) (saysL (namesL (l.take k)) (l.take k)).length c ∧ (saysL (namesL (l.take k)) (l.take k)).length ≤ c ∧ c ≤ maxLen ∧ wr.ownsRow (w.heap.size + 1) 3 1 u (saysL (namesL (l.take k)) (l.take k)).length (ints (saysL (namesL (l.take k)) (l.take k)))) ∧ Box wr w.heap.size 26 (.slice A l.length cap) ∧ Below w.heap.size w wr)
  case atStart => exact ⟨0, rfl, Nat.zero_le _, rfl, ⟨_, 0, rfl, Nat.le_refl _, by simp, on0⟩, ⟨_, 0, rfl, Nat.le_refl _, by simp, oc0⟩, bP4, B4⟩
  case round =>
    clear on0 oc0 bP4 B4
    obtain ⟨k, hgk, hk, rfl, ⟨gn, cn, rfl, hcn, hmn, own⟩, ⟨gc, cc, rfl, hcc, hmc, cwn⟩, bP, hb⟩ := hrel
    have cP := bP.cell
    have sz : w.heap.size + 1 ≤ wr.heap.size := bP.lt
    by_cases hlt : k < l.length
    · obtain ⟨b, off, hA, hb0, hc⟩ := (hr.below hb).2 (by omega)
      subst hA
      obtain ⟨⟨sp, tx⟩, hx⟩ := some_at l hlt
      obtain ⟨c1, c2⟩ := Reads.turn hc hx
      have htx := turn_text HV.out hx
      simp only at htx c1 c2
      have hts := HT.out _ (List.mem_of_getElem? hx)
      simp only at hts
      obtain ⟨-, hts⟩ := hts
      have hsp : sp.size ≤ 1048576 := by have := speaker_len HV.out (List.mem_of_getElem? hx); simp only at this; omega
      obtain ⟨hwl, -⟩ := text_len htx
      have HNX := Lib.hid (names_next hx)
      have HTX := Lib.hid htx
      have HX := Lib.hid hx
      have hsl := said_le HV.out sp k hk
      have hnl : (namesL (l.take k)).length ≤ 30 := Nat.le_trans (names_len _) (by simp; omega)
      have HSR := Lib.hid (srt_names (l.take k))
      have HSZ := Lib.hid (show ∀ x ∈ namesL (l.take k), x.size ≤ 1048576 from fun x hx => by
        obtain ⟨c, hc, rfl⟩ := List.mem_map.1 (mem_names.1 hx)
        have := speaker_len HV.out (List.mem_of_mem_take hc)
        omega)
      have hcl := says_len (namesL (l.take k)) (l.take k)
      have HCS := Lib.hid (rfl : saysL (namesL (l.take k)) (l.take k) = saysL (namesL (l.take k)) (l.take k))
      have hpl := placeB_le (namesL (l.take k)) sp
      have HSI := Lib.hid (fun h => says_ins (l := l) (k := k) (s := sp) h)
      have i0 : (0 : Int) ≤ (k : Int) := by omega
      have i1 : (k : Int) < (l.length : Int) := by omega
      clear hx hc htx
      obtain ⟨ns, hns⟩ : ∃ ns, ns = namesL (l.take k) := ⟨_, rfl⟩
      rw [← hns] at own hcn hcl hnl hpl HSR HSZ HCS hcc cwn HSI HNX ⊢
      obtain ⟨cs, hcs⟩ : ∃ cs, cs = saysL ns (l.take k) := ⟨_, rfl⟩
      rw [← hcs] at hcl HCS hcc cwn HSI ⊢
      rw [hcl] at hcc cwn ⊢
      have HNS := Lib.hid hns
      have HCE := Lib.hid hcs
      have HLE := Lib.hid hcl
      clear hns hcs hcl HCS
      go_wp2_with fail
      refine (spec_l21Place _ cn ns sp _ (Reads.of_own own) (by omega) HSZ.out hsp).mono ?_
      rintro e w4 ⟨rfl, b4⟩
      have own4 := row_below own b4
      have cwn4 := row_below cwn b4
      have bP4 := bP.far b4
      have B4 := hb.trans (b4.mono hb.size)
      have HINS : insB ns sp = if ns[placeB ns sp]? = some sp then ns else ns.take (placeB ns sp) ++ [sp] ++ ns.drop (placeB ns sp) := rfl
      have HIN := Lib.hid HINS
      clear HINS
      have HIA := Lib.hid (ins_at (ns := ns) (s := sp))
      have HSI2 := Lib.hid (fun h => HSI.out h)
      obtain ⟨p, hp⟩ : ∃ p, p = placeB ns sp := ⟨_, rfl⟩
      rw [← hp] at hpl HIN HIA HSI2 ⊢
      have HP := Lib.hid hp
      clear hp HSI
      have hlo := (own4.lt gn rfl).1
      have hz4 : w.heap.size + 1 ≤ w4.heap.size := bP4.lt
      have hlc := (cwn4.lt gc rfl).1
      have hbo : b < w.heap.size := hb0
      have c14 := ((b4.cell (p := ⟨b, off + k * 2 + 1, none⟩) (by show b < _; omega))).trans c2
      clear b4 own cwn bP hb cP c1 c2
      have p0 : (0 : Int) ≤ (p : Int) := by omega
      have p1 : (p : Int) ≤ (cn : Int) := by omega
      have p2 : (p : Int) ≤ (ns.length : Int) := by omega
      have p3 : (p : Int) ≤ (cc : Int) := by omega
      obtain ⟨bt, hbt⟩ : ∃ bt, bt = !decide (ns[p]? = some sp) := ⟨_, rfl⟩
      have HBT := Lib.hid hbt
      clear hbt
      go_upto_region 9 with fail
      go_cut [42] from 15 to 81 (fun c wx => c = .bool bt ∧ wx = w4)
      case first =>
        by_cases hpe : p = ns.length
        · have q1 : ((p : Int) == (ns.length : Int)) = true := by simp [hpe]
          go_wp2
          go_meet
          exact ⟨by rw [HBT.out, hpe]; simp, rfl⟩
        · have q1 : ((p : Int) == (ns.length : Int)) = false := by simp; omega
          have q2 : (p : Int) < (ns.length : Int) := by omega
          obtain ⟨x, hx⟩ := some_at ns (show p < ns.length by omega)
          have cx : w4.cell? ⟨gn, p, none⟩ = some (.string x) := (own4.cellAt p (by omega)).trans (strsV_at hx)
          have HXX := Lib.hid hx
          clear hx
          by_cases he : x = sp
          · subst he
            go_wp2
            go_meet
            exact ⟨by rw [HBT.out, HXX.out]; simp, rfl⟩
          · have hne := str_other he
            have HE := Lib.hid he
            clear he
            go_wp2
            go_meet
            exact ⟨by rw [HBT.out, HXX.out]; simp [HE.out], rfl⟩
      case rest =>
      obtain ⟨rfl, hw4⟩ := hcut
      subst wc
      go_upto_if 42 with fail
      go_cut [5, 6] from 15 to 81 (fun v u wx => ∃ gn cn gc cc, v = .slice (some ⟨gn, 0, none⟩) (insB ns sp).length cn ∧ (insB ns sp).length ≤ cn ∧ cn ≤ maxLen ∧ u = .slice (some ⟨gc, 0, none⟩) (insB ns sp).length cc ∧ (insB ns sp).length ≤ cc ∧ cc ≤ maxLen ∧ wx.ownsRow (w.heap.size + 1) 9 1 v (insB ns sp).length (strsV (insB ns sp)) ∧ wx.ownsRow (w.heap.size + 1) 3 1 u (insB ns sp).length (ints (saysL (insB ns sp) (l.take k))) ∧ Below w4.heap.size w4 wx)
      case first =>
        cases hbt : bt
        · have hsame : insB ns sp = ns := by rw [HIN.out, if_pos (by have := HBT.out; rw [hbt] at this; simpa using this.symm)]
          have HS := Lib.hid hsame
          clear hsame hbt
          go_wp2
          go_meet
          exact ⟨gn, cn, gc, cc, by rw [HS.out], by rw [HS.out]; exact hcn, hmn, by rw [HS.out], by rw [HS.out]; exact hcc, hmc, by rw [HS.out]; exact own4, by rw [HS.out, ← HCE.out]; exact cwn4, Below.refl _ _⟩
        · have hno : ¬ ns[p]? = some sp := by have := HBT.out; rw [hbt] at this; simpa using this.symm
          have hnew : insB ns sp = ns.take p ++ [sp] ++ ns.drop p := by rw [HIN.out, if_neg hno]
          have hnew2 : saysL (insB ns sp) (l.take k) = cs.take p ++ [0] ++ cs.drop p := HSI2.out hno
          have HN := Lib.hid hnew
          have HN2 := Lib.hid hnew2
          clear hno hnew hnew2 hbt
          have hlen : (insB ns sp).length = ns.length + 1 := by rw [HN.out]; simp; omega
          have HLEN := Lib.hid hlen
          clear hlen
          have HHD := Lib.hid (row_head own4 hpl)
          have HTL := Lib.hid (row_tail own4 hpl)
          have HC1 := Lib.hid (cell_one (HOT.out ns) p)
          have insL : ∀ y ∈ [Value.string sp], y.oneCell' = true := fun y hy => by obtain rfl := List.mem_singleton.1 hy; rfl
          have SB0 := Below.refl w4.heap.size w4
          have HR9 := Lib.hid hr
          clear hr
          go_upto_region 10 with fail
          go_cut [5] from 15 to 81 (fun v wx => wx.ownsRow w4.heap.size 9 1 v (ns.length + 1) (strsV (insB ns sp)) ∧ Below w4.heap.size w4 wx)
          case first =>
            first | refine wp_region_noPanic ?_ | skip
            refine wp_region_held_drew (S := fun w' => Below w4.heap.size w4 w') (by kernel_rfl) (by exact SB0.drew) (fun hHeld => ?_)
            (refine wpAnyH_take (i := 1) (v := ?_) rfl (by kernel_rfl) (by kernel_rfl) (by kernel_rfl) (fun _ _ _ h => h) (Or.inl ⟨by rfl, ?_⟩) (by assumption) ?_; rotate_left; focus (intro w hSw; (try dsimp only at hSw); go_simp; try with_reducible rfl))
            (try simp only [List.getElem_toArray, List.getElem_cons_succ, List.getElem_cons_zero, Act.put, List.setIfInBounds_toArray, List.set_cons_zero, List.set_cons_succ])
            (refine wpAnyH_take (i := 2) (v := ?_) rfl (by kernel_rfl) (by kernel_rfl) (by kernel_rfl) (fun _ _ _ h => h) (Or.inl ⟨by rfl, ?_⟩) (by assumption) ?_; rotate_left; focus (intro w hSw; (try dsimp only at hSw); go_simp; try with_reducible rfl))
            (try simp only [List.getElem_toArray, List.getElem_cons_succ, List.getElem_cons_zero, Act.put, List.setIfInBounds_toArray, List.set_cons_zero, List.set_cons_succ])
            (refine wpAnyH_take (i := 5) (v := ?_) rfl (by kernel_rfl) (by kernel_rfl) (by kernel_rfl) (fun _ _ _ h => h) (Or.inl ⟨by rfl, ?_⟩) (by assumption) ?_; rotate_left; focus (intro w hSw; (try dsimp only at hSw); go_simp; try with_reducible rfl))
            (try simp only [List.getElem_toArray, List.getElem_cons_succ, List.getElem_cons_zero, Act.put, List.setIfInBounds_toArray, List.set_cons_zero, List.set_cons_succ])
            (refine wpAnyH_take (i := 8) (v := ?_) rfl (by kernel_rfl) (by kernel_rfl) (by kernel_rfl) (fun _ _ _ h => h) (Or.inl ⟨by rfl, ?_⟩) (by assumption) ?_; rotate_left; focus (intro w hSw; (try dsimp only at hSw); go_simp; try with_reducible rfl))
            (try simp only [List.getElem_toArray, List.getElem_cons_succ, List.getElem_cons_zero, Act.put, List.setIfInBounds_toArray, List.set_cons_zero, List.set_cons_succ])
            (refine wpAnyH_take (i := 9) (v := ?_) rfl (by kernel_rfl) (by kernel_rfl) (by kernel_rfl) (fun _ _ _ h => h) (Or.inl ⟨by rfl, ?_⟩) (by assumption) ?_; rotate_left; focus (intro w hSw; (try dsimp only at hSw); go_simp; try with_reducible rfl))
            (try simp only [List.getElem_toArray, List.getElem_cons_succ, List.getElem_cons_zero, Act.put, List.setIfInBounds_toArray, List.set_cons_zero, List.set_cons_succ])
            (refine wpAnyH_take (i := 3) (v := ?_) rfl (by kernel_rfl) (by kernel_rfl) (by kernel_rfl) (fun _ _ _ h => h) (Or.inl ⟨by rfl, ?_⟩) (by assumption) ?_; rotate_left; focus (intro w hSw; (try dsimp only at hSw); go_simp; try with_reducible rfl))
            (try simp only [List.getElem_toArray, List.getElem_cons_succ, List.getElem_cons_zero, Act.put, List.setIfInBounds_toArray, List.set_cons_zero, List.set_cons_succ])
            (refine wpAnyH_take (i := 10) (v := ?_) rfl (by kernel_rfl) (by kernel_rfl) (by kernel_rfl) (fun _ _ _ h => h) (Or.inl ⟨by rfl, ?_⟩) (by assumption) ?_; rotate_left; focus (intro w hSw; (try dsimp only at hSw); go_simp; try with_reducible rfl))
            (try simp only [List.getElem_toArray, List.getElem_cons_succ, List.getElem_cons_zero, Act.put, List.setIfInBounds_toArray, List.set_cons_zero, List.set_cons_succ])
            have SD : Below w4.heap.size w4 w4.drew := SB0.drew
            refine wpAnyH_ready (rs := [0, 6]) (by kernel_rfl) (by simp) ?_
            refine AllReadyH.cons rfl (fun K hK => ?_) (AllReadyH.cons rfl (fun K hK => ?_) AllReadyH.nil)
            · go_simp
              have ow1 : (w4.drew.alloc (.cells #[] 9)).ownsRow w4.heap.size 9 1 (.slice (some ⟨w4.heap.size, 0, none⟩) 0 0) 0 [] := World.ownsRow_made _ _ _ (Nat.le_refl _) (by simp) rfl
              have SA := SD.alloc (Nat.le_refl _) (.cells #[] 9)
              refine hK.out _ _ SA (fun hHeld => ?_)
              clear hK K
              (try simp only [List.getElem_toArray, List.getElem_cons_succ, List.getElem_cons_zero, Act.put, List.setIfInBounds_toArray, List.set_cons_zero, List.set_cons_succ])
              refine wpAnyH_ready (rs := [4, 6]) (by kernel_rfl) (by simp) ?_
              refine AllReadyH.cons rfl (fun K hK => ?_) (AllReadyH.cons rfl (fun K hK => ?_) AllReadyH.nil)
              · refine step_append_src ow1 SA.size (HHD.out.below SA) HC1.out.1 (.tmp 43) (.tmp 46) 36 Tryd.underlying36 info_string (by omega) (by unfold maxLen; omega) ⟨rfl, rfl, rfl, rfl, rfl, by decide⟩ (.inl ⟨rfl, rfl⟩) ?_
                intro vi3 wi3 ow3 grow3
                have S3 := SA.grown grow3 SA.size (fun k hk => (ow1.lt k hk).1)
                simp only [Nat.zero_add, List.nil_append] at ow3
                refine hK.out _ _ S3 (fun hHeld => ?_)
                clear hK K
                (try simp only [List.getElem_toArray, List.getElem_cons_succ, List.getElem_cons_zero, Act.put, List.setIfInBounds_toArray, List.set_cons_zero, List.set_cons_succ])
                refine wpAnyH_ready (rs := [6]) (by kernel_rfl) (by simp) ?_
                refine AllReadyH.cons rfl (fun K hK => ?_) AllReadyH.nil
                go_simp
                have ow4 := ow3.alloc (.cells #[.string sp] 9)
                have S4 := S3.alloc S3.size (.cells #[.string sp] 9)
                have nw4 : ∀ j u, [.string sp][j]? = some u → (wi3.alloc (.cells #[.string sp] 9)).cell? ⟨wi3.heap.size, j, none⟩ = some u := fun j u hj => new_here hj
                refine hK.out _ _ S4 (fun hHeld => ?_)
                clear hK K
                (try simp only [List.getElem_toArray, List.getElem_cons_succ, List.getElem_cons_zero, Act.put, List.setIfInBounds_toArray, List.set_cons_zero, List.set_cons_succ])
                refine wpAnyH_ready (rs := [7]) (by kernel_rfl) (by simp) ?_
                refine AllReadyH.cons rfl (fun K hK => ?_) AllReadyH.nil
                refine step_append_own ow4 S4.size (.tmp 47) (.tmp 49) 36 Tryd.underlying36 info_string (by omega) (by unfold maxLen; omega) nw4 insL ⟨rfl, rfl, rfl, rfl, rfl, rfl, by decide⟩ ?_
                intro vi5 wi5 ow5 grow5 _
                have S5 := S4.grown grow5 S4.size (fun k hk => (ow4.lt k hk).1)
                refine hK.out _ _ S5 (fun hHeld => ?_)
                clear hK K
                (try simp only [List.getElem_toArray, List.getElem_cons_succ, List.getElem_cons_zero, Act.put, List.setIfInBounds_toArray, List.set_cons_zero, List.set_cons_succ])
                refine wpAnyH_ready (rs := [11]) (by kernel_rfl) (by simp) ?_
                refine AllReadyH.cons rfl (fun K hK => ?_) AllReadyH.nil
                refine step_append_src ow5 S5.size (HTL.out.below S5) HC1.out.2 (.tmp 50) (.tmp 53) 36 Tryd.underlying36 info_string (by omega) (by unfold maxLen; omega) ⟨rfl, rfl, rfl, rfl, rfl, by decide⟩ (by by_cases hcw : cn = p; (exact .inr ⟨by omega, by omega⟩); (refine .inl ⟨?_, by omega⟩; first | rfl | (simp [hcw]; done) | (simp [hcw]; omega))) ?_
                intro v6 w6 own6 gr6
                have S6 := S5.grown gr6 S5.size (fun k hk => (ow5.lt k hk).1)
                refine hK.out _ _ S6 (fun hHeld => ?_)
                clear hK K
                (try simp only [List.getElem_toArray, List.getElem_cons_succ, List.getElem_cons_zero, Act.put, List.setIfInBounds_toArray, List.set_cons_zero, List.set_cons_succ])
                (refine wpAnyH_take (i := 12) (v := ?_) rfl (by kernel_rfl) (by kernel_rfl) (by kernel_rfl) (fun _ _ _ h => h) (Or.inl ⟨by rfl, ?_⟩) (by assumption) ?_; rotate_left; focus (intro w hSw; (try dsimp only at hSw); go_simp; try with_reducible rfl))
                (try simp only [List.getElem_toArray, List.getElem_cons_succ, List.getElem_cons_zero, Act.put, List.setIfInBounds_toArray, List.set_cons_zero, List.set_cons_succ])
                refine wpAnyH_done (by kernel_rfl) ?_ _
                first | refine NoPanic.normal ?_ | skip
                go_wp2
                all_goals
                  go_meet
                  refine ⟨?_, S6⟩
                  rw [HN.out, strsV_ins, show ns.length + 1 = p + 1 + (ns.length - p) by omega]
                  exact own6
              · go_simp
                have ow2 := ow1.alloc (.cells #[.string sp] 9)
                have S2 := SA.alloc SA.size (.cells #[.string sp] 9)
                have nw2 : ∀ j u, [.string sp][j]? = some u → ((w4.drew.alloc (.cells #[] 9)).alloc (.cells #[.string sp] 9)).cell? ⟨w4.heap.size + 1, j, none⟩ = some u := fun j u hj => by rw [show w4.heap.size + 1 = (w4.drew.alloc (.cells #[] 9)).heap.size from by simp]; exact new_here hj
                refine hK.out _ _ S2 (fun hHeld => ?_)
                clear hK K
                (try simp only [List.getElem_toArray, List.getElem_cons_succ, List.getElem_cons_zero, Act.put, List.setIfInBounds_toArray, List.set_cons_zero, List.set_cons_succ])
                refine wpAnyH_ready (rs := [4]) (by kernel_rfl) (by simp) ?_
                refine AllReadyH.cons rfl (fun K hK => ?_) AllReadyH.nil
                refine step_append_src ow2 S2.size (HHD.out.below S2) HC1.out.1 (.tmp 43) (.tmp 46) 36 Tryd.underlying36 info_string (by omega) (by unfold maxLen; omega) ⟨rfl, rfl, rfl, rfl, rfl, by decide⟩ (.inl ⟨rfl, rfl⟩) ?_
                intro vi4 wi4 ow4 grow4
                have S4 := S2.grown grow4 S2.size (fun k hk => (ow2.lt k hk).1)
                simp only [Nat.zero_add, List.nil_append] at ow4
                refine hK.out _ _ S4 (fun hHeld => ?_)
                clear hK K
                (try simp only [List.getElem_toArray, List.getElem_cons_succ, List.getElem_cons_zero, Act.put, List.setIfInBounds_toArray, List.set_cons_zero, List.set_cons_succ])
                have nw5 : ∀ j u, [.string sp][j]? = some u → wi4.cell? ⟨w4.heap.size + 1, j, none⟩ = some u := fun j u hj => grow4.cell (nw2 j u hj) (by simp [Value.ownBlock])
                refine wpAnyH_ready (rs := [7]) (by kernel_rfl) (by simp) ?_
                refine AllReadyH.cons rfl (fun K hK => ?_) AllReadyH.nil
                refine step_append_own ow4 S4.size (.tmp 47) (.tmp 49) 36 Tryd.underlying36 info_string (by omega) (by unfold maxLen; omega) nw5 insL ⟨rfl, rfl, rfl, rfl, rfl, rfl, by decide⟩ ?_
                intro vi5 wi5 ow5 grow5 _
                have S5 := S4.grown grow5 S4.size (fun k hk => (ow4.lt k hk).1)
                refine hK.out _ _ S5 (fun hHeld => ?_)
                clear hK K
                (try simp only [List.getElem_toArray, List.getElem_cons_succ, List.getElem_cons_zero, Act.put, List.setIfInBounds_toArray, List.set_cons_zero, List.set_cons_succ])
                refine wpAnyH_ready (rs := [11]) (by kernel_rfl) (by simp) ?_
                refine AllReadyH.cons rfl (fun K hK => ?_) AllReadyH.nil
                refine step_append_src ow5 S5.size (HTL.out.below S5) HC1.out.2 (.tmp 50) (.tmp 53) 36 Tryd.underlying36 info_string (by omega) (by unfold maxLen; omega) ⟨rfl, rfl, rfl, rfl, rfl, by decide⟩ (by by_cases hcw : cn = p; (exact .inr ⟨by omega, by omega⟩); (refine .inl ⟨?_, by omega⟩; first | rfl | (simp [hcw]; done) | (simp [hcw]; omega))) ?_
                intro v6 w6 own6 gr6
                have S6 := S5.grown gr6 S5.size (fun k hk => (ow5.lt k hk).1)
                refine hK.out _ _ S6 (fun hHeld => ?_)
                clear hK K
                (try simp only [List.getElem_toArray, List.getElem_cons_succ, List.getElem_cons_zero, Act.put, List.setIfInBounds_toArray, List.set_cons_zero, List.set_cons_succ])
                (refine wpAnyH_take (i := 12) (v := ?_) rfl (by kernel_rfl) (by kernel_rfl) (by kernel_rfl) (fun _ _ _ h => h) (Or.inl ⟨by rfl, ?_⟩) (by assumption) ?_; rotate_left; focus (intro w hSw; (try dsimp only at hSw); go_simp; try with_reducible rfl))
                (try simp only [List.getElem_toArray, List.getElem_cons_succ, List.getElem_cons_zero, Act.put, List.setIfInBounds_toArray, List.set_cons_zero, List.set_cons_succ])
                refine wpAnyH_done (by kernel_rfl) ?_ _
                first | refine NoPanic.normal ?_ | skip
                go_wp2
                all_goals
                  go_meet
                  refine ⟨?_, S6⟩
                  rw [HN.out, strsV_ins, show ns.length + 1 = p + 1 + (ns.length - p) by omega]
                  exact own6
            · go_simp
              have SC := SD.alloc (Nat.le_refl _) (.cells #[.string sp] 9)
              have nw1 : ∀ j u, [.string sp][j]? = some u → (w4.drew.alloc (.cells #[.string sp] 9)).cell? ⟨w4.heap.size, j, none⟩ = some u := fun j u hj => new_here (w := w4.drew) hj
              refine hK.out _ _ SC (fun hHeld => ?_)
              clear hK K
              (try simp only [List.getElem_toArray, List.getElem_cons_succ, List.getElem_cons_zero, Act.put, List.setIfInBounds_toArray, List.set_cons_zero, List.set_cons_succ])
              refine wpAnyH_ready (rs := [0]) (by kernel_rfl) (by simp) ?_
              refine AllReadyH.cons rfl (fun K hK => ?_) AllReadyH.nil
              go_simp
              have ow2 : ((w4.drew.alloc (.cells #[.string sp] 9)).alloc (.cells #[] 9)).ownsRow w4.heap.size 9 1 (.slice (some ⟨w4.heap.size + 1, 0, none⟩) 0 0) 0 [] := by rw [show w4.heap.size + 1 = (w4.drew.alloc (.cells #[.string sp] 9)).heap.size from by simp]; exact World.ownsRow_made _ _ _ SC.size (by simp) rfl
              have S2 := SC.alloc SC.size (.cells #[] 9)
              have nw2 : ∀ j u, [.string sp][j]? = some u → ((w4.drew.alloc (.cells #[.string sp] 9)).alloc (.cells #[] 9)).cell? ⟨w4.heap.size, j, none⟩ = some u := fun j u hj => (World.cell?_alloc_lt _ _ _ (by simp)).trans (nw1 j u hj)
              refine hK.out _ _ S2 (fun hHeld => ?_)
              clear hK K
              (try simp only [List.getElem_toArray, List.getElem_cons_succ, List.getElem_cons_zero, Act.put, List.setIfInBounds_toArray, List.set_cons_zero, List.set_cons_succ])
              refine wpAnyH_ready (rs := [4]) (by kernel_rfl) (by simp) ?_
              refine AllReadyH.cons rfl (fun K hK => ?_) AllReadyH.nil
              refine step_append_src ow2 S2.size (HHD.out.below S2) HC1.out.1 (.tmp 43) (.tmp 46) 36 Tryd.underlying36 info_string (by omega) (by unfold maxLen; omega) ⟨rfl, rfl, rfl, rfl, rfl, by decide⟩ (.inl ⟨rfl, rfl⟩) ?_
              intro vi4 wi4 ow4 grow4
              have S4 := S2.grown grow4 S2.size (fun k hk => (ow2.lt k hk).1)
              simp only [Nat.zero_add, List.nil_append] at ow4
              refine hK.out _ _ S4 (fun hHeld => ?_)
              clear hK K
              (try simp only [List.getElem_toArray, List.getElem_cons_succ, List.getElem_cons_zero, Act.put, List.setIfInBounds_toArray, List.set_cons_zero, List.set_cons_succ])
              have nw5 : ∀ j u, [.string sp][j]? = some u → wi4.cell? ⟨w4.heap.size, j, none⟩ = some u := fun j u hj => grow4.cell (nw2 j u hj) (by simp [Value.ownBlock])
              refine wpAnyH_ready (rs := [7]) (by kernel_rfl) (by simp) ?_
              refine AllReadyH.cons rfl (fun K hK => ?_) AllReadyH.nil
              refine step_append_own ow4 S4.size (.tmp 47) (.tmp 49) 36 Tryd.underlying36 info_string (by omega) (by unfold maxLen; omega) nw5 insL ⟨rfl, rfl, rfl, rfl, rfl, rfl, by decide⟩ ?_
              intro vi5 wi5 ow5 grow5 _
              have S5 := S4.grown grow5 S4.size (fun k hk => (ow4.lt k hk).1)
              refine hK.out _ _ S5 (fun hHeld => ?_)
              clear hK K
              (try simp only [List.getElem_toArray, List.getElem_cons_succ, List.getElem_cons_zero, Act.put, List.setIfInBounds_toArray, List.set_cons_zero, List.set_cons_succ])
              refine wpAnyH_ready (rs := [11]) (by kernel_rfl) (by simp) ?_
              refine AllReadyH.cons rfl (fun K hK => ?_) AllReadyH.nil
              refine step_append_src ow5 S5.size (HTL.out.below S5) HC1.out.2 (.tmp 50) (.tmp 53) 36 Tryd.underlying36 info_string (by omega) (by unfold maxLen; omega) ⟨rfl, rfl, rfl, rfl, rfl, by decide⟩ (by by_cases hcw : cn = p; (exact .inr ⟨by omega, by omega⟩); (refine .inl ⟨?_, by omega⟩; first | rfl | (simp [hcw]; done) | (simp [hcw]; omega))) ?_
              intro v6 w6 own6 gr6
              have S6 := S5.grown gr6 S5.size (fun k hk => (ow5.lt k hk).1)
              refine hK.out _ _ S6 (fun hHeld => ?_)
              clear hK K
              (try simp only [List.getElem_toArray, List.getElem_cons_succ, List.getElem_cons_zero, Act.put, List.setIfInBounds_toArray, List.set_cons_zero, List.set_cons_succ])
              (refine wpAnyH_take (i := 12) (v := ?_) rfl (by kernel_rfl) (by kernel_rfl) (by kernel_rfl) (fun _ _ _ h => h) (Or.inl ⟨by rfl, ?_⟩) (by assumption) ?_; rotate_left; focus (intro w hSw; (try dsimp only at hSw); go_simp; try with_reducible rfl))
              (try simp only [List.getElem_toArray, List.getElem_cons_succ, List.getElem_cons_zero, Act.put, List.setIfInBounds_toArray, List.set_cons_zero, List.set_cons_succ])
              refine wpAnyH_done (by kernel_rfl) ?_ _
              first | refine NoPanic.normal ?_ | skip
              go_wp2
              all_goals
                go_meet
                refine ⟨?_, S6⟩
                rw [HN.out, strsV_ins, show ns.length + 1 = p + 1 + (ns.length - p) by omega]
                exact own6
          case rest =>
          obtain ⟨own5, b5⟩ := hcut
          have cwn5 := row_below cwn4 b5
          clear HHD HTL HC1 insL SB0 own4 cwn4
          obtain ⟨gn5, cn5, hv5, -, -, hn5, hm5⟩ := row_some own5 (by omega)
          subst hv5
          have HHD := Lib.hid (row_head cwn5 hpl)
          have HTL := Lib.hid (row_tail cwn5 hpl)
          have HC1 := Lib.hid (cell_one (HOI.out cs) p)
          have insL : ∀ y ∈ [Value.int .i64 0], y.oneCell' = true := fun y hy => by obtain rfl := List.mem_singleton.1 hy; rfl
          have SB0 := Below.refl wc.heap.size wc
          have p5 : (p : Int) ≤ (cc : Int) := p3
          go_wp2
          first | refine wp_region_noPanic ?_ | skip
          refine wp_region_held_drew (S := fun w' => Below wc.heap.size wc w') (by kernel_rfl) (by exact SB0.drew) (fun hHeld => ?_)
          (refine wpAnyH_take (i := 1) (v := ?_) rfl (by kernel_rfl) (by kernel_rfl) (by kernel_rfl) (fun _ _ _ h => h) (Or.inl ⟨by rfl, ?_⟩) (by assumption) ?_; rotate_left; focus (intro w hSw; (try dsimp only at hSw); go_simp; try with_reducible rfl))
          (try simp only [List.getElem_toArray, List.getElem_cons_succ, List.getElem_cons_zero, Act.put, List.setIfInBounds_toArray, List.set_cons_zero, List.set_cons_succ])
          (refine wpAnyH_take (i := 2) (v := ?_) rfl (by kernel_rfl) (by kernel_rfl) (by kernel_rfl) (fun _ _ _ h => h) (Or.inl ⟨by rfl, ?_⟩) (by assumption) ?_; rotate_left; focus (intro w hSw; (try dsimp only at hSw); go_simp; try with_reducible rfl))
          (try simp only [List.getElem_toArray, List.getElem_cons_succ, List.getElem_cons_zero, Act.put, List.setIfInBounds_toArray, List.set_cons_zero, List.set_cons_succ])
          (refine wpAnyH_take (i := 7) (v := ?_) rfl (by kernel_rfl) (by kernel_rfl) (by kernel_rfl) (fun _ _ _ h => h) (Or.inl ⟨by rfl, ?_⟩) (by assumption) ?_; rotate_left; focus (intro w hSw; (try dsimp only at hSw); go_simp; try with_reducible rfl))
          (try simp only [List.getElem_toArray, List.getElem_cons_succ, List.getElem_cons_zero, Act.put, List.setIfInBounds_toArray, List.set_cons_zero, List.set_cons_succ])
          (refine wpAnyH_take (i := 8) (v := ?_) rfl (by kernel_rfl) (by kernel_rfl) (by kernel_rfl) (fun _ _ _ h => h) (Or.inl ⟨by rfl, ?_⟩) (by assumption) ?_; rotate_left; focus (intro w hSw; (try dsimp only at hSw); go_simp; try with_reducible rfl))
          (try simp only [List.getElem_toArray, List.getElem_cons_succ, List.getElem_cons_zero, Act.put, List.setIfInBounds_toArray, List.set_cons_zero, List.set_cons_succ])
          (refine wpAnyH_take (i := 3) (v := ?_) rfl (by kernel_rfl) (by kernel_rfl) (by kernel_rfl) (fun _ _ _ h => h) (Or.inl ⟨by rfl, ?_⟩) (by assumption) ?_; rotate_left; focus (intro w hSw; (try dsimp only at hSw); go_simp; try with_reducible rfl))
          (try simp only [List.getElem_toArray, List.getElem_cons_succ, List.getElem_cons_zero, Act.put, List.setIfInBounds_toArray, List.set_cons_zero, List.set_cons_succ])
          (refine wpAnyH_take (i := 9) (v := ?_) rfl (by kernel_rfl) (by kernel_rfl) (by kernel_rfl) (fun _ _ _ h => h) (Or.inl ⟨by rfl, ?_⟩) (by assumption) ?_; rotate_left; focus (intro w hSw; (try dsimp only at hSw); go_simp; try with_reducible rfl))
          (try simp only [List.getElem_toArray, List.getElem_cons_succ, List.getElem_cons_zero, Act.put, List.setIfInBounds_toArray, List.set_cons_zero, List.set_cons_succ])
          have SD : Below wc.heap.size wc wc.drew := SB0.drew
          refine wpAnyH_ready (rs := [0, 5]) (by kernel_rfl) (by simp) ?_
          refine AllReadyH.cons rfl (fun K hK => ?_) (AllReadyH.cons rfl (fun K hK => ?_) AllReadyH.nil)
          · go_simp
            have ow1 : (wc.drew.alloc (.cells #[] 3)).ownsRow wc.heap.size 3 1 (.slice (some ⟨wc.heap.size, 0, none⟩) 0 0) 0 [] := World.ownsRow_made _ _ _ (Nat.le_refl _) (by simp) rfl
            have SA := SD.alloc (Nat.le_refl _) (.cells #[] 3)
            refine hK.out _ _ SA (fun hHeld => ?_)
            clear hK K
            (try simp only [List.getElem_toArray, List.getElem_cons_succ, List.getElem_cons_zero, Act.put, List.setIfInBounds_toArray, List.set_cons_zero, List.set_cons_succ])
            refine wpAnyH_ready (rs := [4, 5]) (by kernel_rfl) (by simp) ?_
            refine AllReadyH.cons rfl (fun K hK => ?_) (AllReadyH.cons rfl (fun K hK => ?_) AllReadyH.nil)
            · refine step_append_src ow1 SA.size (HHD.out.below SA) HC1.out.1 (.tmp 55) (.tmp 58) 37 Tryd.underlying37 info_int (by omega) (by unfold maxLen; omega) ⟨rfl, rfl, rfl, rfl, rfl, by decide⟩ (.inl ⟨rfl, rfl⟩) ?_
              intro vi3 wi3 ow3 grow3
              have S3 := SA.grown grow3 SA.size (fun k hk => (ow1.lt k hk).1)
              simp only [Nat.zero_add, List.nil_append] at ow3
              refine hK.out _ _ S3 (fun hHeld => ?_)
              clear hK K
              (try simp only [List.getElem_toArray, List.getElem_cons_succ, List.getElem_cons_zero, Act.put, List.setIfInBounds_toArray, List.set_cons_zero, List.set_cons_succ])
              refine wpAnyH_ready (rs := [5]) (by kernel_rfl) (by simp) ?_
              refine AllReadyH.cons rfl (fun K hK => ?_) AllReadyH.nil
              go_simp
              have ow4 := ow3.alloc (.cells #[.int .i64 0] 3)
              have S4 := S3.alloc S3.size (.cells #[.int .i64 0] 3)
              have nw4 : ∀ j u, [.int .i64 0][j]? = some u → (wi3.alloc (.cells #[.int .i64 0] 3)).cell? ⟨wi3.heap.size, j, none⟩ = some u := fun j u hj => new_here hj
              refine hK.out _ _ S4 (fun hHeld => ?_)
              clear hK K
              (try simp only [List.getElem_toArray, List.getElem_cons_succ, List.getElem_cons_zero, Act.put, List.setIfInBounds_toArray, List.set_cons_zero, List.set_cons_succ])
              refine wpAnyH_ready (rs := [6]) (by kernel_rfl) (by simp) ?_
              refine AllReadyH.cons rfl (fun K hK => ?_) AllReadyH.nil
              refine step_append_own ow4 S4.size (.tmp 59) (.tmp 60) 37 Tryd.underlying37 info_int (by omega) (by unfold maxLen; omega) nw4 insL ⟨rfl, rfl, rfl, rfl, rfl, rfl, by decide⟩ ?_
              intro vi5 wi5 ow5 grow5 _
              have S5 := S4.grown grow5 S4.size (fun k hk => (ow4.lt k hk).1)
              refine hK.out _ _ S5 (fun hHeld => ?_)
              clear hK K
              (try simp only [List.getElem_toArray, List.getElem_cons_succ, List.getElem_cons_zero, Act.put, List.setIfInBounds_toArray, List.set_cons_zero, List.set_cons_succ])
              refine wpAnyH_ready (rs := [10]) (by kernel_rfl) (by simp) ?_
              refine AllReadyH.cons rfl (fun K hK => ?_) AllReadyH.nil
              refine step_append_src ow5 S5.size (HTL.out.below S5) HC1.out.2 (.tmp 61) (.tmp 64) 37 Tryd.underlying37 info_int (by omega) (by unfold maxLen; omega) ⟨rfl, rfl, rfl, rfl, rfl, by decide⟩ (by by_cases hcw : cc = p; (exact .inr ⟨by omega, by omega⟩); (refine .inl ⟨?_, by omega⟩; first | rfl | (simp [hcw]; done) | (simp [hcw]; omega))) ?_
              intro v6 w6 own6 gr6
              have S6 := S5.grown gr6 S5.size (fun k hk => (ow5.lt k hk).1)
              refine hK.out _ _ S6 (fun hHeld => ?_)
              clear hK K
              (try simp only [List.getElem_toArray, List.getElem_cons_succ, List.getElem_cons_zero, Act.put, List.setIfInBounds_toArray, List.set_cons_zero, List.set_cons_succ])
              (refine wpAnyH_take (i := 11) (v := ?_) rfl (by kernel_rfl) (by kernel_rfl) (by kernel_rfl) (fun _ _ _ h => h) (Or.inl ⟨by rfl, ?_⟩) (by assumption) ?_; rotate_left; focus (intro w hSw; (try dsimp only at hSw); go_simp; try with_reducible rfl))
              (try simp only [List.getElem_toArray, List.getElem_cons_succ, List.getElem_cons_zero, Act.put, List.setIfInBounds_toArray, List.set_cons_zero, List.set_cons_succ])
              refine wpAnyH_done (by kernel_rfl) ?_ _
              first | refine NoPanic.normal ?_ | skip
              have hz6 : 0 < p + 1 + (ns.length - p) := by omega
              obtain ⟨gc6, cc6, hv6, -, -, hn6, hm6⟩ := row_some own6 hz6
              subst hv6
              have on6 := row_below own5 S6
              have hl6 : p + 1 + (ns.length - p) = (insB ns sp).length := by rw [HLEN.out]; omega
              have HL6 := Lib.hid hl6
              clear hl6
              go_wp2
              all_goals
                go_meet
                refine ⟨gn5, cn5, gc6, cc6, by rw [HLEN.out], by rw [HLEN.out]; exact hn5, hm5, by rw [HL6.out], by rw [← HL6.out]; exact hn6, hm6, ?_, ?_, b5.trans (S6.mono b5.size)⟩
                · have := on6.base (lo' := w.heap.size + 1) (by omega)
                  rw [HLEN.out]
                  exact this
                · have := own6.base (lo' := w.heap.size + 1) (by have := b5.size; omega)
                  rw [HN2.out, ints_ins, ← HL6.out]
                  exact this
            · go_simp
              have ow2 := ow1.alloc (.cells #[.int .i64 0] 3)
              have S2 := SA.alloc SA.size (.cells #[.int .i64 0] 3)
              have nw2 : ∀ j u, [.int .i64 0][j]? = some u → ((wc.drew.alloc (.cells #[] 3)).alloc (.cells #[.int .i64 0] 3)).cell? ⟨wc.heap.size + 1, j, none⟩ = some u := fun j u hj => by rw [show wc.heap.size + 1 = (wc.drew.alloc (.cells #[] 3)).heap.size from by simp]; exact new_here hj
              refine hK.out _ _ S2 (fun hHeld => ?_)
              clear hK K
              (try simp only [List.getElem_toArray, List.getElem_cons_succ, List.getElem_cons_zero, Act.put, List.setIfInBounds_toArray, List.set_cons_zero, List.set_cons_succ])
              refine wpAnyH_ready (rs := [4]) (by kernel_rfl) (by simp) ?_
              refine AllReadyH.cons rfl (fun K hK => ?_) AllReadyH.nil
              refine step_append_src ow2 S2.size (HHD.out.below S2) HC1.out.1 (.tmp 55) (.tmp 58) 37 Tryd.underlying37 info_int (by omega) (by unfold maxLen; omega) ⟨rfl, rfl, rfl, rfl, rfl, by decide⟩ (.inl ⟨rfl, rfl⟩) ?_
              intro vi4 wi4 ow4 grow4
              have S4 := S2.grown grow4 S2.size (fun k hk => (ow2.lt k hk).1)
              simp only [Nat.zero_add, List.nil_append] at ow4
              refine hK.out _ _ S4 (fun hHeld => ?_)
              clear hK K
              (try simp only [List.getElem_toArray, List.getElem_cons_succ, List.getElem_cons_zero, Act.put, List.setIfInBounds_toArray, List.set_cons_zero, List.set_cons_succ])
              have nw5 : ∀ j u, [.int .i64 0][j]? = some u → wi4.cell? ⟨wc.heap.size + 1, j, none⟩ = some u := fun j u hj => grow4.cell (nw2 j u hj) (by simp [Value.ownBlock])
              refine wpAnyH_ready (rs := [6]) (by kernel_rfl) (by simp) ?_
              refine AllReadyH.cons rfl (fun K hK => ?_) AllReadyH.nil
              refine step_append_own ow4 S4.size (.tmp 59) (.tmp 60) 37 Tryd.underlying37 info_int (by omega) (by unfold maxLen; omega) nw5 insL ⟨rfl, rfl, rfl, rfl, rfl, rfl, by decide⟩ ?_
              intro vi5 wi5 ow5 grow5 _
              have S5 := S4.grown grow5 S4.size (fun k hk => (ow4.lt k hk).1)
              refine hK.out _ _ S5 (fun hHeld => ?_)
              clear hK K
              (try simp only [List.getElem_toArray, List.getElem_cons_succ, List.getElem_cons_zero, Act.put, List.setIfInBounds_toArray, List.set_cons_zero, List.set_cons_succ])
              refine wpAnyH_ready (rs := [10]) (by kernel_rfl) (by simp) ?_
              refine AllReadyH.cons rfl (fun K hK => ?_) AllReadyH.nil
              refine step_append_src ow5 S5.size (HTL.out.below S5) HC1.out.2 (.tmp 61) (.tmp 64) 37 Tryd.underlying37 info_int (by omega) (by unfold maxLen; omega) ⟨rfl, rfl, rfl, rfl, rfl, by decide⟩ (by by_cases hcw : cc = p; (exact .inr ⟨by omega, by omega⟩); (refine .inl ⟨?_, by omega⟩; first | rfl | (simp [hcw]; done) | (simp [hcw]; omega))) ?_
              intro v6 w6 own6 gr6
              have S6 := S5.grown gr6 S5.size (fun k hk => (ow5.lt k hk).1)
              refine hK.out _ _ S6 (fun hHeld => ?_)
              clear hK K
              (try simp only [List.getElem_toArray, List.getElem_cons_succ, List.getElem_cons_zero, Act.put, List.setIfInBounds_toArray, List.set_cons_zero, List.set_cons_succ])
              (refine wpAnyH_take (i := 11) (v := ?_) rfl (by kernel_rfl) (by kernel_rfl) (by kernel_rfl) (fun _ _ _ h => h) (Or.inl ⟨by rfl, ?_⟩) (by assumption) ?_; rotate_left; focus (intro w hSw; (try dsimp only at hSw); go_simp; try with_reducible rfl))
              (try simp only [List.getElem_toArray, List.getElem_cons_succ, List.getElem_cons_zero, Act.put, List.setIfInBounds_toArray, List.set_cons_zero, List.set_cons_succ])
              refine wpAnyH_done (by kernel_rfl) ?_ _
              first | refine NoPanic.normal ?_ | skip
              have hz6 : 0 < p + 1 + (ns.length - p) := by omega
              obtain ⟨gc6, cc6, hv6, -, -, hn6, hm6⟩ := row_some own6 hz6
              subst hv6
              have on6 := row_below own5 S6
              have hl6 : p + 1 + (ns.length - p) = (insB ns sp).length := by rw [HLEN.out]; omega
              have HL6 := Lib.hid hl6
              clear hl6
              go_wp2
              all_goals
                go_meet
                refine ⟨gn5, cn5, gc6, cc6, by rw [HLEN.out], by rw [HLEN.out]; exact hn5, hm5, by rw [HL6.out], by rw [← HL6.out]; exact hn6, hm6, ?_, ?_, b5.trans (S6.mono b5.size)⟩
                · have := on6.base (lo' := w.heap.size + 1) (by omega)
                  rw [HLEN.out]
                  exact this
                · have := own6.base (lo' := w.heap.size + 1) (by have := b5.size; omega)
                  rw [HN2.out, ints_ins, ← HL6.out]
                  exact this
          · go_simp
            have SC := SD.alloc (Nat.le_refl _) (.cells #[.int .i64 0] 3)
            have nw1 : ∀ j u, [.int .i64 0][j]? = some u → (wc.drew.alloc (.cells #[.int .i64 0] 3)).cell? ⟨wc.heap.size, j, none⟩ = some u := fun j u hj => new_here (w := wc.drew) hj
            refine hK.out _ _ SC (fun hHeld => ?_)
            clear hK K
            (try simp only [List.getElem_toArray, List.getElem_cons_succ, List.getElem_cons_zero, Act.put, List.setIfInBounds_toArray, List.set_cons_zero, List.set_cons_succ])
            refine wpAnyH_ready (rs := [0]) (by kernel_rfl) (by simp) ?_
            refine AllReadyH.cons rfl (fun K hK => ?_) AllReadyH.nil
            go_simp
            have ow2 : ((wc.drew.alloc (.cells #[.int .i64 0] 3)).alloc (.cells #[] 3)).ownsRow wc.heap.size 3 1 (.slice (some ⟨wc.heap.size + 1, 0, none⟩) 0 0) 0 [] := by rw [show wc.heap.size + 1 = (wc.drew.alloc (.cells #[.int .i64 0] 3)).heap.size from by simp]; exact World.ownsRow_made _ _ _ SC.size (by simp) rfl
            have S2 := SC.alloc SC.size (.cells #[] 3)
            have nw2 : ∀ j u, [.int .i64 0][j]? = some u → ((wc.drew.alloc (.cells #[.int .i64 0] 3)).alloc (.cells #[] 3)).cell? ⟨wc.heap.size, j, none⟩ = some u := fun j u hj => (World.cell?_alloc_lt _ _ _ (by simp)).trans (nw1 j u hj)
            refine hK.out _ _ S2 (fun hHeld => ?_)
            clear hK K
            (try simp only [List.getElem_toArray, List.getElem_cons_succ, List.getElem_cons_zero, Act.put, List.setIfInBounds_toArray, List.set_cons_zero, List.set_cons_succ])
            refine wpAnyH_ready (rs := [4]) (by kernel_rfl) (by simp) ?_
            refine AllReadyH.cons rfl (fun K hK => ?_) AllReadyH.nil
            refine step_append_src ow2 S2.size (HHD.out.below S2) HC1.out.1 (.tmp 55) (.tmp 58) 37 Tryd.underlying37 info_int (by omega) (by unfold maxLen; omega) ⟨rfl, rfl, rfl, rfl, rfl, by decide⟩ (.inl ⟨rfl, rfl⟩) ?_
            intro vi4 wi4 ow4 grow4
            have S4 := S2.grown grow4 S2.size (fun k hk => (ow2.lt k hk).1)
            simp only [Nat.zero_add, List.nil_append] at ow4
            refine hK.out _ _ S4 (fun hHeld => ?_)
            clear hK K
            (try simp only [List.getElem_toArray, List.getElem_cons_succ, List.getElem_cons_zero, Act.put, List.setIfInBounds_toArray, List.set_cons_zero, List.set_cons_succ])
            have nw5 : ∀ j u, [.int .i64 0][j]? = some u → wi4.cell? ⟨wc.heap.size, j, none⟩ = some u := fun j u hj => grow4.cell (nw2 j u hj) (by simp [Value.ownBlock])
            refine wpAnyH_ready (rs := [6]) (by kernel_rfl) (by simp) ?_
            refine AllReadyH.cons rfl (fun K hK => ?_) AllReadyH.nil
            refine step_append_own ow4 S4.size (.tmp 59) (.tmp 60) 37 Tryd.underlying37 info_int (by omega) (by unfold maxLen; omega) nw5 insL ⟨rfl, rfl, rfl, rfl, rfl, rfl, by decide⟩ ?_
            intro vi5 wi5 ow5 grow5 _
            have S5 := S4.grown grow5 S4.size (fun k hk => (ow4.lt k hk).1)
            refine hK.out _ _ S5 (fun hHeld => ?_)
            clear hK K
            (try simp only [List.getElem_toArray, List.getElem_cons_succ, List.getElem_cons_zero, Act.put, List.setIfInBounds_toArray, List.set_cons_zero, List.set_cons_succ])
            refine wpAnyH_ready (rs := [10]) (by kernel_rfl) (by simp) ?_
            refine AllReadyH.cons rfl (fun K hK => ?_) AllReadyH.nil
            refine step_append_src ow5 S5.size (HTL.out.below S5) HC1.out.2 (.tmp 61) (.tmp 64) 37 Tryd.underlying37 info_int (by omega) (by unfold maxLen; omega) ⟨rfl, rfl, rfl, rfl, rfl, by decide⟩ (by by_cases hcw : cc = p; (exact .inr ⟨by omega, by omega⟩); (refine .inl ⟨?_, by omega⟩; first | rfl | (simp [hcw]; done) | (simp [hcw]; omega))) ?_
            intro v6 w6 own6 gr6
            have S6 := S5.grown gr6 S5.size (fun k hk => (ow5.lt k hk).1)
            refine hK.out _ _ S6 (fun hHeld => ?_)
            clear hK K
            (try simp only [List.getElem_toArray, List.getElem_cons_succ, List.getElem_cons_zero, Act.put, List.setIfInBounds_toArray, List.set_cons_zero, List.set_cons_succ])
            (refine wpAnyH_take (i := 11) (v := ?_) rfl (by kernel_rfl) (by kernel_rfl) (by kernel_rfl) (fun _ _ _ h => h) (Or.inl ⟨by rfl, ?_⟩) (by assumption) ?_; rotate_left; focus (intro w hSw; (try dsimp only at hSw); go_simp; try with_reducible rfl))
            (try simp only [List.getElem_toArray, List.getElem_cons_succ, List.getElem_cons_zero, Act.put, List.setIfInBounds_toArray, List.set_cons_zero, List.set_cons_succ])
            refine wpAnyH_done (by kernel_rfl) ?_ _
            first | refine NoPanic.normal ?_ | skip
            have hz6 : 0 < p + 1 + (ns.length - p) := by omega
            obtain ⟨gc6, cc6, hv6, -, -, hn6, hm6⟩ := row_some own6 hz6
            subst hv6
            have on6 := row_below own5 S6
            have hl6 : p + 1 + (ns.length - p) = (insB ns sp).length := by rw [HLEN.out]; omega
            have HL6 := Lib.hid hl6
            clear hl6
            go_wp2
            all_goals
              go_meet
              refine ⟨gn5, cn5, gc6, cc6, by rw [HLEN.out], by rw [HLEN.out]; exact hn5, hm5, by rw [HL6.out], by rw [← HL6.out]; exact hn6, hm6, ?_, ?_, b5.trans (S6.mono b5.size)⟩
              · have := on6.base (lo' := w.heap.size + 1) (by omega)
                rw [HLEN.out]
                exact this
              · have := own6.base (lo' := w.heap.size + 1) (by have := b5.size; omega)
                rw [HN2.out, ints_ins, ← HL6.out]
                exact this
      case rest =>
      obtain ⟨gn6, cn6, gc6, cc6, rfl, hn6, hm6, rfl, hn7, hm7, own6, cwn6, b6⟩ := hcut
      have bP6 := bP4.far b6
      have B6 := B4.trans (b6.mono B4.size)
      have hpn : p < (insB ns sp).length := (List.getElem?_eq_some_iff.1 HIA.out).1
      have hil : (insB ns sp).length ≤ 31 := Nat.le_trans (ins_len ns sp) (by omega)
      have hlc6 := (cwn6.lt gc6 rfl)
      have hcx : wc.cell? ⟨gc6, p, none⟩ = some (.int .i64 (saidL (l.take k) sp : Int)) := (cwn6.cellAt p (by omega)).trans (ints_at _ (says_at HIA.out))
      have cT6 := (b6.cell (p := ⟨b, off + k * 2 + 1, none⟩) (by show b < _; have := B4.size; omega)).trans c14
      have hsn := says_next (l := l) (k := k) HX.out (show (insB ns sp).Nodup by rw [← HNX.out]; exact (srt_names _).nodup) HIA.out
      simp only at hsn
      have HSN := Lib.hid hsn
      clear hsn
      generalize hms : saysL (insB ns sp) (l.take k) = ms at *
      generalize his : insB ns sp = is_ at *
      clear hms his own4 cwn4 bP4 B4 c14 b6
      have cP6 := bP6.cell
      obtain ⟨sd, hsd⟩ : ∃ sd, sd = saidL (l.take k) sp := ⟨_, rfl⟩
      rw [← hsd] at hcx hsl HSN
      have hsl2 : sd ≤ 1200 := by omega
      clear hsd hsl
      generalize hwn : (wordsV tx).length = wn at *
      have HWN := Lib.hid hwn
      clear hwn
      have z1 : IntKind.i64.wrap ((sd : Int) + (wn : Int)) = (sd : Int) + (wn : Int) := IntWalk.i64_in _ (by omega)
      have pp : (p : Int) < (is_.length : Int) := by omega
      have ns1 : w.heap.size ≠ gc6 := by omega
      have ns2 : b ≠ gc6 := by omega
      have HKP := Lib.hid (show ∀ (W' : World) (u : Value), (W'.cell? ⟨w.heap.size, 0, none⟩ = some (.slice (some ⟨b, off, none⟩) l.length cap) ∧ W'.cell? ⟨b, off + k * 2 + 1, none⟩ = some (.string tx)) → ((W'.setCell ⟨gc6, p, none⟩ u).cell? ⟨w.heap.size, 0, none⟩ = some (.slice (some ⟨b, off, none⟩) l.length cap) ∧ (W'.setCell ⟨gc6, p, none⟩ u).cell? ⟨b, off + k * 2 + 1, none⟩ = some (.string tx)) from fun W' u h => ⟨(World.cell?_setCell_other _ _ _ _ (fun e => ns1 (congrArg Addr.block e).symm)).trans h.1, (World.cell?_setCell_other _ _ _ _ (fun e => ns2 (congrArg Addr.block e).symm)).trans h.2⟩)
      have hf6 := cwn6.frozenAt p
      have HC6 := Lib.hid cwn6
      have HW6 := Lib.hid hcx
      have hS6 : wc.cell? ⟨w.heap.size, 0, none⟩ = some (.slice (some ⟨b, off, none⟩) l.length cap) ∧ wc.cell? ⟨b, off + k * 2 + 1, none⟩ = some (.string tx) := ⟨cP6, cT6⟩
      have hSD : wc.drew.cell? ⟨w.heap.size, 0, none⟩ = some (.slice (some ⟨b, off, none⟩) l.length cap) ∧ wc.drew.cell? ⟨b, off + k * 2 + 1, none⟩ = some (.string tx) := ⟨cP6, cT6⟩
      clear cP6 cT6 hcx cwn6
      go_wp2
      first | refine wp_region_noPanic ?_ | skip
      refine wp_region_held_drew (S := fun w' => w'.cell? ⟨w.heap.size, 0, none⟩ = some (.slice (some ⟨b, off, none⟩) l.length cap) ∧ w'.cell? ⟨b, off + k * 2 + 1, none⟩ = some (.string tx)) (by kernel_rfl) (by exact hSD) (fun hHeld => ?_)
      (refine wpAnyH_take (i := 0) (v := ?_) rfl (by kernel_rfl) (by kernel_rfl) (by kernel_rfl) (fun _ _ _ h => h) (Or.inl ⟨by rfl, ?_⟩) (by assumption) ?_; rotate_left; focus (intro w hSw; (try dsimp only at hSw); go_simp; try with_reducible rfl))
      (try simp only [List.getElem_toArray, List.getElem_cons_succ, List.getElem_cons_zero, Act.put, List.setIfInBounds_toArray, List.set_cons_zero, List.set_cons_succ])
      (refine wpAnyH_take (i := 1) (v := ?_) rfl (by kernel_rfl) (by kernel_rfl) (by kernel_rfl) (fun _ _ _ h => h) (Or.inl ⟨by rfl, ?_⟩) (by assumption) ?_; rotate_left; focus (intro w hSw; (try dsimp only at hSw); go_simp; try with_reducible rfl))
      (try simp only [List.getElem_toArray, List.getElem_cons_succ, List.getElem_cons_zero, Act.put, List.setIfInBounds_toArray, List.set_cons_zero, List.set_cons_succ])
      (refine wpAnyH_take (i := 2) (v := ?_) rfl (by kernel_rfl) (by kernel_rfl) (by kernel_rfl) (fun _ _ _ h => h) (Or.inl ⟨by rfl, ?_⟩) (by assumption) ?_; rotate_left; focus (intro w hSw; (try dsimp only at hSw); go_simp; try with_reducible rfl))
      (try simp only [List.getElem_toArray, List.getElem_cons_succ, List.getElem_cons_zero, Act.put, List.setIfInBounds_toArray, List.set_cons_zero, List.set_cons_succ])
      (refine wpAnyH_take (i := 3) (v := ?_) rfl (by kernel_rfl) (by kernel_rfl) (by kernel_rfl) (fun _ _ _ h => h) (Or.inl ⟨by rfl, ?_⟩) (by assumption) ?_; rotate_left; focus (intro w hSw; (try dsimp only at hSw); go_simp; try with_reducible rfl))
      (try simp only [List.getElem_toArray, List.getElem_cons_succ, List.getElem_cons_zero, Act.put, List.setIfInBounds_toArray, List.set_cons_zero, List.set_cons_succ])
      (refine wpAnyH_take (i := 4) (v := ?_) rfl (by kernel_rfl) (by kernel_rfl) (by kernel_rfl) (fun _ _ _ h => h) (Or.inl ⟨by rfl, ?_⟩) (by assumption) ?_; rotate_left; focus (intro w hSw; (try dsimp only at hSw); go_simp; try with_reducible rfl))
      (try simp only [List.getElem_toArray, List.getElem_cons_succ, List.getElem_cons_zero, Act.put, List.setIfInBounds_toArray, List.set_cons_zero, List.set_cons_succ])
      (refine wpAnyH_take (i := 6) (v := ?_) rfl (by kernel_rfl) (by kernel_rfl) (by kernel_rfl) (fun _ _ _ h => h) (Or.inl ⟨by rfl, ?_⟩) (by assumption) ?_; rotate_left; focus (intro w hSw; (try dsimp only at hSw); go_simp; try with_reducible rfl))
      (try simp only [List.getElem_toArray, List.getElem_cons_succ, List.getElem_cons_zero, Act.put, List.setIfInBounds_toArray, List.set_cons_zero, List.set_cons_succ])
      (refine wpAnyH_take (i := 7) (v := ?_) rfl (by kernel_rfl) (by kernel_rfl) (by kernel_rfl) (fun _ _ _ h => h) (Or.inl ⟨by rfl, ?_⟩) (by assumption) ?_; rotate_left; focus (intro w hSw; (try dsimp only at hSw); go_simp; try with_reducible rfl))
      (try simp only [List.getElem_toArray, List.getElem_cons_succ, List.getElem_cons_zero, Act.put, List.setIfInBounds_toArray, List.set_cons_zero, List.set_cons_succ])
      (refine wpAnyH_take (i := 8) (v := ?_) rfl (by kernel_rfl) (by kernel_rfl) (by kernel_rfl) (fun _ _ _ h => h) (Or.inl ⟨by rfl, ?_⟩) (by assumption) ?_; rotate_left; focus (intro w hSw; (try dsimp only at hSw); go_simp; try with_reducible rfl))
      (try simp only [List.getElem_toArray, List.getElem_cons_succ, List.getElem_cons_zero, Act.put, List.setIfInBounds_toArray, List.set_cons_zero, List.set_cons_succ])
      (refine wpAnyH_take (i := 9) (v := ?_) rfl (by kernel_rfl) (by kernel_rfl) (by kernel_rfl) (fun _ _ _ h => h) (Or.inl ⟨by rfl, ?_⟩) (by assumption) ?_; rotate_left; focus (intro w hSw; (try dsimp only at hSw); go_simp; try with_reducible rfl))
      (try simp only [List.getElem_toArray, List.getElem_cons_succ, List.getElem_cons_zero, Act.put, List.setIfInBounds_toArray, List.set_cons_zero, List.set_cons_succ])
      (refine wpAnyH_take (i := 10) (v := ?_) rfl (by kernel_rfl) (by kernel_rfl) (by kernel_rfl) (fun _ _ _ h => h) (Or.inl ⟨by rfl, ?_⟩) (by assumption) ?_; rotate_left; focus (intro w hSw; (try dsimp only at hSw); go_simp; try with_reducible rfl))
      (try simp only [List.getElem_toArray, List.getElem_cons_succ, List.getElem_cons_zero, Act.put, List.setIfInBounds_toArray, List.set_cons_zero, List.set_cons_succ])
      (refine wpAnyH_take (i := 11) (v := ?_) rfl (by kernel_rfl) (by kernel_rfl) (by kernel_rfl) (fun _ _ _ h => h) (Or.inl ⟨by rfl, ?_⟩) (by assumption) ?_; rotate_left; focus (intro w hSw; (try dsimp only at hSw); go_simp; try with_reducible rfl))
      (try simp only [List.getElem_toArray, List.getElem_cons_succ, List.getElem_cons_zero, Act.put, List.setIfInBounds_toArray, List.set_cons_zero, List.set_cons_succ])
      refine wpAnyH_ready (rs := [5, 12]) (by kernel_rfl) (by simp) ?_
      refine AllReadyH.cons rfl (fun K hK => ?_) (AllReadyH.cons rfl (fun K hK => ?_) AllReadyH.nil)
      · have cx7 : wc.drew.cell? ⟨gc6, p, none⟩ = some (.int .i64 (sd : Int)) := HW6.out
        go_simp
        refine hK.out _ _ (hSD) (fun hHeld => ?_)
        clear hK K
        (try simp only [List.getElem_toArray, List.getElem_cons_succ, List.getElem_cons_zero, Act.put, List.setIfInBounds_toArray, List.set_cons_zero, List.set_cons_succ])
        clear cx7
        refine wpAnyH_ready (rs := [12]) (by kernel_rfl) (by simp) ?_
        refine AllReadyH.cons rfl (fun K hK => ?_) AllReadyH.nil
        go_simp
        refine (spec_l21Words tx _ hts HTX.out).mono ?_
        rintro e w8 ⟨vl, rfl, ol, b8⟩
        obtain ⟨Al, kl, hvl, -, -, -⟩ := ol.slice
        rw [HWN.out] at hvl
        subst hvl
        have b8' : Below wc.heap.size wc w8 := (Below.refl wc.heap.size wc).drew.trans b8
        have hS8 : w8.cell? ⟨w.heap.size, 0, none⟩ = some (.slice (some ⟨b, off, none⟩) l.length cap) ∧ w8.cell? ⟨b, off + k * 2 + 1, none⟩ = some (.string tx) := ⟨(b8'.cell (by show w.heap.size < _; omega)).trans hS6.1, (b8'.cell (by show b < _; omega)).trans hS6.2⟩
        have cx8 : w8.cell? ⟨gc6, p, none⟩ = some (.int .i64 (sd : Int)) := (b8'.cell (by show gc6 < _; omega)).trans HW6.out
        have fz8 : w8.frozen? ⟨gc6, p, none⟩ = false := (b8'.frozen (by show gc6 < _; omega)).trans hf6
        refine hK.out _ _ (hS8) (fun hHeld => ?_)
        clear hK K
        (try simp only [List.getElem_toArray, List.getElem_cons_succ, List.getElem_cons_zero, Act.put, List.setIfInBounds_toArray, List.set_cons_zero, List.set_cons_succ])
        (refine wpAnyH_take (i := 13) (v := ?_) rfl (by kernel_rfl) (by kernel_rfl) (by kernel_rfl) (fun _ _ _ h => h) (Or.inl ⟨by rfl, ?_⟩) (by assumption) ?_; rotate_left; focus (intro w hSw; (try dsimp only at hSw); go_simp; try with_reducible rfl))
        (try simp only [List.getElem_toArray, List.getElem_cons_succ, List.getElem_cons_zero, Act.put, List.setIfInBounds_toArray, List.set_cons_zero, List.set_cons_succ])
        (refine wpAnyH_take (i := 14) (v := ?_) rfl (by kernel_rfl) (by kernel_rfl) (by kernel_rfl) (fun _ _ _ h => h) (Or.inl ⟨by rfl, ?_⟩) (by assumption) ?_; rotate_left; focus (intro w hSw; (try dsimp only at hSw); go_simp; try with_reducible rfl))
        (try simp only [List.getElem_toArray, List.getElem_cons_succ, List.getElem_cons_zero, Act.put, List.setIfInBounds_toArray, List.set_cons_zero, List.set_cons_succ])
        (refine wpAnyH_take (i := 15) (v := ?_) rfl (by kernel_rfl) (by kernel_rfl) (by kernel_rfl) (fun _ _ _ h => h) (Or.inl ⟨by rfl, ?_⟩) (by assumption) ?_; rotate_left; focus (intro w hSw; (try dsimp only at hSw); go_simp; try with_reducible rfl))
        (try simp only [List.getElem_toArray, List.getElem_cons_succ, List.getElem_cons_zero, Act.put, List.setIfInBounds_toArray, List.set_cons_zero, List.set_cons_succ])
        refine wpAnyH_ready (rs := [16]) (by kernel_rfl) (by simp) ?_
        refine AllReadyH.cons rfl (fun K hK => ?_) AllReadyH.nil
        go_simp
        refine hK.out _ _ (HKP.out _ _ hS8) (fun hHeld => ?_)
        clear hK K
        (try simp only [List.getElem_toArray, List.getElem_cons_succ, List.getElem_cons_zero, Act.put, List.setIfInBounds_toArray, List.set_cons_zero, List.set_cons_succ])
        refine wpAnyH_done (by kernel_rfl) ?_ _
        first | refine NoPanic.normal ?_ | skip
        have cwn8 := row_below HC6.out b8'
        have own8 := row_below own6 b8'
        have bP8 := bP6.far b8'
        have B8 := B6.trans (b8'.mono B6.size)
        have cwn9 := ((Own.of_row cwn8).set_ p (.int .i64 ((sd : Int) + (wn : Int)))).1
        have own9 := ownsRow_only (lo' := gc6) (hi' := gc6 + 1) own8 ((Only.refl w8).setCell (p := ⟨gc6, p, none⟩) (Nat.le_refl _) (Nat.lt_succ_self _) (.int .i64 ((sd : Int) + (wn : Int)))) (fun g hg => by have := rows_apart own8 cwn8 (by decide) g hg; have : g ≠ gc6 := (fun e => this (by rw [e]; rfl)); omega)
        have bP9 := bP8.setOther (a := ⟨gc6, p, none⟩) (show gc6 ≠ w.heap.size by omega) (.int .i64 ((sd : Int) + (wn : Int)))
        have B9 := B8.setCell (p := ⟨gc6, p, none⟩) (show w.heap.size ≤ gc6 by omega) (.int .i64 ((sd : Int) + (wn : Int)))
        clear z1 hHeld cx8 fz8
        go_wp2_with fail
        go_roundg (l.length - (k + 1))
        case measure => omega
        case rel =>
          refine ⟨k + 1, rfl, hlt, by go_num, ⟨gn6, cn6, by rw [HNX.out], by rw [HNX.out]; exact hn6, hm6, by rw [HNX.out]; exact own9⟩, ⟨gc6, cc6, by rw [HNX.out, says_len], by rw [HNX.out, says_len]; exact hn7, hm7, ?_⟩, bP9, B9⟩
          rw [HNX.out, says_len, HSN.out, ← ints_set]
          exact cwn9
      · go_simp
        refine (spec_l21Words tx _ hts HTX.out).mono ?_
        rintro e w8 ⟨vl, rfl, ol, b8⟩
        obtain ⟨Al, kl, hvl, -, -, -⟩ := ol.slice
        rw [HWN.out] at hvl
        subst hvl
        have b8' : Below wc.heap.size wc w8 := (Below.refl wc.heap.size wc).drew.trans b8
        have hS8 : w8.cell? ⟨w.heap.size, 0, none⟩ = some (.slice (some ⟨b, off, none⟩) l.length cap) ∧ w8.cell? ⟨b, off + k * 2 + 1, none⟩ = some (.string tx) := ⟨(b8'.cell (by show w.heap.size < _; omega)).trans hS6.1, (b8'.cell (by show b < _; omega)).trans hS6.2⟩
        have cx8 : w8.cell? ⟨gc6, p, none⟩ = some (.int .i64 (sd : Int)) := (b8'.cell (by show gc6 < _; omega)).trans HW6.out
        have fz8 : w8.frozen? ⟨gc6, p, none⟩ = false := (b8'.frozen (by show gc6 < _; omega)).trans hf6
        refine hK.out _ _ (hS8) (fun hHeld => ?_)
        clear hK K
        (try simp only [List.getElem_toArray, List.getElem_cons_succ, List.getElem_cons_zero, Act.put, List.setIfInBounds_toArray, List.set_cons_zero, List.set_cons_succ])
        (refine wpAnyH_take (i := 13) (v := ?_) rfl (by kernel_rfl) (by kernel_rfl) (by kernel_rfl) (fun _ _ _ h => h) (Or.inl ⟨by rfl, ?_⟩) (by assumption) ?_; rotate_left; focus (intro w hSw; (try dsimp only at hSw); go_simp; try with_reducible rfl))
        (try simp only [List.getElem_toArray, List.getElem_cons_succ, List.getElem_cons_zero, Act.put, List.setIfInBounds_toArray, List.set_cons_zero, List.set_cons_succ])
        refine wpAnyH_ready (rs := [5]) (by kernel_rfl) (by simp) ?_
        refine AllReadyH.cons rfl (fun K hK => ?_) AllReadyH.nil
        go_simp
        refine hK.out _ _ (hS8) (fun hHeld => ?_)
        clear hK K
        (try simp only [List.getElem_toArray, List.getElem_cons_succ, List.getElem_cons_zero, Act.put, List.setIfInBounds_toArray, List.set_cons_zero, List.set_cons_succ])
        (refine wpAnyH_take (i := 14) (v := ?_) rfl (by kernel_rfl) (by kernel_rfl) (by kernel_rfl) (fun _ _ _ h => h) (Or.inl ⟨by rfl, ?_⟩) (by assumption) ?_; rotate_left; focus (intro w hSw; (try dsimp only at hSw); go_simp; try with_reducible rfl))
        (try simp only [List.getElem_toArray, List.getElem_cons_succ, List.getElem_cons_zero, Act.put, List.setIfInBounds_toArray, List.set_cons_zero, List.set_cons_succ])
        (refine wpAnyH_take (i := 15) (v := ?_) rfl (by kernel_rfl) (by kernel_rfl) (by kernel_rfl) (fun _ _ _ h => h) (Or.inl ⟨by rfl, ?_⟩) (by assumption) ?_; rotate_left; focus (intro w hSw; (try dsimp only at hSw); go_simp; try with_reducible rfl))
        (try simp only [List.getElem_toArray, List.getElem_cons_succ, List.getElem_cons_zero, Act.put, List.setIfInBounds_toArray, List.set_cons_zero, List.set_cons_succ])
        refine wpAnyH_ready (rs := [16]) (by kernel_rfl) (by simp) ?_
        refine AllReadyH.cons rfl (fun K hK => ?_) AllReadyH.nil
        go_simp
        refine hK.out _ _ (HKP.out _ _ hS8) (fun hHeld => ?_)
        clear hK K
        (try simp only [List.getElem_toArray, List.getElem_cons_succ, List.getElem_cons_zero, Act.put, List.setIfInBounds_toArray, List.set_cons_zero, List.set_cons_succ])
        refine wpAnyH_done (by kernel_rfl) ?_ _
        first | refine NoPanic.normal ?_ | skip
        have cwn8 := row_below HC6.out b8'
        have own8 := row_below own6 b8'
        have bP8 := bP6.far b8'
        have B8 := B6.trans (b8'.mono B6.size)
        have cwn9 := ((Own.of_row cwn8).set_ p (.int .i64 ((sd : Int) + (wn : Int)))).1
        have own9 := ownsRow_only (lo' := gc6) (hi' := gc6 + 1) own8 ((Only.refl w8).setCell (p := ⟨gc6, p, none⟩) (Nat.le_refl _) (Nat.lt_succ_self _) (.int .i64 ((sd : Int) + (wn : Int)))) (fun g hg => by have := rows_apart own8 cwn8 (by decide) g hg; have : g ≠ gc6 := (fun e => this (by rw [e]; rfl)); omega)
        have bP9 := bP8.setOther (a := ⟨gc6, p, none⟩) (show gc6 ≠ w.heap.size by omega) (.int .i64 ((sd : Int) + (wn : Int)))
        have B9 := B8.setCell (p := ⟨gc6, p, none⟩) (show w.heap.size ≤ gc6 by omega) (.int .i64 ((sd : Int) + (wn : Int)))
        clear z1 hHeld cx8 fz8
        go_wp2_with fail
        go_roundg (l.length - (k + 1))
        case measure => omega
        case rel =>
          refine ⟨k + 1, rfl, hlt, by go_num, ⟨gn6, cn6, by rw [HNX.out], by rw [HNX.out]; exact hn6, hm6, by rw [HNX.out]; exact own9⟩, ⟨gc6, cc6, by rw [HNX.out, says_len], by rw [HNX.out, says_len]; exact hn7, hm7, ?_⟩, bP9, B9⟩
          rw [HNX.out, says_len, HSN.out, ← ints_set]
          exact cwn9
    · obtain rfl : k = l.length := by omega
      go_wp2
      go_ret3
      rw [List.take_length] at own cwn
      exact ⟨.slice (some ⟨gn, 0, none⟩) (namesL l).length cn, .slice (some ⟨gc, 0, none⟩) (saysL (namesL l) l).length cc, by rw [HV.out, List.take_length]; rfl, by rw [spkN, HV.out]; exact Own.of_row (own.base (lo' := w.heap.size) (by omega)), by rw [spkC, HV.out]; exact Own.of_row (cwn.base (lo' := w.heap.size) (by omega)), hb⟩
end Go.Proofs.YtnndkdkmhjpcpaaDoor
