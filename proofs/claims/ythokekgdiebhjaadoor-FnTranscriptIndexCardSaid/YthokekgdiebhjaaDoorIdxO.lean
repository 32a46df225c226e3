/-
  slices.SortFunc at the entries of the index, by their words.
-/
import Derived.Test.YthokekgdiebhjaaDoorIdxF
import Derived.Test.YthokekgdiebhjaaDoorSortI
import Derived.Shelf.SlSortCmp.WholeK
import Derived.Lib.AppendIntMem
namespace Go.Proofs.YthokekgdiebhjaaDoor
open Go.RowKit
set_option linter.unusedVariables false
set_option linter.unusedSimpArgs false
set_option maxRecDepth 100000

/-! ### The order -/
theorem cmp_less : ∀ a b : List UInt8, decide (Lib.compareBytes a b < 0) = lessL a b
  | [], [] => rfl
  | [], y :: b => rfl
  | x :: a, [] => rfl
  | x :: a, y :: b => by
    unfold Lib.compareBytes lessL
    have hlt : ∀ p q : UInt8, p < q ↔ p.toNat < q.toNat := fun p q => UInt8.lt_iff_toNat_lt
    by_cases h1 : x < y
    · have : x ≠ y := fun e => by subst e; rw [hlt] at h1; omega
      rw [if_pos h1, if_neg this]
      rw [hlt] at h1
      simp [h1]
    · by_cases h2 : y < x
      · have : x ≠ y := fun e => by subst e; rw [hlt] at h2; omega
        rw [if_neg h1, if_pos h2, if_neg this]
        rw [hlt] at h1
        simp [h1]
      · have : x = y := by
          rw [hlt] at h1 h2
          exact UInt8.toNat_inj.1 (by omega)
        rw [if_neg h1, if_neg h2, if_pos this]
        exact cmp_less a b
/-- One entry: its word, the head of its turns, its turns. -/
structure IdxC where
  wd : ByteArray
  v : Value
  one : v.oneCell' = true
  ts : List Int
instance : Inhabited IdxC := ⟨⟨⟨#[]⟩, .slice none 0 0, rfl, []⟩⟩
def encI (x : IdxC) : List Value := [.string x.wd, x.v]
def cfI (x y : IdxC) : Int := Lib.compareBytes x.wd.data.toList y.wd.data.toList
theorem ltI (x y : IdxC) : Go.Proofs.ltOf cfI x y = lessB x.wd y.wd := by
  unfold Go.Proofs.ltOf cfI lessB
  exact cmp_less _ _
theorem lessB_asym {a b : ByteArray} (h : lessB a b = true) : lessB b a = false := by
  cases h1 : lessB b a
  · rfl
  · have := lessB_trans h h1
    rw [lessB_irr] at this
    cases this
theorem swoI : Go.Sort.SWO (Go.Proofs.ltOf cfI) where
  irrefl x := by rw [ltI]; exact lessB_irr _
  trans x y z h1 h2 := by rw [ltI] at *; exact lessB_trans h1 h2
  ntrans x y z h1 h2 := by
    rw [ltI] at *
    by_cases e1 : x.wd = y.wd
    · rw [e1]; exact h2
    · by_cases e2 : y.wd = z.wd
      · rw [← e2]; exact h1
      · exact lessB_asym (lessB_trans (lessB_tri h2 e2) (lessB_tri h1 e1))
def pairI (x : IdxC) : Value × Value := (.string x.wd, x.v)
theorem flatK_I (cs : List IdxC) : (Go.Sort.flatK encI 2 cs.toArray).toList = flat2 (cs.map pairI) := by
  apply List.ext_getElem?
  intro t
  have hl : (flat2 (cs.map pairI)).length = cs.length * 2 := by rw [flat2_length]; simp
  by_cases ht : t < cs.length * 2
  · have h1 : (Go.Sort.flatK encI 2 cs.toArray).toList[t]? = some ((encI cs.toArray[t / 2]!)[t % 2]!) := by
      rw [Array.getElem?_toList, Array.getElem?_eq_getElem (by simpa using ht), ← Go.Sort.get_flatK encI 2 cs.toArray t (by simpa using ht), getElem!_pos _ t (by simpa using ht)]
    obtain ⟨c, hc⟩ := some_at cs (show t / 2 < cs.length by omega)
    have h2 : cs.toArray[t / 2]! = c := by
      rw [getElem!_pos _ (t / 2) (by simp; omega)]
      have := List.getElem?_eq_some_iff.1 hc
      simpa using this.2
    obtain ⟨e0, e1⟩ := flat2_at (ps := cs.map pairI) (k := t / 2) (p := pairI c) (by simp [hc])
    rw [h1, h2]
    rcases Nat.mod_two_eq_zero_or_one t with h | h
    · rw [h, show t = t / 2 * 2 by omega, e0]; rfl
    · rw [h, show t = t / 2 * 2 + 1 by omega, e1]; rfl
  · rw [List.getElem?_eq_none (by rw [Array.length_toList, Go.Sort.size_flatK, List.size_toArray]; omega), List.getElem?_eq_none (by rw [hl]; omega)]
theorem own_putK {w : World} {base g n cap q : Nat} {e : TypeId} {xs : List Value} {F : Array Value} (h : w.ownsRow base e 2 (.slice (some ⟨g, 0, none⟩) n cap) n xs) (hF : F.size = n * 2) :
    (Go.Sort.putRow id (Go.Sort.ahead w q) g 0 F).ownsRow base e 2 (.slice (some ⟨g, 0, none⟩) n cap) n F.toList := by
  rcases h.2 with ⟨e0, _⟩ | ⟨g', cap', cur, e0, hb, hg, hn, hm, hs, ht⟩
  · cases e0
  · injection e0 with e1 _ e3
    injection e1 with e1
    injection e1 with e1
    subst e1; subst e3
    refine ⟨by simpa using hF, .inr ⟨g, cap, Go.Sort.putCells id 0 F cur, rfl, hb, ?_, hn, hm, by simpa [Go.Sort.putCells] using hs, ?_⟩⟩
    · simp [Go.Sort.putRow, Go.Sort.mapBlock, Go.Sort.ahead, Array.getElem?_modify, hg, Go.Sort.onCells]
    · apply List.ext_getElem?
      intro j
      rw [List.getElem?_take, Array.getElem?_toList, Array.getElem?_toList]
      have hcur : n * 2 ≤ cur.size := by have := Nat.mul_le_mul_right 2 hn; omega
      by_cases hj : j < n * 2
      · have hjc : j < cur.size := by omega
        simp only [if_pos hj, Go.Sort.putCells, Array.getElem?_mapIdx, Array.getElem?_eq_getElem hjc, Option.map_some]
        rw [if_pos (by omega), Array.getElem?_eq_getElem (by omega)]
        simp [getElem!_pos, show j < F.size by omega]
      · rw [if_neg hj, Array.getElem?_eq_none (by omega)]
theorem holdsI {w : World} {base g n cap : Nat} {e : TypeId} {cs : List IdxC} (h : w.ownsRow base e 2 (.slice (some ⟨g, 0, none⟩) n cap) n (flat2 (cs.map pairI))) (hl : cs.length = n) : Go.Sort.HoldsK encI 2 w g 0 cs.toArray := by
  intro j hj
  rw [Go.Sort.size_flatK] at hj
  have hj2 : j < n * 2 := by simpa [hl] using hj
  have hn : 0 < n := by omega
  obtain ⟨g', cap', hv, -, -, -, -, -, hc, hf⟩ := (Own.of_row h).open_ hn
  injection hv with hv1 _ _
  injection hv1 with hv1
  injection hv1 with hv1
  subst hv1
  rw [Nat.zero_add]
  refine ⟨?_, hf j⟩
  rw [hc j hj2, ← flatK_I, Array.getElem?_toList, Array.getElem?_eq_getElem (by rw [Go.Sort.size_flatK]; exact hj), getElem!_pos _ j (by rw [Go.Sort.size_flatK]; exact hj)]
  rfl

/-! ### The closure -/
set_option maxHeartbeats 2000000 in
theorem idx2_calls (x y : IdxC) (w : World) :
    Calls Tryd.prog 27 #[.agg #[.string x.wd, x.v], .agg #[.string y.wd, y.v]] w fun e w' => e = .returned (.int .i64 (cfI x y)) ∧ ∃ q os', w' = Go.Sort.grow (w.drewN q) os' := by
  have hcon := fun W' => Tryd.strings_Compare x.wd y.wd W'
  have HR : Lib.compareBytes x.wd.data.toList y.wd.data.toList = cfI x y := rfl
  rw [HR] at hcon
  generalize cfI x y = r at hcon ⊢
  clear HR
  go_enter Tryd.func27, Tryd.ntmps27
  go_wp2_with (refine (hcon _).mono ?_; rintro e w' ⟨rfl, rfl⟩)
  go_ret
  exact ⟨rfl, 0, _, by rw [Go.Sort.alloc_eq_grow, Go.Sort.alloc_eq_grow, Go.Sort.grow_grow]; rfl⟩

/-! ### The sort -/
theorem pw_perm {α : Type} {R : α → α → Prop} (hs : ∀ a b, R a b → R b a) {l l' : List α} (h : l.Perm l') (hp : l.Pairwise R) : l'.Pairwise R := (h.pairwise_iff (fun {a b} => hs a b)).1 hp
/-- What the rows of an index say, entry by entry. -/
def ApartI (x y : IdxC) : Prop := (∀ g, x.v.ownBlock = some g → y.v.ownBlock ≠ some g) ∧ x.wd ≠ y.wd
theorem apart_sym (x y : IdxC) (h : ApartI x y) : ApartI y x := ⟨fun g hg hg' => h.1 g hg' hg, fun e => h.2 e.symm⟩
def dataI (x : IdxC) : IdxD := (x.wd, x.ts)
def mkI (p : Value × Value) (c : IdxD) : IdxC := if h : p.2.oneCell' = true then ⟨c.1, p.2, h, c.2⟩ else default
theorem mkI_eq {p : Value × Value} {c : IdxD} (h : p.2.oneCell' = true) : mkI p c = ⟨c.1, p.2, h, c.2⟩ := by unfold mkI; rw [dif_pos h]
theorem zip_at {ps : List (Value × Value)} {L : List IdxD} {j : Nat} {p : Value × Value} {c : IdxD} (h1 : ps[j]? = some p) (h2 : L[j]? = some c) : (List.zipWith mkI ps L)[j]? = some (mkI p c) := by
  rw [List.getElem?_zipWith, h1, h2]
theorem idx_cells {lo : Nat} {w : World} {v : Value} {L : List IdxD} (h : IdxS lo w v L) (hnd : (L.map (·.1)).Nodup) :
    ∃ cs : List IdxC, cs.map dataI = L ∧ w.ownsRow lo 33 2 v L.length (flat2 (cs.map pairI)) ∧ (∀ c ∈ cs, w.ownsRow lo 3 1 c.v c.ts.length (ints c.ts)) ∧ cs.Pairwise ApartI := by
  obtain ⟨ps, h1, h2, h3, h4⟩ := h
  have hone : ∀ (j : Nat) p c, ps[j]? = some p → L[j]? = some c → p.2.oneCell' = true := fun j p c hp hc => row_oneCell (h4.row j p.2 c.2 (by simp [hp]) (by simp [hc]))
  have hlen : (List.zipWith mkI ps L).length = L.length := by rw [List.length_zipWith]; omega
  have hex : ∀ j, j < L.length → ∃ p c, ps[j]? = some p ∧ L[j]? = some c ∧ (List.zipWith mkI ps L)[j]? = some (mkI p c) ∧ p.2.oneCell' = true := fun j hj => by
    obtain ⟨p, hp⟩ := some_at ps (show j < ps.length by omega)
    obtain ⟨c, hc⟩ := some_at L hj
    exact ⟨p, c, hp, hc, zip_at hp hc, hone j p c hp hc⟩
  have hps : (List.zipWith mkI ps L).map pairI = ps := by
    apply List.ext_getElem?
    intro j
    rw [List.getElem?_map]
    rcases Nat.lt_or_ge j L.length with hj | hj
    · obtain ⟨p, c, hp, hc, hz, ho⟩ := hex j hj
      rw [hz, hp, mkI_eq ho]
      have e := h3 j p c hp hc
      simp only [Option.map_some, pairI]
      rw [← e]
    · rw [List.getElem?_eq_none (by omega), List.getElem?_eq_none (by omega)]
      rfl
  refine ⟨List.zipWith mkI ps L, ?_, by rw [hps]; exact h2, ?_, ?_⟩
  · apply List.ext_getElem?
    intro j
    rw [List.getElem?_map]
    rcases Nat.lt_or_ge j L.length with hj | hj
    · obtain ⟨p, c, hp, hc, hz, ho⟩ := hex j hj
      rw [hz, hc, mkI_eq ho]
      rfl
    · rw [List.getElem?_eq_none (by omega), List.getElem?_eq_none (by omega)]
      rfl
  · intro d hd
    obtain ⟨j, hj⟩ := List.mem_iff_getElem?.1 hd
    obtain ⟨p, c, hp, hc, hz, ho⟩ := hex j (by rw [← hlen]; exact (List.getElem?_eq_some_iff.1 hj).1)
    rw [hz] at hj
    obtain rfl := Option.some.inj hj
    rw [mkI_eq ho]
    exact h4.row j p.2 c.2 (by simp [hp]) (by simp [hc])
  · rw [List.pairwise_iff_getElem]
    intro i j hi hj hij
    obtain ⟨p, c, hp, hc, hz, ho⟩ := hex i (by omega)
    obtain ⟨q, d, hq, hd, hy, ho'⟩ := hex j (by omega)
    rw [List.getElem?_eq_getElem hi] at hz
    rw [List.getElem?_eq_getElem hj] at hy
    rw [Option.some.inj hz, Option.some.inj hy, mkI_eq ho, mkI_eq ho']
    refine ⟨h4.apart i j p.2 q.2 (by omega) (by simp [hp]) (by simp [hq]), fun e => ?_⟩
    have hi2 : (L.map (·.1))[i]? = some c.1 := by simp [hc]
    have hj2 : (L.map (·.1))[j]? = some d.1 := by simp [hd]
    have hil : i < (L.map (·.1)).length := (List.getElem?_eq_some_iff.1 hi2).1
    have := (List.getElem?_inj (j := j) hil hnd).1 (by rw [hi2, hj2]; exact congrArg some e)
    omega
theorem cells_idx {lo : Nat} {w : World} {v : Value} {cs : List IdxC} (h : w.ownsRow lo 33 2 v cs.length (flat2 (cs.map pairI))) (hr : ∀ c ∈ cs, w.ownsRow lo 3 1 c.v c.ts.length (ints c.ts)) (hp : cs.Pairwise ApartI) : IdxS lo w v (cs.map dataI) := by
  have hat : ∀ {β : Type} {f : IdxC → β} {j : Nat} {b : β}, (cs.map f)[j]? = some b → ∃ c, cs[j]? = some c ∧ b = f c := by
    intro β f j b hb
    rw [List.getElem?_map] at hb
    cases hc : cs[j]? with
    | none => rw [hc] at hb; cases hb
    | some c => rw [hc] at hb; exact ⟨c, rfl, (Option.some.inj hb).symm⟩
  refine ⟨cs.map pairI, by simp, by rw [List.length_map]; exact h, fun j p c hp hc => ?_, ?_⟩
  · obtain ⟨a, ha, rfl⟩ := hat hp
    obtain ⟨b, hb, rfl⟩ := hat hc
    rw [ha] at hb
    obtain rfl := Option.some.inj hb
    rfl
  · rw [List.map_map, List.map_map]
    refine ⟨by simp, fun j u r hu hr' => ?_, fun i j u u' hij hu hu' => ?_⟩
    · obtain ⟨a, ha, rfl⟩ := hat hu
      obtain ⟨b, hb, rfl⟩ := hat hr'
      rw [ha] at hb
      obtain rfl := Option.some.inj hb
      exact hr a (List.mem_of_getElem? ha)
    · obtain ⟨a, ha, rfl⟩ := hat hu
      obtain ⟨b, hb, rfl⟩ := hat hu'
      rw [List.pairwise_iff_getElem] at hp
      obtain ⟨hi, ea⟩ := List.getElem?_eq_some_iff.1 ha
      obtain ⟨hj, eb⟩ := List.getElem?_eq_some_iff.1 hb
      rcases Nat.lt_trichotomy i j with h1 | h1 | h1
      · have := hp i j hi hj h1
        rw [ea, eb] at this
        exact this.1
      · exact absurd h1 hij
      · have := apart_sym _ _ (hp j i hj hi h1)
        rw [ea, eb] at this
        exact this.1
theorem only_putI (w : World) (g q : Nat) (d : Array Value) : Only g (g + 1) w (Go.Sort.putRow id (Go.Sort.ahead w q) g 0 d) :=
  ⟨rfl, rfl, rfl, by simp [Go.Sort.putRow, Go.Sort.mapBlock, Go.Sort.ahead], fun k hk hd => by simp [Go.Sort.putRow, Go.Sort.mapBlock, Go.Sort.ahead, Array.getElem?_modify, show g ≠ k by omega]⟩
theorem extract_all {α : Type} {d : Array α} {n : Nat} (h : d.size = n) : (d.extract 0 n).toList = d.toList := by
  subst h
  simp
set_option maxHeartbeats 1000000 in
theorem sort_idx {lo g c : Nat} (L : List IdxD) (w : World) (h : IdxS lo w (.slice (some ⟨g, 0, none⟩) L.length c) L) (hnd : (L.map (·.1)).Nodup) (hn : L.length ≤ 1048576) :
    Calls Tryd.prog 26 #[.slice (some ⟨g, 0, none⟩) L.length c, .func (.func 27) #[] #[]] w fun e w' => e = .returned (.tuple #[]) ∧ (∃ L', L'.length = L.length ∧ (∀ c, c ∈ L' ↔ c ∈ L) ∧ Srt (L'.map (·.1)) ∧ IdxS lo w' (.slice (some ⟨g, 0, none⟩) L.length c) L') ∧ Only g (g + 1) w w' := by
  obtain ⟨cs, hcs, hrow, hr, hp⟩ := idx_cells h hnd
  have hl : cs.length = L.length := by rw [← hcs]; simp
  have hz : cs.toArray.size = L.length := by simpa using hl
  have eg : ∀ args w, (callFunc 27 args).run Tryd.prog w = .ok (.enter 27 args) w := enters_of Tryd.func27 (by kernel_rfl) rfl
  have hgl : g < w.heap.size := (hrow.lt g rfl).2
  have hcon := AnyQ.slices_SortFunc Tryd.sortIdx 2 Tryd.isAgg33 Tryd.sizeOf33 encI (fun _ => rfl) (fun x v hv => by
    simp only [encI, List.mem_cons, List.not_mem_nil, or_false] at hv
    rcases hv with rfl | rfl
    · rfl
    · exact x.one) cfI swoI 27 #[] g 0 c cs.toArray w eg (fun _ _ _ _ x y => idx2_calls x y _) (holdsI hrow hl) hgl (by omega)
  change Calls Tryd.prog 26 _ _ _ at hcon
  rw [hz] at hcon
  refine hcon.mono ?_
  rintro e w' ⟨rfl, d', n, os, hpm, hso, rfl⟩
  obtain ⟨hs1, -, hpe⟩ := hpm
  rw [extract_all (hs1.trans hz), extract_all hz] at hpe
  have hpe : d'.toList.Perm cs := hpe
  have hsz : d'.toList.length = L.length := by rw [Array.length_toList, hs1, hz]
  have hF : (Go.Sort.flatK encI 2 d').size = L.length * 2 := by rw [Go.Sort.size_flatK, hs1, hz]
  have ho := own_putK (q := n) hrow hF
  rw [show (Go.Sort.flatK encI 2 d').toList = flat2 (d'.toList.map pairI) from flatK_I d'.toList] at ho
  have hg := Lib.ownsRow_grow ho 0 os
  have hon : Only g (g + 1) w (sortWorldK encI 2 w g 0 n d' os) := (only_putI w g n _).trans (Only.of_below (Lib.below_grow _ _ (Nat.le_refl _) 0 os))
  have hp' := pw_perm apart_sym hpe.symm hp
  refine ⟨rfl, ⟨d'.toList.map dataI, by simpa using hsz, fun c => ?_, ?_, ?_⟩, hon⟩
  · rw [← hcs]
    exact (hpe.map dataI).mem_iff
  · rw [List.map_map]
    unfold Srt
    rw [List.pairwise_map, List.pairwise_iff_getElem]
    rw [List.pairwise_iff_getElem] at hp'
    intro i j hi hj hij
    have h1 := hso i j (Nat.zero_le _) hij (by omega)
    rw [ltI, getElem!_pos d' j (by simpa using hj), getElem!_pos d' i (by simpa using hi)] at h1
    have h2 := (hp' i j hi hj hij).2
    simp only [Array.getElem_toList] at h2 ⊢
    exact lessB_tri h1 (fun e => h2 e.symm)
  · rw [← hsz]
    refine cells_idx (by rw [hsz]; exact hg) (fun c hc => ?_) hp'
    have h1 := hr c (hpe.mem_iff.1 hc)
    exact ownsRow_only h1 hon (fun g' hg' => by
      have := rows_apart h1 hrow (by decide) g' hg'
      have h3 : g' ≠ g := fun e => this (by rw [e]; rfl)
      omega)
end Go.Proofs.YthokekgdiebhjaaDoor
