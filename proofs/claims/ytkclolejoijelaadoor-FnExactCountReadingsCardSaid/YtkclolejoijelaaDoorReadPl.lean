/-
  The readings of a list of strokes, and their capped number: plain values. No program is named here.
-/
import Derived.Test.YtkclolejoijelaaDoorAmbPl
namespace Go.Proofs.YtkclolejoijelaaDoor
set_option linter.unusedVariables false

/-! ### The readings, in order -/
def readF (l : List EntD) : Nat → List Int → List (List Nat)
  | 0, zs => if zs.isEmpty then [[]] else []
  | f + 1, zs => if zs.isEmpty then [[]] else (List.range l.length).flatMap fun k => match l[k]? with
    | some c => if beginsB zs c.1 then (readF l f (zs.drop c.1.length)).map (k :: ·) else []
    | none => []
def readD (l : List EntD) (zs : List Int) : List (List Nat) := readF l zs.length zs
/-- The words of a reading. -/
def wordsOf (l : List EntD) (r : List Nat) : List (List Int) := r.map fun k => ((l[k]?).getD ([], ⟨#[]⟩)).1
theorem readF_mem {l : List EntD} : ∀ (f : Nat) (zs : List Int) (r : List Nat), r ∈ readF l f zs → (wordsOf l r).flatten = zs ∧ ∀ k ∈ r, k < l.length
  | 0, zs, r, h => by
    unfold readF at h
    split at h
    · rename_i hz
      simp at h hz
      subst h hz
      simp [wordsOf]
    · simp at h
  | f + 1, zs, r, h => by
    unfold readF at h
    split at h
    · rename_i hz
      simp at h hz
      subst h hz
      simp [wordsOf]
    · obtain ⟨k, hk, hr⟩ := List.mem_flatMap.1 h
      have hkl : k < l.length := by simpa using hk
      obtain ⟨c, hc⟩ := some_at l hkl
      rw [hc] at hr
      simp only at hr
      split at hr
      · rename_i hb
        obtain ⟨q, hq, rfl⟩ := List.mem_map.1 hr
        obtain ⟨h1, h2⟩ := readF_mem f _ q hq
        refine ⟨?_, fun j hj => ?_⟩
        · simp only [wordsOf, List.map_cons, List.flatten_cons, hc, Option.getD_some] at h1 ⊢
          rw [h1]
          exact (begins_drop hb).symm
        · rcases List.mem_cons.1 hj with rfl | hj
          · exact hkl
          · exact h2 j hj
      · simp at hr
theorem readF_all {l : List EntD} (hE : ∀ c ∈ l, c.1 ≠ []) : ∀ (f : Nat) (zs : List Int) (r : List Nat), zs.length ≤ f → (∀ k ∈ r, k < l.length) → (wordsOf l r).flatten = zs → r ∈ readF l f zs
  | 0, zs, r, hf, hr, h => by
    have hz : zs = [] := List.eq_nil_of_length_eq_zero (by omega)
    subst hz
    cases r with
    | nil => simp [readF]
    | cons k r =>
      obtain ⟨c, hc⟩ := some_at l (hr k (by simp))
      have h1 := hE c (List.mem_of_getElem? hc)
      simp only [wordsOf, List.map_cons, List.flatten_cons, hc, Option.getD_some] at h
      exact absurd (List.append_eq_nil_iff.1 h).1 h1
  | f + 1, zs, r, hf, hr, h => by
    cases r with
    | nil =>
      have hz : zs = [] := by rw [← h]; rfl
      subst hz
      simp [readF]
    | cons k r =>
      obtain ⟨c, hc⟩ := some_at l (hr k (by simp))
      have h1 := hE c (List.mem_of_getElem? hc)
      have hcl := List.length_pos_iff.2 h1
      simp only [wordsOf, List.map_cons, List.flatten_cons, hc, Option.getD_some] at h
      have hz : zs.isEmpty = false := by
        rw [← h]
        cases hcc : c.1 with
        | nil => exact absurd hcc h1
        | cons a b => rfl
      unfold readF
      rw [hz]
      simp only [Bool.false_eq_true, if_false]
      refine List.mem_flatMap.2 ⟨k, by simpa using hr k (by simp), ?_⟩
      rw [hc]
      simp only
      rw [if_pos (begins_iff.2 ⟨_, h.symm⟩)]
      refine List.mem_map.2 ⟨r, readF_all hE f _ r ?_ (fun j hj => hr j (by simp [hj])) ?_, rfl⟩
      · have := congrArg List.length h
        simp at this ⊢
        omega
      · rw [← h]; simp [wordsOf]
theorem readF_fuel {l : List EntD} (hE : ∀ c ∈ l, c.1 ≠ []) : ∀ (f g : Nat) (zs : List Int), zs.length ≤ f → zs.length ≤ g → readF l f zs = readF l g zs
  | 0, 0, zs, _, _ => rfl
  | 0, g + 1, zs, h, _ => by
    have hz : zs = [] := List.eq_nil_of_length_eq_zero (by omega)
    subst hz
    rfl
  | f + 1, 0, zs, _, h => by
    have hz : zs = [] := List.eq_nil_of_length_eq_zero (by omega)
    subst hz
    rfl
  | f + 1, g + 1, zs, h1, h2 => by
    unfold readF
    split
    · rfl
    · rename_i hz
      congr 1
      funext k
      cases hc : l[k]? with
      | none => rfl
      | some c =>
        simp only
        split
        · have hcl := List.length_pos_iff.2 (hE c (List.mem_of_getElem? hc))
          have hzl : 0 < zs.length := by
            cases zs with
            | nil => simp at hz
            | cons a b => simp
          rw [readF_fuel hE f g _ (by simp; omega) (by simp; omega)]
        · rfl
theorem readF_nodup {l : List EntD} : ∀ (f : Nat) (zs : List Int), (readF l f zs).Nodup
  | 0, zs => by unfold readF; split <;> simp
  | f + 1, zs => by
    unfold readF
    split
    · simp
    · unfold List.Nodup
      rw [List.pairwise_flatMap]
      refine ⟨fun k _ => ?_, ?_⟩
      · cases hc : l[k]? with
        | none => simp
        | some c =>
          simp only
          split
          · rw [List.pairwise_map]
            exact (readF_nodup f _).imp fun h e => h (List.cons.inj e).2
          · simp
      · refine List.nodup_range.imp fun {i j} hij x hx y hy he => ?_
        subst he
        have hh : ∀ k, x ∈ (match l[k]? with | some c => if beginsB zs c.1 = true then (readF l f (zs.drop c.1.length)).map (k :: ·) else [] | none => []) → x.head? = some k := by
          intro k hk
          cases hc : l[k]? with
          | none => rw [hc] at hk; simp at hk
          | some c =>
            rw [hc] at hk
            simp only at hk
            split at hk
            · obtain ⟨q, -, rfl⟩ := List.mem_map.1 hk
              rfl
            · simp at hk
        have h1 := hh i hx
        have h2 := hh j hy
        rw [h1] at h2
        exact hij (Option.some.inj h2)
/-- Distinct readings read distinct words. -/
theorem wordsOf_inj {l : List EntD} (hi : ∀ (i j : Nat) a b, l[i]? = some a → l[j]? = some b → a.1 = b.1 → i = j) : ∀ (r q : List Nat), (∀ k ∈ r, k < l.length) → (∀ k ∈ q, k < l.length) → wordsOf l r = wordsOf l q → r = q
  | [], [], _, _, _ => rfl
  | [], b :: q, _, _, h => by simp [wordsOf] at h
  | a :: r, [], _, _, h => by simp [wordsOf] at h
  | a :: r, b :: q, hr, hq, h => by
    obtain ⟨x, hx⟩ := some_at l (hr a (by simp))
    obtain ⟨y, hy⟩ := some_at l (hq b (by simp))
    simp only [wordsOf, List.map_cons, List.cons.injEq, hx, hy, Option.getD_some] at h
    rw [hi a b x y hx hy h.1, wordsOf_inj hi r q (fun k hk => hr k (by simp [hk])) (fun k hk => hq k (by simp [hk])) h.2]

/-! ### The capped number -/
def cap1 : Nat := 1000001
def foldC (l : List EntD) (suf : List Int) (T : List Nat) : Nat → Nat
  | 0 => 0
  | k + 1 => match l[k]? with
    | some c => if beginsB suf c.1 then min cap1 (foldC l suf T k + T.getD (c.1.length - 1) 0) else foldC l suf T k
    | none => foldC l suf T k
theorem foldC_yes {l : List EntD} {suf : List Int} {T : List Nat} {k : Nat} {c : EntD} (hc : l[k]? = some c) (hb : beginsB suf c.1 = true) : foldC l suf T (k + 1) = min cap1 (foldC l suf T k + T.getD (c.1.length - 1) 0) := by
  rw [foldC, hc]; simp [hb]
theorem foldC_no {l : List EntD} {suf : List Int} {T : List Nat} {k : Nat} {c : EntD} (hc : l[k]? = some c) (hb : beginsB suf c.1 = false) : foldC l suf T (k + 1) = foldC l suf T k := by
  rw [foldC, hc]; simp [hb]
theorem foldC_le (l : List EntD) (suf : List Int) (T : List Nat) : ∀ k, foldC l suf T k ≤ cap1
  | 0 => by simp [foldC]
  | k + 1 => by
    have := foldC_le l suf T k
    unfold foldC
    split
    · split
      · exact Nat.min_le_left _ _
      · exact this
    · exact this
/-- The numbers of the last places: of place n - r up to place n. -/
def cntT (l : List EntD) (zs : List Int) : Nat → List Nat
  | 0 => [1]
  | r + 1 => foldC l (zs.drop (zs.length - (r + 1))) (cntT l zs r) l.length :: cntT l zs r
theorem cntT_length (l : List EntD) (zs : List Int) : ∀ r, (cntT l zs r).length = r + 1
  | 0 => rfl
  | r + 1 => by rw [cntT, List.length_cons, cntT_length l zs r]
theorem cntT_le (l : List EntD) (zs : List Int) : ∀ r, ∀ x ∈ cntT l zs r, x ≤ cap1
  | 0, x, h => by simp [cntT] at h; subst h; decide
  | r + 1, x, h => by
    rw [cntT] at h
    rcases List.mem_cons.1 h with rfl | h
    · exact foldC_le _ _ _ _
    · exact cntT_le l zs r x h
def cntD (l : List EntD) (zs : List Int) : Nat := (cntT l zs zs.length).headD 0
def numR (l : List EntD) (zs : List Int) : Nat := min cap1 (readD l zs).length
theorem numR_nil (l : List EntD) : numR l [] = 1 := by simp [numR, readD, readF]; decide
theorem sum_range_succ (g : Nat → Nat) (k : Nat) : ((List.range (k + 1)).map g).sum = ((List.range k).map g).sum + g k := by
  rw [List.range_succ, List.map_append, List.sum_append]; simp
theorem foldC_num {l : List EntD} (hE : ∀ c ∈ l, c.1 ≠ []) {suf : List Int} {T : List Nat} (hs : suf ≠ []) (hT : ∀ j, j < suf.length → T.getD j 0 = numR l (suf.drop (j + 1))) :
    ∀ k, k ≤ l.length → foldC l suf T k = min cap1 ((List.range k).map fun k => (match l[k]? with | some c => if beginsB suf c.1 then (readF l (suf.length - 1) (suf.drop c.1.length)).map (k :: ·) else [] | none => []).length).sum
  | 0, _ => by simp [foldC]
  | k + 1, hk => by
    have ih := foldC_num hE hs hT k (by omega)
    obtain ⟨c, hc⟩ := some_at l (show k < l.length by omega)
    rw [sum_range_succ, hc]
    simp only
    cases hb : beginsB suf c.1 with
    | false => rw [foldC_no hc hb, ih]; simp
    | true =>
      have hcl := List.length_pos_iff.2 (hE c (List.mem_of_getElem? hc))
      have hle : c.1.length ≤ suf.length := by
        obtain ⟨x, hx⟩ := begins_iff.1 hb
        rw [hx]; simp
      rw [foldC_yes hc hb, ih, hT _ (by omega), show c.1.length - 1 + 1 = c.1.length by omega]
      simp only [if_true, List.length_map]
      have : (readD l (suf.drop c.1.length)) = readF l (suf.length - 1) (suf.drop c.1.length) := readF_fuel hE _ _ _ (Nat.le_refl _) (by simp; omega)
      unfold numR
      rw [this]
      omega
theorem cntT_num {l : List EntD} (hE : ∀ c ∈ l, c.1 ≠ []) (zs : List Int) : ∀ r, r ≤ zs.length → ∀ j, j ≤ r → (cntT l zs r).getD j 0 = numR l (zs.drop (zs.length - r + j))
  | 0, _, j, hj => by
    obtain rfl : j = 0 := by omega
    simp [cntT, numR_nil]
  | r + 1, hr, j, hj => by
    have ih := cntT_num hE zs r (by omega)
    rw [cntT]
    cases j with
    | succ j =>
      rw [List.getD_cons_succ, ih j (by omega)]
      congr 2
      omega
    | zero =>
      rw [List.getD_cons_zero]
      have hsl : (zs.drop (zs.length - (r + 1))).length = r + 1 := by simp; omega
      have hs : zs.drop (zs.length - (r + 1)) ≠ [] := by
        intro e
        rw [e] at hsl
        simp at hsl
      rw [foldC_num hE hs (fun j hj => by
        rw [ih j (by omega), List.drop_drop]
        congr 2
        omega) _ (Nat.le_refl _)]
      unfold numR readD
      simp only [Nat.add_zero]
      rw [hsl, Nat.add_sub_cancel, readF.eq_2]
      have he : (zs.drop (zs.length - (r + 1))).isEmpty = false := by
        cases h : zs.drop (zs.length - (r + 1)) with
        | nil => exact absurd h hs
        | cons a b => rfl
      rw [he]
      simp only [Bool.false_eq_true, if_false, List.length_flatMap]
theorem cntD_num {l : List EntD} (hE : ∀ c ∈ l, c.1 ≠ []) (zs : List Int) : cntD l zs = numR l zs := by
  have h := cntT_num hE zs zs.length (Nat.le_refl _) 0 (by omega)
  have hl := cntT_length l zs zs.length
  unfold cntD
  cases hc : cntT l zs zs.length with
  | nil => rw [hc] at hl; simp at hl
  | cons a b =>
    rw [hc] at h
    simpa using h
end Go.Proofs.YtkclolejoijelaaDoor
