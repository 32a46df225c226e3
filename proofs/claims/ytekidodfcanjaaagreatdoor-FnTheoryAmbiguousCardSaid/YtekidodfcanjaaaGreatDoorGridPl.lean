/-
  Rows that two loops over the entries collect, and what BoundaryConflicts and SegmentationErrors return: plain values. No program is named here.
-/
import Derived.Test.YtekidodfcanjaaaGreatDoorDictPl
import Derived.Test.YtekidodfcanjaaaGreatDoorSrchPl
namespace Go.Proofs.YtekidodfcanjaaaGreatDoor
set_option linter.unusedVariables false

def gK (f : Nat → Nat → Option (List Int)) (i : Nat) : Nat → List (List Int)
  | 0 => []
  | m + 1 => gK f i m ++ (f i m).toList
def gT (f : Nat → Nat → Option (List Int)) (n : Nat) : Nat → List (List Int)
  | 0 => []
  | k + 1 => gT f n k ++ gK f k n
section
variable {f : Nat → Nat → Option (List Int)} {i m n k : Nat} {r : List Int}
theorem gK_yes (h : f i m = some r) : gK f i (m + 1) = gK f i m ++ [r] := by simp [gK, h]
theorem gK_no (h : f i m = none) : gK f i (m + 1) = gK f i m := by simp [gK, h]
theorem gT_next : gT f n (k + 1) = gT f n k ++ gK f k n := rfl
end
theorem gK_len (f : Nat → Nat → Option (List Int)) (i : Nat) : ∀ m, (gK f i m).length ≤ m
  | 0 => by simp [gK]
  | m + 1 => by
    have := gK_len f i m
    rw [gK, List.length_append]
    cases f i m <;> simp <;> omega
theorem gT_len (f : Nat → Nat → Option (List Int)) (n : Nat) : ∀ k, (gT f n k).length ≤ k * n
  | 0 => by simp [gT]
  | k + 1 => by
    have h1 := gT_len f n k
    have h2 := gK_len f k n
    rw [gT, List.length_append, Nat.succ_mul]
    omega
theorem gK_mem {f : Nat → Nat → Option (List Int)} {i : Nat} {r : List Int} : ∀ {m : Nat}, r ∈ gK f i m → ∃ k, k < m ∧ f i k = some r
  | 0, h => by simp [gK] at h
  | m + 1, h => by
    rw [gK] at h
    rcases List.mem_append.1 h with h | h
    · obtain ⟨k, hk, he⟩ := gK_mem h
      exact ⟨k, by omega, he⟩
    · refine ⟨m, by omega, ?_⟩
      cases hf : f i m with
      | none => rw [hf] at h; simp at h
      | some x => rw [hf] at h; simp at h; rw [h]
theorem gT_mem {f : Nat → Nat → Option (List Int)} {n : Nat} {r : List Int} : ∀ {k : Nat}, r ∈ gT f n k → ∃ i m, i < k ∧ m < n ∧ f i m = some r
  | 0, h => by simp [gT] at h
  | k + 1, h => by
    rw [gT] at h
    rcases List.mem_append.1 h with h | h
    · obtain ⟨i, m, h1, h2, h3⟩ := gT_mem h
      exact ⟨i, m, by omega, h2, h3⟩
    · obtain ⟨m, h2, h3⟩ := gK_mem h
      exact ⟨k, m, by omega, h2, h3⟩

/-! ### Boundary conflicts -/
def bndF (l : List EntD) (i k : Nat) : Option (List Int) := match l[i]?, l[k]? with
  | some a, some b => if 0 ≤ findD l (a.1 ++ b.1) then some [(i : Int), (k : Int), findD l (a.1 ++ b.1)] else none
  | _, _ => none
theorem bndF_yes {l : List EntD} {i k : Nat} {a b : EntD} (ha : l[i]? = some a) (hb : l[k]? = some b) (h : 0 ≤ findD l (a.1 ++ b.1)) : bndF l i k = some [(i : Int), (k : Int), findD l (a.1 ++ b.1)] := by simp [bndF, ha, hb, h]
theorem bndF_no {l : List EntD} {i k : Nat} {a b : EntD} (ha : l[i]? = some a) (hb : l[k]? = some b) (h : ¬ 0 ≤ findD l (a.1 ++ b.1)) : bndF l i k = none := by simp only [bndF, ha, hb]; rw [if_neg h]
theorem bndF_row {l : List EntD} {i k : Nat} {r : List Int} (h : bndF l i k = some r) : r.length ≤ 3 := by
  unfold bndF at h
  split at h
  · split at h
    · simp at h; subst h; simp
    · cases h
  · cases h
def bndD (l : List EntD) : List (List Int) := if dictB l then gT (bndF l) l.length l.length else []
theorem bndD_no {l : List EntD} (h : dictB l = false) : bndD l = [] := by simp [bndD, h]
theorem bndD_yes {l : List EntD} (h : dictB l = true) : bndD l = gT (bndF l) l.length l.length := by simp [bndD, h]
theorem bndD_len (l : List EntD) : (bndD l).length ≤ 1600 := by
  unfold bndD
  split
  · rename_i h
    have h40 := dict_len h
    have h1 := gT_len (bndF l) l.length l.length
    have h2 : l.length * l.length ≤ 40 * 40 := Nat.mul_le_mul h40 h40
    omega
  · simp
theorem bndD_row (l : List EntD) : ∀ r ∈ bndD l, r.length ≤ 3 := by
  unfold bndD
  split
  · intro r hr
    obtain ⟨i, m, -, -, h⟩ := gT_mem hr
    exact bndF_row h
  · simp

/-! ### Segmentation errors -/
def segFst (ps : List PieceD) : Nat := match ps[0]? with | some p => p.2.1 | none => 0
def segBad (l : List EntD) (x y : List Int) : Bool := decide ((segD l (x ++ y)).length ≠ 2) || decide (segFst (segD l (x ++ y)) ≠ x.length)
def errF (l : List EntD) (i k : Nat) : Option (List Int) := match l[i]?, l[k]? with
  | some a, some b => if segBad l a.1 b.1 then some [(i : Int), (k : Int)] else none
  | _, _ => none
theorem errF_yes {l : List EntD} {i k : Nat} {a b : EntD} (ha : l[i]? = some a) (hb : l[k]? = some b) (h : segBad l a.1 b.1 = true) : errF l i k = some [(i : Int), (k : Int)] := by simp [errF, ha, hb, h]
theorem errF_no {l : List EntD} {i k : Nat} {a b : EntD} (ha : l[i]? = some a) (hb : l[k]? = some b) (h : segBad l a.1 b.1 = false) : errF l i k = none := by simp [errF, ha, hb, h]
theorem errF_row {l : List EntD} {i k : Nat} {r : List Int} (h : errF l i k = some r) : r.length ≤ 2 := by
  unfold errF at h
  split at h
  · split at h
    · simp at h; subst h; simp
    · cases h
  · cases h
def errD (l : List EntD) : List (List Int) := if dictB l then gT (errF l) l.length l.length else []
theorem errD_no {l : List EntD} (h : dictB l = false) : errD l = [] := by simp [errD, h]
theorem errD_yes {l : List EntD} (h : dictB l = true) : errD l = gT (errF l) l.length l.length := by simp [errD, h]
theorem errD_len (l : List EntD) : (errD l).length ≤ 1600 := by
  unfold errD
  split
  · rename_i h
    have h40 := dict_len h
    have h1 := gT_len (errF l) l.length l.length
    have h2 : l.length * l.length ≤ 40 * 40 := Nat.mul_le_mul h40 h40
    omega
  · simp
theorem errD_row (l : List EntD) : ∀ r ∈ errD l, r.length ≤ 2 := by
  unfold errD
  split
  · intro r hr
    obtain ⟨i, m, -, -, h⟩ := gT_mem hr
    exact errF_row h
  · simp
/-- Where the first piece is an entry's outline, the rest is the other entry. -/
theorem match_tail {l : List EntD} (hv : dictB l = true) {x : List Int} {k : Nat} {b : EntD} (hb : l[k]? = some b) : matchD l (x ++ b.1) x.length = (b.1.length, b.2) := by
  have hl := dict_out hv hb
  obtain ⟨m, hm⟩ : ∃ m, b.1.length = m + 1 := ⟨b.1.length - 1, by omega⟩
  unfold matchD
  rw [tryN_cap l (x ++ b.1) x.length 6 (m + 1) (by simp; omega) (by omega)]
  have hp : part (x ++ b.1) x.length (m + 1) = b.1 := by
    simp only [part, List.drop_left]
    rw [← hm, List.take_of_length_le (Nat.le_refl _)]
  rw [tryN_hit (by simp; omega) (by rw [hp]; exact (lookD_ent hv hb).2), hm]
theorem seg_first {l : List EntD} {zs : List Int} (h : 0 < zs.length) : segD l zs = (0, (matchD l zs 0).1, (matchD l zs 0).2) :: segF l zs (zs.length - 1) (matchD l zs 0).1 := by
  unfold segD
  rw [show zs.length = (zs.length - 1) + 1 by omega, segF, if_pos (by omega), Nat.zero_add]
  simp
/-- Two pieces, the first of an entry's length: the second is the other entry. -/
theorem seg_two {l : List EntD} (hv : dictB l = true) {i k : Nat} {a b : EntD} (ha : l[i]? = some a) (hb : l[k]? = some b) (hf : segFst (segD l (a.1 ++ b.1)) = a.1.length) : (segD l (a.1 ++ b.1))[1]? = some (a.1.length, b.1.length, b.2) := by
  have hla := dict_out hv ha
  have hlb := dict_out hv hb
  have hz : 0 < (a.1 ++ b.1).length := by rw [List.length_append]; omega
  rw [seg_first hz] at hf ⊢
  simp only [segFst, List.getElem?_cons_zero] at hf
  rw [hf, List.getElem?_cons_succ, show (a.1 ++ b.1).length - 1 = ((a.1 ++ b.1).length - 2) + 1 by rw [List.length_append]; omega, segF, if_pos (by rw [List.length_append]; omega)]
  rw [match_tail hv hb]
  rfl
theorem seg_one {l : List EntD} {zs : List Int} (h : 0 < zs.length) : 0 < (segD l zs).length := by rw [seg_first h]; simp
end Go.Proofs.YtekidodfcanjaaaGreatDoor
namespace Go.Proofs.YtekidodfcanjaaaGreatDoor
set_option linter.unusedVariables false
set_option linter.unusedSimpArgs false

theorem pairK_nil {l : List EntD} {o : List Int} {i : Nat} : ∀ m, pairK l o i m = [] → ∀ (j : Nat) d, j < m → l[j]? = some d → pairB i j o d.1 = false
  | 0, _, j, d, h, _ => absurd h (Nat.not_lt_zero _)
  | m + 1, h, j, d, hj, hd => by
    rw [pairK] at h
    obtain ⟨h1, h2⟩ := List.append_eq_nil_iff.1 h
    by_cases e : j = m
    · subst e
      rw [hd] at h2
      cases hb : pairB i j o d.1 with
      | false => rfl
      | true => simp [hb] at h2
    · exact pairK_nil m h1 j d (by omega) hd
theorem pairT_nil {l : List EntD} : ∀ k, pairT l k = [] → ∀ (i : Nat) c, i < k → l[i]? = some c → pairK l c.1 i l.length = []
  | 0, _, i, c, h, _ => absurd h (Nat.not_lt_zero _)
  | k + 1, h, i, c, hi, hc => by
    rw [pairT] at h
    obtain ⟨h1, h2⟩ := List.append_eq_nil_iff.1 h
    by_cases e : i = k
    · subst e
      rw [hc] at h2
      exact h2
    · exact pairT_nil k h1 i c (by omega) hc
theorem no_reach {l : List EntD} (hv : dictB l = true) (hp : pairD l = []) {r a : List Int} : ¬ Reach (outsD l) r a := fun h => by
  rw [pairD, if_pos hv] at hp
  induction h with
  | start hs =>
    obtain ⟨p, h1, h2, h3, h4, -⟩ := hs
    obtain ⟨k, d, hk, rfl⟩ := outs_at h1
    obtain ⟨i, c, hi, rfl⟩ := outs_at h2
    have hkl := (List.getElem?_eq_some_iff.1 hk).1
    have hil := (List.getElem?_eq_some_iff.1 hi).1
    have h5 := pairK_nil _ (pairT_nil _ hp k d hkl hk) i c hil hi
    have hne : ¬ k = i := fun e => by
      rw [← e, hk] at hi
      cases hi
      omega
    simp [pairB, hne, h4] at h5
  | step _ _ _ ih => exact ih
theorem uniq_iff {l : List EntD} (hv : dictB l = true) : (uniqB l = true ↔ ambD l = []) := by
  unfold uniqB
  rw [hv, Bool.true_and, decide_eq_true_eq, List.length_eq_zero_iff]
/-- A dictionary without prefix pairs is uniquely readable. -/
theorem pairs_uniq {l : List EntD} (hv : dictB l = true) (hres : AmbRes (outsD l) (ambD l)) (hp : pairD l = []) : uniqB l = true :=
  (uniq_iff hv).2 ((amb_some hres).2.2 (fun s => no_reach hv hp))
theorem two_mem {α : Type} {L : List α} {a b : α} (ha : a ∈ L) (hb : b ∈ L) (h : a ≠ b) : 2 ≤ L.length := by
  match L, ha, hb with
  | [], ha, _ => cases ha
  | [x], ha, hb =>
    rw [List.mem_singleton] at ha hb
    exact absurd (ha.trans hb.symm) h
  | x :: y :: L, _, _ => simp
/-- A row of a boundary conflict. -/
theorem bnd_row {l : List EntD} {r : List Int} (hr : r ∈ bndD l) : dictB l = true ∧ ∃ (i k m : Nat) (a b c : EntD), r = [(i : Int), (k : Int), (m : Int)] ∧ l[i]? = some a ∧ l[k]? = some b ∧ l[m]? = some c ∧ c.1 = a.1 ++ b.1 := by
  unfold bndD at hr
  split at hr
  · rename_i hv
    refine ⟨hv, ?_⟩
    obtain ⟨i, k, hi, hk, hf⟩ := gT_mem hr
    obtain ⟨a, ha⟩ : ∃ a, l[i]? = some a := ⟨_, List.getElem?_eq_getElem hi⟩
    obtain ⟨b, hb⟩ : ∃ b, l[k]? = some b := ⟨_, List.getElem?_eq_getElem hk⟩
    by_cases h0 : 0 ≤ findD l (a.1 ++ b.1)
    · rw [bndF_yes ha hb h0] at hf
      rcases findD_cases l (a.1 ++ b.1) with ⟨h1, -⟩ | ⟨m, c, h1, h2, h3⟩
      · omega
      · rw [h1] at hf
        exact ⟨i, k, m, a, b, c, (Option.some.inj hf).symm, ha, hb, h2, h3⟩
    · rw [bndF_no ha hb h0] at hf
      cases hf
  · cases hr
theorem bnd_two {l : List EntD} (hv : dictB l = true) {i k m : Nat} {a b c : EntD} (ha : l[i]? = some a) (hb : l[k]? = some b) (hc : l[m]? = some c) (h : c.1 = a.1 ++ b.1) : 2 ≤ (readD l c.1).length := by
  have hil := (List.getElem?_eq_some_iff.1 ha).1
  have hkl := (List.getElem?_eq_some_iff.1 hb).1
  have hml := (List.getElem?_eq_some_iff.1 hc).1
  have m1 : [m] ∈ readD l c.1 := readF_all (dict_ne hv) _ _ _ (Nat.le_refl _) (by simpa using hml) (by simp [wordsOf, hc])
  have m2 : [i, k] ∈ readD l c.1 := readF_all (dict_ne hv) _ _ _ (Nat.le_refl _) (by simp; omega) (by simp [wordsOf, ha, hb, h])
  exact two_mem m1 m2 (by simp)
theorem dict_strokes {l : List EntD} (hv : dictB l = true) {m : Nat} {c : EntD} (hc : l[m]? = some c) : strokesB c.1 = true := by
  have h1 := (ent_parts (dict_ent hv hc)).1
  have h2 := out_len h1
  simp only [outB, Bool.and_eq_true] at h1
  simp only [strokesB, Bool.and_eq_true, decide_eq_true_eq]
  exact ⟨by omega, h1.2⟩
theorem bnd_count {l : List EntD} {r : List Int} (hr : r ∈ bndD l) : dictB l = true ∧ ∃ (i k m : Nat) (c : EntD), r = [(i : Int), (k : Int), (m : Int)] ∧ l[m]? = some c ∧ strokesB c.1 = true ∧ 2 ≤ cntD l c.1 ∧ cntD l c.1 ≤ 1000000 := by
  obtain ⟨hv, i, k, m, a, b, c, h1, h2, h3, h4, h5⟩ := bnd_row hr
  have h6 := bnd_two hv h2 h3 h4 h5
  obtain ⟨h7, h8⟩ := numR_few hv (dict_out hv h4).2
  have h9 := cntD_num (dict_ne hv) c.1
  exact ⟨hv, i, k, m, c, h1, h4, dict_strokes hv h4, by omega, by omega⟩
/-- A boundary conflict makes a dictionary ambiguous. -/
theorem bnd_ambig {l : List EntD} (hres : AmbRes (outsD l) (ambD l)) {r : List Int} (hr : r ∈ bndD l) : uniqB l = false := by
  obtain ⟨hv, i, k, m, a, b, c, h1, h2, h3, h4, h5⟩ := bnd_row hr
  obtain ⟨s, hs, -⟩ := two_search hv (bnd_two hv h2 h3 h4 h5)
  cases hu : uniqB l with
  | false => rfl
  | true =>
    have := (amb_some hres).2.1 ((uniq_iff hv).1 hu)
    exact absurd hs (this s)
/-- The least list with two readings has two, a shorter one has not. -/
theorem amb_two {l : List EntD} (hv : dictB l = true) (hres : AmbRes (outsD l) (ambD l)) (h0 : 0 < (ambD l).length) : 2 ≤ cntD l (ambD l) := by
  have h1 := ((amb_some hres).1.1 h0).1
  rw [cntD_num (dict_ne hv)]
  exact numR_two.2 (reach_two hv h1)
theorem amb_short {l : List EntD} (hv : dictB l = true) (hres : AmbRes (outsD l) (ambD l)) (h0 : 0 < (ambD l).length) {zs : List Int} (hz : zs.length < (ambD l).length) : cntD l zs ≤ 1 := by
  rcases Nat.lt_or_ge 1 (cntD l zs) with h | h
  · rw [cntD_num (dict_ne hv)] at h
    obtain ⟨s, hs, hl⟩ := two_search hv (numR_two.1 h)
    have h2 := ((amb_some hres).1.1 h0).2 s hs
    rcases h2 with h3 | ⟨h3, -⟩ <;> omega
  · exact h
theorem uniq_one {l : List EntD} (hres : dictB l = true → AmbRes (outsD l) (ambD l)) (hu : uniqB l = true) (zs : List Int) : cntD l zs ≤ 1 := by
  have hv : dictB l = true := by
    unfold uniqB at hu
    rw [Bool.and_eq_true] at hu
    exact hu.1
  rcases Nat.lt_or_ge 1 (cntD l zs) with h | h
  · rw [cntD_num (dict_ne hv)] at h
    obtain ⟨s, hs, -⟩ := two_search hv (numR_two.1 h)
    exact absurd hs ((amb_some (hres hv)).2.1 ((uniq_iff hv).1 hu) s)
  · exact h
end Go.Proofs.YtekidodfcanjaaaGreatDoor
