/-
  What the stable sort of a row does: exchanges of blocks, rotations, merges; plain values. No program is named here.
-/
import Derived.Test.YtfgfbnmcihjfmaaFreqPl
namespace Go.Proofs.Ytfgfbnmcihjfmaa
set_option linter.unusedVariables false
set_option linter.unusedSimpArgs false

/-! ### Exchanges -/
/-- The elements at i and j exchanged. -/
def exch (xs : List Int) (i j : Nat) : List Int := (xs.set i (xs[j]?.getD 0)).set j (xs[i]?.getD 0)
theorem exch_length (xs : List Int) (i j : Nat) : (exch xs i j).length = xs.length := by simp [exch]
theorem exch_at {xs : List Int} {i j : Nat} {x y : Int} (hi : xs[i]? = some x) (hj : xs[j]? = some y) : exch xs i j = (xs.set i y).set j x := by simp [exch, hi, hj]
theorem exch_get {xs : List Int} {i j : Nat} (hi : i < xs.length) (hj : j < xs.length) (q : Nat) : (exch xs i j)[q]? = if q = j then xs[i]? else if q = i then xs[j]? else xs[q]? := by
  unfold exch
  rw [List.getElem?_eq_getElem hi, List.getElem?_eq_getElem hj]
  simp only [Option.getD_some]
  rw [List.getElem?_set, List.getElem?_set, List.length_set]
  by_cases h1 : j = q
  · subst h1; simp [hj]
  · rw [if_neg h1, if_neg (Ne.symm h1)]
    by_cases h2 : i = q
    · subst h2; simp [hi]
    · rw [if_neg h2, if_neg (Ne.symm h2)]
/-- k pairs exchanged: [a, a + k) with [b, b + k). -/
def Swapped (xs ys : List Int) (a b k : Nat) : Prop := ys.length = xs.length ∧ ∀ q, ys[q]? = if a ≤ q ∧ q < a + k then xs[q - a + b]? else if b ≤ q ∧ q < b + k then xs[q - b + a]? else xs[q]?
theorem swapped_zero (xs : List Int) (a b : Nat) : Swapped xs xs a b 0 := ⟨rfl, fun q => by rw [if_neg (by omega), if_neg (by omega)]⟩
theorem swapped_next {xs ys : List Int} {a b k n : Nat} (h : Swapped xs ys a b k) (hk : k < n) (hab : a + n ≤ b) (hb : b + n ≤ xs.length) : Swapped xs (exch ys (a + k) (b + k)) a b (k + 1) := by
  obtain ⟨h1, h2⟩ := h
  refine ⟨by rw [exch_length, h1], fun q => ?_⟩
  rw [exch_get (by omega) (by omega), h2, h2, h2]
  by_cases e1 : q = b + k
  · subst e1
    rw [if_pos rfl, if_neg (by omega), if_neg (by omega), if_neg (by omega), if_pos (by omega)]
    congr 1; omega
  · rw [if_neg e1]
    by_cases e2 : q = a + k
    · subst e2
      rw [if_pos rfl, if_neg (by omega), if_neg (by omega), if_pos (by omega)]
      congr 1; omega
    · rw [if_neg e2]
      by_cases e3 : a ≤ q ∧ q < a + k
      · rw [if_pos e3, if_pos (by omega)]
      · rw [if_neg e3, if_neg (show ¬ (a ≤ q ∧ q < a + (k + 1)) by omega)]
        by_cases e4 : b ≤ q ∧ q < b + k
        · rw [if_pos e4, if_pos (by omega)]
        · rw [if_neg e4, if_neg (by omega)]
theorem swapped_done {P X M Y S ys : List Int} (h : Swapped (P ++ (X ++ (M ++ (Y ++ S)))) ys P.length (P.length + X.length + M.length) X.length) (hxy : X.length = Y.length) : ys = P ++ (Y ++ (M ++ (X ++ S))) := by
  obtain ⟨h1, h2⟩ := h
  apply List.ext_getElem?
  intro q
  rw [h2]
  by_cases c1 : q < P.length
  · rw [if_neg (by omega), if_neg (by omega), List.getElem?_append_left c1, List.getElem?_append_left c1]
  rw [List.getElem?_append_right (l₁ := P) (l₂ := Y ++ (M ++ (X ++ S))) (by omega)]
  by_cases c2 : q < P.length + X.length
  · rw [if_pos (by omega), List.getElem?_append_right (by omega), List.getElem?_append_right (by omega), List.getElem?_append_right (by omega), List.getElem?_append_left (by omega), List.getElem?_append_left (by omega)]
    congr 1; omega
  rw [if_neg (by omega), List.getElem?_append_right (l₁ := Y) (l₂ := M ++ (X ++ S)) (by omega)]
  by_cases c3 : q < P.length + X.length + M.length
  · rw [if_neg (by omega), List.getElem?_append_right (by omega), List.getElem?_append_right (by omega), List.getElem?_append_left (by omega), List.getElem?_append_left (by omega)]
    congr 1; omega
  rw [List.getElem?_append_right (l₁ := M) (l₂ := X ++ S) (by omega)]
  by_cases c4 : q < P.length + X.length + M.length + X.length
  · rw [if_pos (by omega), List.getElem?_append_right (by omega), List.getElem?_append_left (by omega), List.getElem?_append_left (by omega)]
    congr 1; omega
  rw [if_neg (by omega), List.getElem?_append_right (l₁ := X) (l₂ := S) (by omega), List.getElem?_append_right (by omega), List.getElem?_append_right (by omega), List.getElem?_append_right (by omega), List.getElem?_append_right (by omega)]
  congr 1; omega
/-- How a rotation goes on: u and v are to change places. -/
structure Rot (xs T : List Int) (m i j : Nat) (P u v S : List Int) : Prop where
  cur : xs = P ++ (u ++ (v ++ S))
  tgt : T = P ++ (v ++ (u ++ S))
  at_ : P.length + i = m
  ul : u.length = i
  vl : v.length = j
section
variable {xs ys T P u v S : List Int} {m i j : Nat}
theorem Rot.left (h : Rot xs T m i j P u v S) (hij : j < i) (hs : Swapped xs ys (m - i) m j) : Rot ys T m (i - j) j (P ++ v) (u.drop j) (u.take j) S := by
  obtain ⟨rfl, rfl, h3, h4, h5⟩ := h
  have e1 : u = u.take j ++ u.drop j := (List.take_append_drop j u).symm
  have l1 : (u.take j).length = j := by rw [List.length_take]; omega
  have l2 : (u.drop j).length = i - j := by rw [List.length_drop]; omega
  generalize u.take j = u1 at *
  generalize u.drop j = u2 at *
  subst e1
  have hs2 : Swapped (P ++ (u1 ++ (u2 ++ (v ++ S)))) ys P.length (P.length + u1.length + u2.length) u1.length := by
    have a1 : P ++ (u1 ++ u2 ++ (v ++ S)) = P ++ (u1 ++ (u2 ++ (v ++ S))) := by simp
    have a2 : m - i = P.length := by omega
    have a3 : m = P.length + u1.length + u2.length := by omega
    rw [a1, a2, l1.symm] at hs
    rw [← a3]
    exact hs
  have hy := swapped_done hs2 (by omega)
  refine ⟨by rw [hy]; simp, by simp, by simp; omega, l2, l1⟩
theorem Rot.right (h : Rot xs T m i j P u v S) (hij : i < j) (hs : Swapped xs ys (m - i) (m + j - i) i) : Rot ys T m i (j - i) P (v.drop (j - i)) (v.take (j - i)) (u ++ S) := by
  obtain ⟨rfl, rfl, h3, h4, h5⟩ := h
  have e1 : v = v.take (j - i) ++ v.drop (j - i) := (List.take_append_drop (j - i) v).symm
  have l1 : (v.take (j - i)).length = j - i := by rw [List.length_take]; omega
  have l2 : (v.drop (j - i)).length = i := by rw [List.length_drop]; omega
  generalize v.take (j - i) = v1 at *
  generalize v.drop (j - i) = v2 at *
  subst e1
  have hs2 : Swapped (P ++ (u ++ (v1 ++ (v2 ++ S)))) ys P.length (P.length + u.length + v1.length) u.length := by
    have a1 : P ++ (u ++ (v1 ++ v2 ++ S)) = P ++ (u ++ (v1 ++ (v2 ++ S))) := by simp
    have a2 : m - i = P.length := by omega
    have a3 : m + j - i = P.length + u.length + v1.length := by omega
    rw [a1, a2, a3] at hs
    rw [h4]
    rw [h4] at hs
    exact hs
  have hy := swapped_done hs2 (by omega)
  refine ⟨by rw [hy], by simp, h3, l2, l1⟩
theorem Rot.done (h : Rot xs T m i i P u v S) (hs : Swapped xs ys (m - i) m i) : ys = T := by
  obtain ⟨rfl, rfl, h3, h4, h5⟩ := h
  have hs2 : Swapped (P ++ (u ++ ([] ++ (v ++ S)))) ys P.length (P.length + u.length + ([] : List Int).length) u.length := by
    have a2 : m - i = P.length := by omega
    have a3 : m = P.length + u.length + ([] : List Int).length := by simp; omega
    rw [List.nil_append, ← a3, h4, ← a2]
    exact hs
  have hy := swapped_done hs2 (by omega)
  rw [hy, List.nil_append]
end

/-! ### Two sorted runs made one -/
theorem exch_comm {xs : List Int} {i j : Nat} (hi : i < xs.length) (hj : j < xs.length) : exch xs i j = exch xs j i := by
  apply List.ext_getElem?
  intro q
  rw [exch_get hi hj, exch_get hj hi]
  by_cases h1 : q = j
  · by_cases h2 : q = i
    · rw [if_pos h1, if_pos h2]; rw [← h1, ← h2]
    · rw [if_pos h1, if_neg h2, if_pos h1]
  · by_cases h2 : q = i
    · rw [if_neg h1, if_pos h2, if_pos h2]
    · rw [if_neg h1, if_neg h2, if_neg h2, if_neg h1]
theorem exch_next {L R : List Int} {x y : Int} {k : Nat} (hk : L.length = k) : exch (L ++ (x :: y :: R)) k (k + 1) = L ++ (y :: x :: R) := by
  subst hk
  have h1 : (L ++ (x :: y :: R))[L.length]? = some x := by rw [List.getElem?_append_right (Nat.le_refl _), Nat.sub_self]; rfl
  have h2 : (L ++ (x :: y :: R))[L.length + 1]? = some y := by rw [List.getElem?_append_right (by omega), show L.length + 1 - L.length = 1 by omega]; rfl
  rw [exch_at h1 h2, List.set_append_right _ _ (Nat.le_refl _), List.set_append_right _ _ (by omega), Nat.sub_self, show L.length + 1 - L.length = 1 by omega]
  rfl
/-- Two sorted runs side by side; what stands in the first is less than what stands in the second. -/
structure Runs (c : Int → Int) (xs : List Int) (a m b : Nat) (P A B S : List Int) : Prop where
  eq : xs = P ++ (A ++ (B ++ S))
  pl : P.length = a
  al : a + A.length = m
  bl : m + B.length = b
  sa : A.Pairwise (Bef c)
  sb : B.Pairwise (Bef c)
  low : ∀ x ∈ A, ∀ y ∈ B, x < y
def Merged (c : Int → Int) (ys P A B S : List Int) : Prop := ∃ C, ys = P ++ (C ++ S) ∧ C.Perm (A ++ B) ∧ C.Pairwise (Bef c)
section
variable {c : Int → Int} {xs ys P A B S : List Int} {a m b q q' : Nat} {x y x' y' : Int}
theorem Runs.len (h : Runs c xs a m b P A B S) : xs.length = b + S.length := by
  obtain ⟨rfl, h1, h2, h3, -, -, -⟩ := h
  simp; omega
theorem Runs.atA (h : Runs c xs a m b P A B S) (h1 : a ≤ q) (h2 : q < m) : xs[q]? = A[q - a]? := by
  obtain ⟨rfl, k1, k2, k3, -, -, -⟩ := h
  rw [List.getElem?_append_right (by omega), List.getElem?_append_left (by omega), k1]
theorem Runs.atB (h : Runs c xs a m b P A B S) (h1 : m ≤ q) (h2 : q < b) : xs[q]? = B[q - m]? := by
  obtain ⟨rfl, k1, k2, k3, -, -, -⟩ := h
  rw [List.getElem?_append_right (by omega), List.getElem?_append_right (by omega), List.getElem?_append_left (by omega)]
  congr 1; omega
theorem pw_at {R : Int → Int → Prop} {l : List Int} (h : l.Pairwise R) {i j : Nat} (hij : i < j) (hx : l[i]? = some x) (hy : l[j]? = some y) : R x y := by
  obtain ⟨h1, rfl⟩ := List.getElem?_eq_some_iff.1 hx
  obtain ⟨h2, rfl⟩ := List.getElem?_eq_some_iff.1 hy
  exact List.pairwise_iff_getElem.1 h i j h1 h2 hij
theorem Runs.ordA (h : Runs c xs a m b P A B S) (h1 : a ≤ q) (h2 : q < q') (h3 : q' < m) (hx : xs[q]? = some x) (hy : xs[q']? = some y) : Bef c x y := by
  rw [h.atA h1 (by omega)] at hx
  rw [h.atA (by omega) h3] at hy
  exact pw_at h.sa (by omega) hx hy
theorem Runs.ordB (h : Runs c xs a m b P A B S) (h1 : m ≤ q) (h2 : q < q') (h3 : q' < b) (hx : xs[q]? = some x) (hy : xs[q']? = some y) : Bef c x y := by
  rw [h.atB h1 (by omega)] at hx
  rw [h.atB (by omega) h3] at hy
  exact pw_at h.sb (by omega) hx hy
theorem Runs.lowAB (h : Runs c xs a m b P A B S) (h1 : a ≤ q) (h2 : q < m) (h3 : m ≤ q') (h4 : q' < b) (hx : xs[q]? = some x) (hy : xs[q']? = some y) : x < y := by
  rw [h.atA h1 h2] at hx
  rw [h.atB h3 h4] at hy
  exact h.low x (List.mem_of_getElem? hx) y (List.mem_of_getElem? hy)
theorem Runs.memA (h : Runs c xs a m b P A B S) (hx : x ∈ A) : ∃ q, a ≤ q ∧ q < m ∧ xs[q]? = some x := by
  obtain ⟨j, hj⟩ := List.mem_iff_getElem?.1 hx
  have hl := (List.getElem?_eq_some_iff.1 hj).1
  have := h.al
  exact ⟨a + j, by omega, by omega, by rw [h.atA (by omega) (by omega), show a + j - a = j by omega]; exact hj⟩
theorem Runs.memB (h : Runs c xs a m b P A B S) (hx : x ∈ B) : ∃ q, m ≤ q ∧ q < b ∧ xs[q]? = some x := by
  obtain ⟨j, hj⟩ := List.mem_iff_getElem?.1 hx
  have hl := (List.getElem?_eq_some_iff.1 hj).1
  have := h.bl
  exact ⟨m + j, by omega, by omega, by rw [h.atB (by omega) (by omega), show m + j - m = j by omega]; exact hj⟩
theorem Runs.memA_take (h : Runs c xs a m b P A B S) {s : Nat} (hs : a ≤ s) (hx : x ∈ A.take (s - a)) : ∃ q, a ≤ q ∧ q < s ∧ q < m ∧ xs[q]? = some x := by
  obtain ⟨j, hj⟩ := List.mem_iff_getElem?.1 hx
  rw [List.getElem?_take] at hj
  split at hj
  · have hl := (List.getElem?_eq_some_iff.1 hj).1
    have := h.al
    exact ⟨a + j, by omega, by omega, by omega, by rw [h.atA (by omega) (by omega), show a + j - a = j by omega]; exact hj⟩
  · cases hj
theorem Runs.memA_drop (h : Runs c xs a m b P A B S) {s : Nat} (hs : a ≤ s) (hx : x ∈ A.drop (s - a)) : ∃ q, s ≤ q ∧ q < m ∧ xs[q]? = some x := by
  obtain ⟨j, hj⟩ := List.mem_iff_getElem?.1 hx
  rw [List.getElem?_drop] at hj
  have hl := (List.getElem?_eq_some_iff.1 hj).1
  have := h.al
  exact ⟨s + j, by omega, by omega, by rw [h.atA (by omega) (by omega), show s + j - a = s - a + j by omega]; exact hj⟩
theorem Runs.memB_take (h : Runs c xs a m b P A B S) {s : Nat} (hs : m ≤ s) (hx : x ∈ B.take (s - m)) : ∃ q, m ≤ q ∧ q < s ∧ q < b ∧ xs[q]? = some x := by
  obtain ⟨j, hj⟩ := List.mem_iff_getElem?.1 hx
  rw [List.getElem?_take] at hj
  split at hj
  · have hl := (List.getElem?_eq_some_iff.1 hj).1
    have := h.bl
    exact ⟨m + j, by omega, by omega, by omega, by rw [h.atB (by omega) (by omega), show m + j - m = j by omega]; exact hj⟩
  · cases hj
theorem Runs.memB_drop (h : Runs c xs a m b P A B S) {s : Nat} (hs : m ≤ s) (hx : x ∈ B.drop (s - m)) : ∃ q, s ≤ q ∧ q < b ∧ xs[q]? = some x := by
  obtain ⟨j, hj⟩ := List.mem_iff_getElem?.1 hx
  rw [List.getElem?_drop] at hj
  have hl := (List.getElem?_eq_some_iff.1 hj).1
  have := h.bl
  exact ⟨s + j, by omega, by omega, by rw [h.atB (by omega) (by omega), show s + j - m = s - m + j by omega]; exact hj⟩

/-! One element in the first run. -/
/-- What the search knows: below i all stand ahead of e, from j on e stands ahead. -/
def Seek1 (c : Int → Int) (xs : List Int) (m b : Nat) (e : Int) (i j : Nat) : Prop := (∀ q x, m ≤ q → q < i → xs[q]? = some x → Bef c x e) ∧ (∀ q x, j ≤ q → q < b → xs[q]? = some x → Bef c e x)
theorem seek1_start : Seek1 c xs m b x m b := ⟨fun q x h1 h2 => by omega, fun q x h1 h2 => by omega⟩
theorem Runs.seek1_up (h : Runs c xs a m b P A B S) {i j k : Nat} (hs : Seek1 c xs m b x i j) (hm : m ≤ k) (hk : k < b) (hy : xs[k]? = some y) (hb : Bef c y x) : Seek1 c xs m b x (k + 1) j := by
  refine ⟨fun q z h1 h2 hz => ?_, hs.2⟩
  by_cases e : q = k
  · subst e; rw [hy] at hz; injection hz with hz; subst hz; exact hb
  · exact bef_trans (h.ordB h1 (by omega) hk hz hy) hb
theorem Runs.seek1_down (h : Runs c xs a m b P A B S) {i j k : Nat} (hs : Seek1 c xs m b x i j) (hm : m ≤ k) (hk : k < b) (hy : xs[k]? = some y) (hb : Bef c x y) : Seek1 c xs m b x i k := by
  refine ⟨hs.1, fun q z h1 h2 hz => ?_⟩
  by_cases e : q = k
  · subst e; rw [hy] at hz; injection hz with hz; subst hz; exact hb
  · exact bef_trans hb (h.ordB hm (by omega) h2 hy hz)
/-- The row while e wanders into the second run: t of them have passed it. -/
def wand1 (P B S : List Int) (e : Int) (t : Nat) : List Int := P ++ (B.take t ++ (e :: (B.drop t ++ S)))
theorem wand1_zero (h : Runs c xs a m b P [x] B S) : xs = wand1 P B S x 0 := by rw [h.eq]; simp [wand1]
theorem wand1_next {e : Int} {t : Nat} (ht : t < B.length) : exch (wand1 P B S e t) (P.length + t) (P.length + t + 1) = wand1 P B S e (t + 1) := by
  obtain ⟨y, hy⟩ : ∃ y, B[t]? = some y := ⟨_, List.getElem?_eq_getElem ht⟩
  have e1 : B.drop t = y :: B.drop (t + 1) := by
    rw [List.drop_eq_getElem_cons ht]
    congr 1
    rw [List.getElem?_eq_getElem ht] at hy
    injection hy
  have e2 : wand1 P B S e t = (P ++ B.take t) ++ (e :: y :: (B.drop (t + 1) ++ S)) := by unfold wand1; rw [e1]; simp
  have hl : (P ++ B.take t).length = P.length + t := by simp; omega
  rw [e2, exch_next hl]
  unfold wand1
  rw [List.take_add_one, hy]
  simp
theorem wand1_at {e : Int} {t : Nat} (ht : t < B.length) : (wand1 P B S e t)[P.length + t]? = some e ∧ (wand1 P B S e t)[P.length + t + 1]? = B[t]? := by
  have hl : (B.take t).length = t := by rw [List.length_take]; omega
  unfold wand1
  constructor
  · rw [List.getElem?_append_right (by omega), List.getElem?_append_right (by omega), hl, show P.length + t - P.length - t = 0 by omega]; rfl
  · rw [List.getElem?_append_right (by omega), List.getElem?_append_right (by omega), hl, show P.length + t + 1 - P.length - t = 1 by omega, List.getElem?_cons_succ, List.getElem?_append_left (by rw [List.length_drop]; omega), List.getElem?_drop]; rfl
theorem wand1_length {e : Int} {t : Nat} : (wand1 P B S e t).length = P.length + B.length + 1 + S.length := by unfold wand1; simp; omega
theorem Runs.wand1_done (h : Runs c xs a m b P [x] B S) {i : Nat} (hs : Seek1 c xs m b x i i) (hmi : m ≤ i) (hib : i ≤ b) : Merged c (wand1 P B S x (i - m)) P [x] B S := by
  refine ⟨B.take (i - m) ++ (x :: B.drop (i - m)), by simp [wand1], ?_, ?_⟩
  · have h1 : (B.take (i - m) ++ (x :: B.drop (i - m))).Perm (x :: (B.take (i - m) ++ B.drop (i - m))) := List.perm_middle
    rw [List.take_append_drop] at h1
    exact h1
  · have hsp : (B.take (i - m) ++ B.drop (i - m)).Pairwise (Bef c) := by rw [List.take_append_drop]; exact h.sb
    rw [List.pairwise_append] at hsp
    rw [List.pairwise_append, List.pairwise_cons]
    refine ⟨hsp.1, ⟨fun y hy => ?_, hsp.2.1⟩, fun y hy z hz => ?_⟩
    · obtain ⟨q, h1, h2, h3⟩ := h.memB_drop hmi hy
      exact hs.2 q y h1 h2 h3
    · rcases List.mem_cons.1 hz with rfl | hz
      · obtain ⟨q, h1, h2, h3, h4⟩ := h.memB_take hmi hy
        exact hs.1 q y h1 h2 h4
      · exact hsp.2.2 y hy z hz

/-! One element in the second run. -/
theorem Runs.seek2_up (h : Runs c xs a m b P A B S) {i j k : Nat} (hs : Seek1 c xs a m x i j) (hm : a ≤ k) (hk : k < m) (hy : xs[k]? = some y) (hb : Bef c y x) : Seek1 c xs a m x (k + 1) j := by
  refine ⟨fun q z h1 h2 hz => ?_, hs.2⟩
  by_cases e : q = k
  · subst e; rw [hy] at hz; injection hz with hz; subst hz; exact hb
  · exact bef_trans (h.ordA h1 (by omega) hk hz hy) hb
theorem Runs.seek2_down (h : Runs c xs a m b P A B S) {i j k : Nat} (hs : Seek1 c xs a m x i j) (hm : a ≤ k) (hk : k < m) (hy : xs[k]? = some y) (hb : Bef c x y) : Seek1 c xs a m x i k := by
  refine ⟨hs.1, fun q z h1 h2 hz => ?_⟩
  by_cases e : q = k
  · subst e; rw [hy] at hz; injection hz with hz; subst hz; exact hb
  · exact bef_trans hb (h.ordA hm (by omega) h2 hy hz)
theorem wand2_start (h : Runs c xs a m b P A [x] S) : xs = wand1 P A S x A.length := by rw [h.eq]; simp [wand1]
theorem wand2_next {e : Int} {t : Nat} (ht : t < A.length) : exch (wand1 P A S e (t + 1)) (P.length + t + 1) (P.length + t) = wand1 P A S e t := by
  obtain ⟨y, hy⟩ : ∃ y, A[t]? = some y := ⟨_, List.getElem?_eq_getElem ht⟩
  have e1 : A.drop t = y :: A.drop (t + 1) := by
    rw [List.drop_eq_getElem_cons ht]
    congr 1
    rw [List.getElem?_eq_getElem ht] at hy
    injection hy
  have e2 : wand1 P A S e (t + 1) = (P ++ A.take t) ++ (y :: e :: (A.drop (t + 1) ++ S)) := by
    unfold wand1
    rw [List.take_add_one, hy]
    simp
  have hl : (P ++ A.take t).length = P.length + t := by simp; omega
  rw [exch_comm (by rw [wand1_length]; omega) (by rw [wand1_length]; omega), e2, exch_next hl]
  unfold wand1
  rw [e1]
  simp
theorem wand2_at {e : Int} {t : Nat} (ht : t < A.length) : (wand1 P A S e (t + 1))[P.length + t + 1]? = some e ∧ (wand1 P A S e (t + 1))[P.length + t]? = A[t]? := by
  have hl : (A.take (t + 1)).length = t + 1 := by rw [List.length_take]; omega
  unfold wand1
  constructor
  · rw [List.getElem?_append_right (by omega), List.getElem?_append_right (by omega), hl, show P.length + t + 1 - P.length - (t + 1) = 0 by omega]; rfl
  · rw [List.getElem?_append_right (by omega), List.getElem?_append_left (by omega), show P.length + t - P.length = t by omega, List.getElem?_take, if_pos (by omega)]
theorem Runs.wand2_done (h : Runs c xs a m b P A [x] S) {i : Nat} (hs : Seek1 c xs a m x i i) (hai : a ≤ i) (him : i ≤ m) : Merged c (wand1 P A S x (i - a)) P A [x] S := by
  refine ⟨A.take (i - a) ++ (x :: A.drop (i - a)), by simp [wand1], ?_, ?_⟩
  · have h1 : (A.take (i - a) ++ (x :: A.drop (i - a))).Perm (x :: (A.take (i - a) ++ A.drop (i - a))) := List.perm_middle
    rw [List.take_append_drop] at h1
    exact h1.trans (List.perm_append_singleton x A).symm
  · have hsp : (A.take (i - a) ++ A.drop (i - a)).Pairwise (Bef c) := by rw [List.take_append_drop]; exact h.sa
    rw [List.pairwise_append] at hsp
    rw [List.pairwise_append, List.pairwise_cons]
    refine ⟨hsp.1, ⟨fun y hy => ?_, hsp.2.1⟩, fun y hy z hz => ?_⟩
    · obtain ⟨q, h1, h2, h3⟩ := h.memA_drop hai hy
      exact hs.2 q y h1 h2 h3
    · rcases List.mem_cons.1 hz with rfl | hz
      · obtain ⟨q, h1, h2, h3, h4⟩ := h.memA_take hai hy
        exact hs.1 q y h1 h2 h4
      · exact hsp.2.2 y hy z hz

/-! The halves. -/
/-- What the search over both runs knows. -/
def Seek3 (c : Int → Int) (xs : List Int) (p lo hi s r : Nat) : Prop := (∀ q x y, lo ≤ q → q < s → xs[q]? = some x → xs[p - q]? = some y → Bef c x y) ∧ (∀ q x y, r ≤ q → q < hi → xs[q]? = some x → xs[p - q]? = some y → Bef c y x)
theorem seek3_start {p lo hi : Nat} : Seek3 c xs p lo hi lo hi := ⟨fun q x y h1 h2 => by omega, fun q x y h1 h2 => by omega⟩
/-- Where the search goes. -/
structure Range (a m b mid p lo hi : Nat) : Prop where
  am : a < m
  mb : m < b
  hmid : mid = (a + b) / 2
  hp : p + 1 = mid + m
  hlo : (mid < m ∧ lo + b = mid + m ∧ hi = mid) ∨ (m ≤ mid ∧ lo = a ∧ hi = m)
theorem Range.in_ {mid p lo hi k : Nat} (g : Range a m b mid p lo hi) (h1 : lo ≤ k) (h2 : k < hi) : a ≤ k ∧ k < m ∧ m ≤ p - k ∧ p - k < b ∧ k ≤ p := by
  obtain ⟨g1, g2, g3, g4, g5⟩ := g
  omega
theorem Runs.seek3_up (h : Runs c xs a m b P A B S) {mid p lo hi s r k : Nat} (g : Range a m b mid p lo hi) (hs : Seek3 c xs p lo hi s r) (hk : lo ≤ k) (hk2 : k < hi) (hx : xs[k]? = some x) (hy : xs[p - k]? = some y) (hb : Bef c x y) : Seek3 c xs p lo hi (k + 1) r := by
  have gk := g.in_ hk hk2
  refine ⟨fun q z u h1 h2 hz hu => ?_, hs.2⟩
  by_cases e : q = k
  · subst e; rw [hx] at hz; rw [hy] at hu; injection hz with hz; injection hu with hu; subst hz hu; exact hb
  · have gq := g.in_ h1 (by omega)
    exact bef_trans (h.ordA gq.1 (by omega) gk.2.1 hz hx) (bef_trans hb (h.ordB gk.2.2.1 (by omega) gq.2.2.2.1 hy hu))
theorem Runs.seek3_down (h : Runs c xs a m b P A B S) {mid p lo hi s r k : Nat} (g : Range a m b mid p lo hi) (hs : Seek3 c xs p lo hi s r) (hk : lo ≤ k) (hk2 : k < hi) (hx : xs[k]? = some x) (hy : xs[p - k]? = some y) (hb : Bef c y x) : Seek3 c xs p lo hi s k := by
  have gk := g.in_ hk hk2
  refine ⟨hs.1, fun q z u h1 h2 hz hu => ?_⟩
  by_cases e : q = k
  · subst e; rw [hx] at hz; rw [hy] at hu; injection hz with hz; injection hu with hu; subst hz hu; exact hb
  · have gq := g.in_ (show lo ≤ q by omega) h2
    exact bef_trans (bef_trans (h.ordB gq.2.2.1 (by omega) gk.2.2.2.1 hu hy) hb) (h.ordA gk.1 (by omega) gq.2.1 hx hz)
/-- The halves when the search has ended at s; e is where the second run is cut. -/
structure Halves (c : Int → Int) (a m b mid s e : Nat) (A B : List Int) : Prop where
  as_ : a ≤ s
  sm : s ≤ m
  me : m ≤ e
  eb : e ≤ b
  sum : e + s = mid + m
  ord : ∀ x ∈ A.take (s - a) ++ B.take (e - m), ∀ y ∈ A.drop (s - a) ++ B.drop (e - m), Bef c x y
theorem Runs.halves (h : Runs c xs a m b P A B S) {mid p lo hi s : Nat} (g : Range a m b mid p lo hi) (hs : Seek3 c xs p lo hi s s) (h1 : lo ≤ s) (h2 : s ≤ hi) : Halves c a m b mid s (mid + m - s) A B := by
  obtain ⟨g1, g2, g3, g4, g5⟩ := g
  have e1 : a ≤ s := by omega
  have e2 : s ≤ m := by omega
  have e3 : m ≤ mid + m - s := by omega
  have e4 : mid + m - s ≤ b := by omega
  refine ⟨e1, e2, e3, e4, by omega, fun x hx y hy => ?_⟩
  have hlen := h.len
  rcases List.mem_append.1 hx with hx | hx
  · obtain ⟨q, k1, k2, k3, hq⟩ := h.memA_take e1 hx
    rcases List.mem_append.1 hy with hy | hy
    · obtain ⟨q', k4, k5, hq'⟩ := h.memA_drop e1 hy
      exact h.ordA k1 (by omega) k5 hq hq'
    · obtain ⟨q', k4, k5, hq'⟩ := h.memB_drop e3 hy
      have hlos : lo < s := by omega
      obtain ⟨u, hu⟩ : ∃ u, xs[s - 1]? = some u := ⟨_, List.getElem?_eq_getElem (by omega)⟩
      obtain ⟨v, hv⟩ : ∃ v, xs[mid + m - s]? = some v := ⟨_, List.getElem?_eq_getElem (by omega)⟩
      have huv : Bef c u v := hs.1 (s - 1) u v (by omega) (by omega) hu (by rw [show p - (s - 1) = mid + m - s by omega]; exact hv)
      have hxv : Bef c x v := by
        by_cases e : q = s - 1
        · subst e; rw [hu] at hq; injection hq with hq; subst hq; exact huv
        · exact bef_trans (h.ordA k1 (by omega) (by omega) hq hu) huv
      by_cases e : q' = mid + m - s
      · subst e; rw [hv] at hq'; injection hq' with hq'; subst hq'; exact hxv
      · exact bef_trans hxv (h.ordB (by omega) (by omega) k5 hv hq')
  · obtain ⟨q, k1, k2, k3, hq⟩ := h.memB_take e3 hx
    rcases List.mem_append.1 hy with hy | hy
    · obtain ⟨q', k4, k5, hq'⟩ := h.memA_drop e1 hy
      have hshi : s < hi := by omega
      obtain ⟨u, hu⟩ : ∃ u, xs[s]? = some u := ⟨_, List.getElem?_eq_getElem (by omega)⟩
      obtain ⟨v, hv⟩ : ∃ v, xs[mid + m - s - 1]? = some v := ⟨_, List.getElem?_eq_getElem (by omega)⟩
      have hvu : Bef c v u := hs.2 s u v (by omega) (by omega) hu (by rw [show p - s = mid + m - s - 1 by omega]; exact hv)
      have hxu : Bef c x u := by
        by_cases e : q = mid + m - s - 1
        · subst e; rw [hv] at hq; injection hq with hq; subst hq; exact hvu
        · exact bef_trans (h.ordB k1 (by omega) (by omega) hq hv) hvu
      by_cases e : q' = s
      · subst e; rw [hu] at hq'; injection hq' with hq'; subst hq'; exact hxu
      · exact bef_trans hxu (h.ordA (by omega) (by omega) k5 hu hq')
    · obtain ⟨q', k4, k5, hq'⟩ := h.memB_drop e3 hy
      exact h.ordB k1 (by omega) k5 hq hq'
/-- The row behind the rotation. -/
def turned (P A B S : List Int) (i j : Nat) : List Int := P ++ (A.take i ++ (B.take j ++ (A.drop i ++ (B.drop j ++ S))))
theorem Runs.rot (h : Runs c xs a m b P A B S) {s e : Nat} (h1 : a ≤ s) (h2 : s ≤ m) (h3 : m ≤ e) (h4 : e ≤ b) :
    Rot xs (turned P A B S (s - a) (e - m)) m (m - s) (e - m) (P ++ A.take (s - a)) (A.drop (s - a)) (B.take (e - m)) (B.drop (e - m) ++ S) := by
  obtain ⟨rfl, k1, k2, k3, -, -, -⟩ := h
  refine ⟨?_, by simp [turned], ?_, ?_, ?_⟩
  · have e1 := List.take_append_drop (s - a) A
    have e2 := List.take_append_drop (e - m) B
    have e3 : ∀ A1 A2 B1 B2 : List Int, A1 ++ A2 = A → B1 ++ B2 = B → P ++ (A ++ (B ++ S)) = P ++ A1 ++ (A2 ++ (B1 ++ (B2 ++ S))) := by
      rintro A1 A2 B1 B2 rfl rfl
      simp
    exact e3 _ _ _ _ e1 e2
  · simp; omega
  · simp; omega
  · simp; omega
theorem turned_same (h : Runs c xs a m b P A B S) {s e : Nat} (h1 : a ≤ s) (h2 : s ≤ m) (h3 : m ≤ e) (h4 : e ≤ b) (hn : s = m ∨ e = m) : xs = turned P A B S (s - a) (e - m) := by
  have hr := h.rot h1 h2 h3 h4
  have h5 := hr.cur
  have h6 := hr.ul
  have h7 := hr.vl
  rw [h5]
  unfold turned
  rcases hn with e1 | e1
  · have : A.drop (s - a) = [] := List.eq_nil_of_length_eq_zero (by omega)
    rw [this]; simp
  · have : B.take (e - m) = [] := List.eq_nil_of_length_eq_zero (by omega)
    rw [this]; simp
theorem Runs.first (h : Runs c xs a m b P A B S) {mid s e : Nat} (hh : Halves c a m b mid s e A B) : Runs c (turned P A B S (s - a) (e - m)) a s mid P (A.take (s - a)) (B.take (e - m)) (A.drop (s - a) ++ (B.drop (e - m) ++ S)) := by
  obtain ⟨h1, h2, h3, h4, h5, h6⟩ := hh
  have k2 := h.al
  have k3 := h.bl
  refine ⟨rfl, h.pl, by simp; omega, by simp; omega, h.sa.sublist (List.take_sublist _ _), h.sb.sublist (List.take_sublist _ _), fun x hx y hy => h.low x (List.mem_of_mem_take hx) y (List.mem_of_mem_take hy)⟩
theorem Runs.second (h : Runs c xs a m b P A B S) {mid s e : Nat} (hh : Halves c a m b mid s e A B) {C : List Int} (hC : C.Perm (A.take (s - a) ++ B.take (e - m))) :
    Runs c (P ++ (C ++ (A.drop (s - a) ++ (B.drop (e - m) ++ S)))) mid e b (P ++ C) (A.drop (s - a)) (B.drop (e - m)) S := by
  obtain ⟨h1, h2, h3, h4, h5, h6⟩ := hh
  have k1 := h.pl
  have k2 := h.al
  have k3 := h.bl
  have hl := hC.length_eq
  simp only [List.length_append, List.length_take] at hl
  refine ⟨by simp, by simp; omega, by simp; omega, by simp; omega, h.sa.sublist (List.drop_sublist _ _), h.sb.sublist (List.drop_sublist _ _), fun x hx y hy => h.low x (List.mem_of_mem_drop hx) y (List.mem_of_mem_drop hy)⟩
theorem Runs.whole (h : Runs c xs a m b P A B S) {mid s e : Nat} (hh : Halves c a m b mid s e A B) {C : List Int} (hC : C.Perm (A.take (s - a) ++ B.take (e - m))) (hs : C.Pairwise (Bef c))
    (hm : Merged c ys (P ++ C) (A.drop (s - a)) (B.drop (e - m)) S) : Merged c ys P A B S := by
  obtain ⟨D, h1, h2, h3⟩ := hm
  refine ⟨C ++ D, by rw [h1]; simp, ?_, ?_⟩
  · refine (List.Perm.append hC h2).trans ?_
    have e1 : (A.take (s - a) ++ B.take (e - m) ++ (A.drop (s - a) ++ B.drop (e - m))).Perm (A.take (s - a) ++ A.drop (s - a) ++ (B.take (e - m) ++ B.drop (e - m))) := by
      rw [List.append_assoc, List.append_assoc]
      refine List.Perm.append_left _ ?_
      rw [← List.append_assoc, ← List.append_assoc]
      exact List.Perm.append_right _ List.perm_append_comm
    rw [List.take_append_drop, List.take_append_drop] at e1
    exact e1
  · rw [List.pairwise_append]
    exact ⟨hs, h3, fun x hx y hy => hh.ord x (hC.mem_iff.1 hx) y (h2.mem_iff.1 hy)⟩
/-- Where one of the runs is empty nothing is to be done. -/
theorem Runs.nothing (h : Runs c xs a m b P A B S) (hn : m ≤ a ∨ b ≤ m) : Merged c xs P A B S := by
  obtain ⟨h1, h2, h3, h4, h5, h6, -⟩ := h
  rcases hn with hn | hn
  · have : A = [] := List.eq_nil_of_length_eq_zero (by omega)
    subst this
    exact ⟨B, by rw [h1]; simp, List.Perm.refl _, h6⟩
  · have : B = [] := List.eq_nil_of_length_eq_zero (by omega)
    subst this
    exact ⟨A, by rw [h1]; simp, by simp, h5⟩
theorem Merged.len (h : Merged c ys P A B S) : ys.length = P.length + A.length + B.length + S.length := by
  obtain ⟨C, rfl, h1, -⟩ := h
  have := h1.length_eq
  simp at this ⊢
  omega
end

/-! ### Blocks -/
def blk (xs : List Int) (bs k : Nat) : List Int := (xs.drop (k * bs)).take bs
theorem blk_two (xs : List Int) (bs k : Nat) : blk xs (2 * bs) k = blk xs bs (2 * k) ++ blk xs bs (2 * k + 1) := by
  unfold blk
  rw [show k * (2 * bs) = 2 * k * bs by rw [Nat.mul_comm 2 k, Nat.mul_assoc], show (2 * k + 1) * bs = 2 * k * bs + bs by rw [Nat.add_mul, Nat.one_mul], show 2 * bs = bs + bs by omega, List.take_add, List.drop_drop]
theorem blk_len (xs : List Int) (bs k : Nat) : (blk xs bs k).length = min bs (xs.length - k * bs) := by simp [blk]
theorem blk_all {xs : List Int} {bs : Nat} (h : xs.length ≤ bs) : blk xs bs 0 = xs := by unfold blk; rw [Nat.zero_mul, List.drop_zero, List.take_of_length_le h]
/-- The blocks lo .. hi - 1 are sorted, and hold what they held in O. -/
def Blks (c : Int → Int) (bs : Nat) (xs O : List Int) (lo hi : Nat) : Prop := ∀ k, lo ≤ k → k < hi → (blk xs bs k).Pairwise (Bef c) ∧ (blk xs bs k).Perm (blk O bs k)
section
variable {c : Int → Int} {xs ys O P C M S : List Int} {bs k t n lo hi : Nat}
theorem blk_before (h1 : P.length = t * bs) (hk : k < t) : blk (P ++ C) bs k = blk P bs k := by
  unfold blk
  have h2 : k * bs + bs ≤ t * bs := by rw [← Nat.succ_mul]; exact Nat.mul_le_mul_right bs hk
  rw [List.drop_append_of_le_length (by omega), List.take_append_of_le_length (by rw [List.length_drop]; omega)]
theorem blk_here (h1 : P.length = t * bs) (h2 : C.length = bs ∨ (C.length ≤ bs ∧ S = [])) : blk (P ++ (C ++ S)) bs t = C := by
  unfold blk
  rw [← h1, List.drop_left]
  rcases h2 with h2 | ⟨h2, rfl⟩
  · rw [← h2, List.take_left]
  · rw [List.append_nil, List.take_of_length_le h2]
theorem blk_behind (h1 : P.length = t * bs) (hk : t ≤ k) : blk (P ++ S) bs k = blk S bs (k - t) := by
  unfold blk
  obtain ⟨d, rfl⟩ : ∃ d, k = t + d := ⟨k - t, by omega⟩
  rw [Nat.add_mul, ← h1, ← List.drop_drop, List.drop_left, Nat.add_sub_cancel_left]
/-- One block more is sorted. -/
theorem Blks.put (h : Blks c bs (P ++ (M ++ S)) O 0 t) (h1 : P.length = t * bs) (hC : C.Perm M) (hM : M.length = bs ∨ (M.length ≤ bs ∧ S = [])) (hO : M.Perm (blk O bs t)) (hs : C.Pairwise (Bef c)) : Blks c bs (P ++ (C ++ S)) O 0 (t + 1) := by
  intro k h0 hk
  by_cases e : k < t
  · have := h k h0 e
    rw [blk_before h1 e] at this
    rw [blk_before h1 e]
    exact this
  · obtain rfl : k = t := by omega
    rw [blk_here h1 (by rw [hC.length_eq]; exact hM)]
    exact ⟨hs, hC.trans hO⟩
/-- Two blocks are made one. -/
theorem Blks.two_low (h : Blks c (2 * bs) (P ++ M) O 0 t) (h1 : P.length = t * (2 * bs)) (hC : (blk (P ++ S) (2 * bs) t).Pairwise (Bef c)) (hP : (blk (P ++ S) (2 * bs) t).Perm (blk O (2 * bs) t)) : Blks c (2 * bs) (P ++ S) O 0 (t + 1) := by
  intro k h0 hk
  by_cases e : k < t
  · have := h k h0 e
    rw [blk_before h1 e] at this
    rw [blk_before h1 e]
    exact this
  · obtain rfl : k = t := by omega
    exact ⟨hC, hP⟩
theorem blks_more (h : Blks c bs xs O lo hi) {n : Nat} (h1 : xs.length ≤ hi * bs) (h2 : O.length ≤ hi * bs) : Blks c bs xs O lo n := by
  intro k h0 hk
  by_cases e : k < hi
  · exact h k h0 e
  · have h3 : hi * bs ≤ k * bs := Nat.mul_le_mul_right bs (by omega)
    have e1 : blk xs bs k = [] := by unfold blk; rw [List.drop_eq_nil_of_le (by omega), List.take_nil]
    have e2 : blk O bs k = [] := by unfold blk; rw [List.drop_eq_nil_of_le (by omega), List.take_nil]
    rw [e1, e2]
    exact ⟨List.Pairwise.nil, List.Perm.refl _⟩
theorem blk_mem_at {O : List Int} {x : Int} (hx : x ∈ blk O bs k) : ∃ q, k * bs ≤ q ∧ q < k * bs + bs ∧ O[q]? = some x := by
  obtain ⟨j, hj⟩ := List.mem_iff_getElem?.1 hx
  unfold blk at hj
  rw [List.getElem?_take] at hj
  split at hj
  · rename_i hjb
    rw [List.getElem?_drop] at hj
    exact ⟨k * bs + j, by omega, by omega, hj⟩
  · cases hj
/-- What the blocks of an ascending row hold. -/
theorem blk_low {O : List Int} (hO : O.Pairwise (· < ·)) {k' : Nat} (hk : k < k') {x y : Int} (hx : x ∈ blk O bs k) (hy : y ∈ blk O bs k') : x < y := by
  obtain ⟨q, h1, h2, h3⟩ := blk_mem_at hx
  obtain ⟨q', h4, h5, h6⟩ := blk_mem_at hy
  have h7 : k * bs + bs ≤ k' * bs := by rw [← Nat.succ_mul]; exact Nat.mul_le_mul_right bs hk
  exact pw_at hO (show q < q' by omega) h3 h6
theorem blk_asc {O : List Int} (hO : O.Pairwise (· < ·)) (bs k : Nat) : (blk O bs k).Pairwise (· < ·) := (hO.sublist (List.drop_sublist _ _)).sublist (List.take_sublist _ _)
/-- The two runs that a merge takes: blocks 2t and 2t + 1. -/
theorem Blks.runs (hO : O.Pairwise (· < ·)) (h : Blks c bs xs O (2 * t) (2 * t + 2)) (hx : 2 * t * bs + bs ≤ xs.length) (hb : 0 < bs) :
    Runs c xs (2 * t * bs) (2 * t * bs + bs) (2 * t * bs + bs + (blk xs bs (2 * t + 1)).length) (xs.take (2 * t * bs)) (blk xs bs (2 * t)) (blk xs bs (2 * t + 1)) (xs.drop (2 * t * bs + 2 * bs)) := by
  have hA := h (2 * t) (Nat.le_refl _) (by omega)
  have hB := h (2 * t + 1) (by omega) (by omega)
  refine ⟨?_, by simp; omega, by rw [blk_len]; omega, rfl, hA.1, hB.1, fun x hx y hy => blk_low hO (Nat.lt_succ_self (2 * t)) (hA.2.mem_iff.1 hx) (hB.2.mem_iff.1 hy)⟩
  have e0 : xs = xs.take (2 * t * bs) ++ xs.drop (2 * t * bs) := (List.take_append_drop _ _).symm
  have e1 : xs.drop (2 * t * bs) = blk xs bs (2 * t) ++ xs.drop (2 * t * bs + bs) := by
    unfold blk
    rw [← List.drop_drop]
    exact (List.take_append_drop _ _).symm
  have e2 : xs.drop (2 * t * bs + bs) = blk xs bs (2 * t + 1) ++ xs.drop (2 * t * bs + 2 * bs) := by
    unfold blk
    rw [show (2 * t + 1) * bs = 2 * t * bs + bs by rw [Nat.add_mul, Nat.one_mul], show 2 * t * bs + 2 * bs = 2 * t * bs + bs + bs by omega, ← List.drop_drop (i := bs) (j := 2 * t * bs + bs)]
    exact (List.take_append_drop _ _).symm
  rw [← e2, ← e1]
  exact e0
/-- The state while two blocks and two are merged. -/
structure Half (c : Int → Int) (bs : Nat) (xs O : List Int) (t : Nat) : Prop where
  len : xs.length = O.length
  done : Blks c (2 * bs) xs O 0 t
  rest : ∀ n, Blks c bs xs O (2 * t) n
theorem half_start (hl : xs.length = O.length) (h : ∀ n, Blks c bs xs O 0 n) : Half c bs xs O 0 := ⟨hl, fun k h0 hk => by omega, fun n => h n⟩
theorem Half.next (h : Half c bs xs O t) (hx : 2 * t * bs + bs ≤ xs.length) (hb : 0 < bs) (hm : Merged c ys (xs.take (2 * t * bs)) (blk xs bs (2 * t)) (blk xs bs (2 * t + 1)) (xs.drop (2 * t * bs + 2 * bs))) : Half c bs ys O (t + 1) := by
  obtain ⟨h1, h2, h3⟩ := h
  obtain ⟨C, rfl, hC, hs⟩ := hm
  have hA := h3 (2 * t + 2) (2 * t) (Nat.le_refl _) (by omega)
  have hB := h3 (2 * t + 2) (2 * t + 1) (by omega) (by omega)
  have l0 : (xs.take (2 * t * bs)).length = 2 * t * bs := by rw [List.length_take]; omega
  have hcl := hC.length_eq
  rw [List.length_append, blk_len, blk_len, show (2 * t + 1) * bs = 2 * t * bs + bs by rw [Nat.add_mul, Nat.one_mul]] at hcl
  have e2 : t * (2 * bs) = 2 * t * bs := by rw [Nat.mul_comm 2 t, Nat.mul_assoc]
  have e3 : (2 * t + 2) * bs = 2 * t * bs + 2 * bs := by rw [Nat.add_mul]
  have hxs : xs = xs.take (2 * t * bs) ++ xs.drop (2 * t * bs) := (List.take_append_drop _ _).symm
  have hhere : blk (xs.take (2 * t * bs) ++ (C ++ xs.drop (2 * t * bs + 2 * bs))) (2 * bs) t = C := by
    refine blk_here (by rw [l0, e2]) ?_
    by_cases e : 2 * t * bs + 2 * bs ≤ xs.length
    · left; omega
    · right; exact ⟨by omega, List.drop_eq_nil_of_le (by omega)⟩
  refine ⟨?_, ?_, ?_⟩
  · rw [List.length_append, List.length_append, l0, List.length_drop]; omega
  · refine Blks.two_low (P := xs.take (2 * t * bs)) (M := xs.drop (2 * t * bs)) (by rw [← hxs]; exact h2) (by rw [l0, e2]) (by rw [hhere]; exact hs) ?_
    rw [hhere, blk_two]
    exact hC.trans (List.Perm.append hA.2 hB.2)
  · intro n k hk hkn
    by_cases e : 2 * t * bs + 2 * bs ≤ xs.length
    · have l1 : (xs.take (2 * t * bs) ++ C).length = (2 * t + 2) * bs := by rw [List.length_append, l0, e3]; omega
      rw [← List.append_assoc, blk_behind l1 (by omega)]
      have e4 : blk (xs.drop (2 * t * bs + 2 * bs)) bs (k - (2 * t + 2)) = blk xs bs k := by
        unfold blk
        rw [List.drop_drop]
        congr 2
        obtain ⟨d, rfl⟩ : ∃ d, k = 2 * t + 2 + d := ⟨k - (2 * t + 2), by omega⟩
        rw [Nat.add_sub_cancel_left, Nat.add_mul (2 * t + 2), e3]
      rw [e4]
      exact h3 n k (by omega) hkn
    · have h4 : (2 * t + 2) * bs ≤ k * bs := Nat.mul_le_mul_right bs (by omega)
      have hyl : (xs.take (2 * t * bs) ++ (C ++ xs.drop (2 * t * bs + 2 * bs))).length = xs.length := by rw [List.length_append, List.length_append, l0, List.length_drop]; omega
      have e1 : blk (xs.take (2 * t * bs) ++ (C ++ xs.drop (2 * t * bs + 2 * bs))) bs k = [] := by unfold blk; rw [List.drop_eq_nil_of_le (by omega), List.take_nil]
      have e5 : blk O bs k = [] := by unfold blk; rw [List.drop_eq_nil_of_le (by omega), List.take_nil]
      rw [e1, e5]
      exact ⟨List.Pairwise.nil, List.Perm.refl _⟩
/-- A last block without a neighbour stays as it is. -/
theorem Half.end_ (h : Half c bs xs O t) (hx : xs.length ≤ 2 * t * bs + bs) : ∀ n, Blks c (2 * bs) xs O 0 n := by
  obtain ⟨h1, h2, h3⟩ := h
  have e2 : t * (2 * bs) = 2 * t * bs := by rw [Nat.mul_comm 2 t, Nat.mul_assoc]
  have hA := h3 (2 * t + 2) (2 * t) (Nat.le_refl _) (by omega)
  have e3 : ∀ z : List Int, z.length ≤ 2 * t * bs + bs → blk z (2 * bs) t = blk z bs (2 * t) := by
    intro z hz
    rw [blk_two]
    have : blk z bs (2 * t + 1) = [] := by unfold blk; rw [List.drop_eq_nil_of_le (by rw [Nat.add_mul, Nat.one_mul]; omega), List.take_nil]
    rw [this, List.append_nil]
  have h4 : Blks c (2 * bs) xs O 0 (t + 1) := by
    intro k h0 hk
    by_cases e : k < t
    · exact h2 k h0 e
    · obtain rfl : k = t := by omega
      rw [e3 xs hx, e3 O (by omega)]
      exact hA
  intro n
  exact blks_more h4 (by rw [Nat.add_mul, e2]; omega) (by rw [Nat.add_mul, e2]; omega)
end

/-! ### Insertion -/
section
variable {c : Int → Int} {C M : List Int} {k t : Nat} {e : Int}
theorem one_pw (h : M.length ≤ 1) : M.Pairwise (Bef c) := by
  match M, h with
  | [], _ => exact List.Pairwise.nil
  | [x], _ => simp
/-- e, the next of an ascending row, is put in its place t among those ahead of it. -/
theorem ins_step (h : C.Perm (M.take k)) (hs : C.Pairwise (Bef c)) (he : M[k]? = some e) (hM : M.Pairwise (· < ·)) (ht : t ≤ C.length) (h1 : ∀ y ∈ C.drop t, Bef c e y) (h2 : ∀ j y, t = j + 1 → C[j]? = some y → ¬ c y < c e) :
    (C.take t ++ (e :: C.drop t)).Perm (M.take (k + 1)) ∧ (C.take t ++ (e :: C.drop t)).Pairwise (Bef c) := by
  have hlow : ∀ y ∈ C, y < e := by
    intro y hy
    have hy := h.mem_iff.1 hy
    obtain ⟨j, hj⟩ := List.mem_iff_getElem?.1 hy
    rw [List.getElem?_take] at hj
    split at hj
    · exact pw_at hM (by assumption) hj he
    · cases hj
  refine ⟨?_, ?_⟩
  · have e1 : (C.take t ++ (e :: C.drop t)).Perm (e :: (C.take t ++ C.drop t)) := List.perm_middle
    rw [List.take_append_drop] at e1
    rw [List.take_add_one, he]
    refine e1.trans ?_
    refine (List.Perm.cons e h).trans ?_
    exact (List.perm_append_singleton e _).symm
  · have hsp : (C.take t ++ C.drop t).Pairwise (Bef c) := by rw [List.take_append_drop]; exact hs
    rw [List.pairwise_append] at hsp
    rw [List.pairwise_append, List.pairwise_cons]
    refine ⟨hsp.1, ⟨h1, hsp.2.1⟩, fun y hy z hz => ?_⟩
    rcases List.mem_cons.1 hz with rfl | hz
    · obtain ⟨j, hj⟩ := List.mem_iff_getElem?.1 hy
      rw [List.getElem?_take] at hj
      split at hj
      case isFalse => cases hj
      rename_i hjt
      obtain ⟨x, hx⟩ : ∃ x, C[t - 1]? = some x := ⟨_, List.getElem?_eq_getElem (by omega)⟩
      have hxz : Bef c x z := (bef_low (hlow x (List.mem_of_getElem? hx))).2 (h2 (t - 1) x (by omega) hx)
      by_cases e1 : j = t - 1
      · subst e1; rw [hx] at hj; injection hj with hj; subst hj; exact hxz
      · exact bef_trans (pw_at hs (show j < t - 1 by omega) hj hx) hxz
    · exact hsp.2.2 y hy z hz
/-- e has passed one more. -/
theorem ins_pass (h : C.Perm (M.take k)) (he : M[k]? = some e) (hM : M.Pairwise (· < ·)) {y : Int} (hy : C[t]? = some y) (hc : c y < c e) (h1 : ∀ y ∈ C.drop (t + 1), Bef c e y) : ∀ y ∈ C.drop t, Bef c e y := by
  have ht := (List.getElem?_eq_some_iff.1 hy).1
  intro z hz
  rw [List.drop_eq_getElem_cons ht] at hz
  rcases List.mem_cons.1 hz with e1 | hz
  · have e2 : C[t] = y := by rw [List.getElem?_eq_getElem ht] at hy; injection hy
    rw [e1, e2]
    exact .inl hc
  · exact h1 z hz
/-- The row while the insertion goes on: the first k of M are sorted. -/
def insRow (P C M S : List Int) (k : Nat) : List Int := P ++ (C ++ (M.drop k ++ S))
theorem ins_wand {P S : List Int} (hC : C.length = k) (he : M[k]? = some e) : insRow P C M S k = wand1 P C (M.drop (k + 1) ++ S) e k := by
  have hk := (List.getElem?_eq_some_iff.1 he).1
  have e2 : M[k] = e := by rw [List.getElem?_eq_getElem hk] at he; injection he
  unfold insRow wand1
  rw [List.drop_eq_getElem_cons hk, e2, ← hC, List.take_length, List.drop_length]
  simp
theorem wand_ins {P S : List Int} : wand1 P C (M.drop (k + 1) ++ S) e t = insRow P (C.take t ++ (e :: C.drop t)) M S (k + 1) := by
  unfold insRow wand1
  simp
end

/-! ### The loop over the blocks -/
section
variable {c : Int → Int} {O xs C D : List Int} {t bs : Nat}
/-- The first t blocks of 20 are sorted. -/
structure InsSt (c : Int → Int) (O xs D : List Int) (t : Nat) : Prop where
  eq : xs = D ++ O.drop (t * 20)
  len : D.length = t * 20
  blks : Blks c 20 xs O 0 t
theorem insSt_start : InsSt c O O [] 0 := ⟨by simp, rfl, fun k h0 hk => by omega⟩
theorem InsSt.cut (h : InsSt c O xs D t) : xs = D ++ (blk O 20 t ++ O.drop (t * 20 + 20)) := by
  rw [h.eq]
  congr 1
  unfold blk
  rw [← List.drop_drop]
  exact (List.take_append_drop _ _).symm
theorem InsSt.next (h : InsSt c O xs D t) (hO : t * 20 + 20 ≤ O.length) (hC : C.Perm (blk O 20 t)) (hs : C.Pairwise (Bef c)) : InsSt c O (D ++ (C ++ O.drop (t * 20 + 20))) (D ++ C) (t + 1) := by
  have hl : (blk O 20 t).length = 20 := by rw [blk_len]; omega
  refine ⟨by rw [Nat.add_mul, Nat.one_mul]; simp, by rw [List.length_append, h.len, hC.length_eq, hl]; omega, ?_⟩
  have hb := h.blks
  rw [h.cut] at hb
  exact hb.put h.len hC (.inl hl) (List.Perm.refl _) hs
theorem InsSt.last (h : InsSt c O xs D t) (hO : O.length < t * 20 + 20) (hC : C.Perm (O.drop (t * 20))) (hs : C.Pairwise (Bef c)) : ∀ n, Blks c 20 (D ++ (C ++ [])) O 0 n := by
  have hl : (O.drop (t * 20)).length < 20 := by rw [List.length_drop]; omega
  have hb := h.blks
  rw [h.eq, show O.drop (t * 20) = O.drop (t * 20) ++ [] by simp] at hb
  have h2 := hb.put h.len hC (.inr ⟨by omega, rfl⟩) (by unfold blk; rw [List.take_of_length_le (by omega)]) hs
  intro n
  have hcl := hC.length_eq
  rw [List.length_drop] at hcl
  exact blks_more h2 (by rw [List.append_nil, List.length_append, h.len]; omega) (by omega)
theorem blks_done (h : ∀ n, Blks c bs xs O 0 n) (h1 : xs.length ≤ bs) (h2 : O.length ≤ bs) : xs.Perm O ∧ xs.Pairwise (Bef c) := by
  have h3 := h 1 0 (Nat.le_refl _) (by omega)
  rw [blk_all h1, blk_all h2] at h3
  exact ⟨h3.2, h3.1⟩
theorem Half.runs {a m b : Nat} (h : Half c bs xs O t) (hO : O.Pairwise (· < ·)) (hb : 0 < bs) (ha : a = 2 * t * bs) (hm : m = a + bs) (hmn : m ≤ xs.length) (hbb : b = m + min bs (xs.length - m)) :
    Runs c xs a m b (xs.take (2 * t * bs)) (blk xs bs (2 * t)) (blk xs bs (2 * t + 1)) (xs.drop (2 * t * bs + 2 * bs)) := by
  subst ha hm
  have h1 := Blks.runs hO (h.rest (2 * t + 2)) hmn hb
  have h2 : 2 * t * bs + bs + (blk xs bs (2 * t + 1)).length = b := by
    rw [hbb, blk_len, Nat.add_mul, Nat.one_mul]
  rw [h2] at h1
  exact h1
theorem two_next (t bs : Nat) : 2 * (t + 1) * bs = 2 * t * bs + 2 * bs := by rw [Nat.mul_add, Nat.add_mul]
end
end Go.Proofs.Ytfgfbnmcihjfmaa
