/-
  The words of the index as a phrase search finds them: plain values. No program is named here.
-/
import Derived.Test.YthokekgdiebhjaaDoorIdxPl
import Derived.Test.YthokekgdiebhjaaDoorFindPl
namespace Go.Proofs.YthokekgdiebhjaaDoor
set_option linter.unusedVariables false
set_option linter.unusedSimpArgs false

/-! ### Normalizing twice -/
def Lowd (c : UInt8) : Prop := (97 ≤ c.toNat ∧ c.toNat ≤ 122) ∨ (48 ≤ c.toNat ∧ c.toNat ≤ 57)
theorem nb_lowd {c d : UInt8} (h : d ∈ nb c) : Lowd d := by
  unfold nb at h
  split at h
  · rename_i h1
    rw [List.mem_singleton] at h
    subst h
    left
    have : (UInt8.ofNat (c.toNat + 32)).toNat = c.toNat + 32 := by
      rw [UInt8.toNat_ofNat']
      omega
    omega
  · split at h
    · rename_i h1 h2
      rw [List.mem_singleton] at h
      subst h
      exact h2
    · cases h
theorem nb_same {c : UInt8} (h : Lowd c) : nb c = [c] := by
  unfold nb
  unfold Lowd at h
  rw [if_neg (by omega), if_pos h]
theorem norm_lowd {l : List UInt8} {d : UInt8} (h : d ∈ norm l) : Lowd d := by
  unfold norm at h
  obtain ⟨c, -, hd⟩ := List.mem_flatMap.1 h
  exact nb_lowd hd
theorem norm_fix : ∀ l : List UInt8, (∀ c ∈ l, Lowd c) → norm l = l
  | [], _ => rfl
  | c :: l, h => by
    have h1 := norm_fix l (fun d hd => h d (by simp [hd]))
    unfold norm at h1 ⊢
    rw [List.flatMap_cons, nb_same (h c (by simp)), h1]
    rfl
theorem normS_lowd (t : ByteArray) : ∀ c ∈ (normS t).data.toList, Lowd c := by
  intro c hc
  refine norm_lowd (l := t.data.toList) ?_
  simpa [normS] using hc
theorem normS_twice (t : ByteArray) : normS (normS t) = normS t := by
  have h := norm_fix _ (normS_lowd t)
  have h2 : normS (normS t) = ⟨(norm (normS t).data.toList).toArray⟩ := rfl
  rw [h2, h]
theorem normS_size (t : ByteArray) : (normS t).size ≤ t.size := by
  have h := norm_le t.data.toList
  have h1 : (normS t).size = (norm t.data.toList).length := by simp [normS, ByteArray.size]
  have h2 : t.size = t.data.toList.length := rfl
  omega
theorem size_ne {x : ByteArray} (h : ¬ x = ⟨#[]⟩) : x.size ≠ 0 := by
  intro h0
  apply h
  obtain ⟨⟨l⟩⟩ := x
  have : l.length = 0 := h0
  rw [List.length_eq_zero_iff] at this
  rw [this]

/-! ### A normalized word is a text of one word -/
theorem parts_one {c : UInt8} {l : List UInt8} (h : c ∉ l) : parts c l = [l] := parts_nosep h
theorem partsV_one {x : ByteArray} (h : ∀ c ∈ x.data.toList, Lowd c) : partsV 32 x = [x] := by
  have h0 : (32 : UInt8) ∉ x.data.toList := by
    intro hm
    have := h _ hm
    unfold Lowd at this
    have h32 : (32 : UInt8).toNat = 32 := rfl
    omega
  unfold partsV
  rw [parts_one h0]
  obtain ⟨⟨l⟩⟩ := x
  rfl
theorem lowd_text {x : ByteArray} (h : ∀ c ∈ x.data.toList, Lowd c) (h1 : x.size ≠ 0) (h2 : x.size ≤ 80) : textB x = true := by
  unfold textB wordsB
  rw [partsV_one h]
  simp only [Bool.and_eq_true, decide_eq_true_eq, List.length_singleton, List.all_cons, List.all_nil, Bool.and_true]
  refine ⟨by omega, by omega, ?_⟩
  unfold wordB
  simp only [Bool.and_eq_true, inB_iff]
  refine ⟨by omega, ?_⟩
  unfold allIn
  rw [List.all_eq_true]
  intro c hc
  have := h c hc
  unfold Lowd at this
  simp only [Bool.and_eq_true, decide_eq_true_eq]
  omega
theorem lowd_words {x : ByteArray} (h : ∀ c ∈ x.data.toList, Lowd c) (h1 : x.size ≠ 0) : wordsV x = [x] := by
  unfold wordsV
  rw [partsV_one h, List.filter_cons_of_pos (by simpa using h1)]
  rfl

/-! ### The events -/
section
variable {ws : List ByteArray} {i j n k m : Nat} {x y : ByteArray} {l : List TurnD} {c : TurnD}
theorem mem_evK (h : (x, j) ∈ evK ws i n) : j = i ∧ ¬ x = ⟨#[]⟩ ∧ ∃ m y, m < n ∧ ws[m]? = some y ∧ normS y = x := by
  induction n with
  | zero => cases h
  | succ n ih =>
    rw [evK, List.mem_append] at h
    rcases h with h | h
    · obtain ⟨h1, h2, m, y, h3, h4⟩ := ih h
      exact ⟨h1, h2, m, y, by omega, h4⟩
    · cases hx : ws[n]? with
      | none => rw [hx] at h; cases h
      | some z =>
        rw [hx] at h
        simp only at h
        split at h
        · cases h
        · rename_i hz
          rw [List.mem_singleton] at h
          injection h with h1 h2
          subst h1 h2
          exact ⟨rfl, hz, n, z, by omega, hx, rfl⟩
theorem evK_mem (hm : m < n) (hy : ws[m]? = some y) (hx : ¬ normS y = ⟨#[]⟩) : (normS y, i) ∈ evK ws i n := by
  induction n with
  | zero => omega
  | succ n ih =>
    rw [evK, List.mem_append]
    by_cases h : m < n
    · exact .inl (ih h)
    · obtain rfl : m = n := by omega
      right
      rw [hy]
      simp only
      rw [if_neg hx]
      exact List.mem_singleton.2 rfl
theorem mem_evT (h : (x, i) ∈ evT l k) : i < k ∧ ∃ c, l[i]? = some c ∧ (x, i) ∈ evK (wordsV c.2) i (wordsV c.2).length := by
  induction k with
  | zero => cases h
  | succ k ih =>
    rw [evT, List.mem_append] at h
    rcases h with h | h
    · obtain ⟨h1, h2⟩ := ih h
      exact ⟨by omega, h2⟩
    · cases hc : l[k]? with
      | none => rw [hc] at h; cases h
      | some c =>
        rw [hc] at h
        simp only at h
        obtain ⟨h1, -⟩ := mem_evK h
        subst h1
        exact ⟨by omega, c, hc, h⟩
theorem evT_mem (hi : i < k) (hc : l[i]? = some c) (h : (x, i) ∈ evK (wordsV c.2) i (wordsV c.2).length) : (x, i) ∈ evT l k := by
  induction k with
  | zero => omega
  | succ k ih =>
    rw [evT, List.mem_append]
    by_cases h1 : i < k
    · exact .inl (ih h1)
    · obtain rfl : i = k := by omega
      right
      rw [hc]
      exact h
end
theorem addT_mem (ts : List Int) (i : Nat) : (i : Int) ∈ addT ts i := by
  unfold addT
  split
  · rename_i h; exact List.mem_of_getLast? h
  · simp
theorem addT_sub {ts : List Int} {i : Nat} {z : Int} (h : z ∈ ts) : z ∈ addT ts i := by
  unfold addT
  split
  · exact h
  · simp [h]
theorem foldT_sub : ∀ (ev : List EvD) (ts : List Int) (z : Int), z ∈ ts → z ∈ ev.foldl (fun ts e => addT ts e.2) ts
  | [], ts, z, h => h
  | e :: ev, ts, z, h => by rw [List.foldl_cons]; exact foldT_sub ev _ z (addT_sub h)
theorem foldT_mem : ∀ (ev : List EvD) (ts : List Int) (e : EvD), e ∈ ev → (e.2 : Int) ∈ ev.foldl (fun ts e => addT ts e.2) ts
  | d :: ev, ts, e, h => by
    rw [List.foldl_cons]
    rcases List.mem_cons.1 h with rfl | h
    · exact foldT_sub ev _ _ (addT_mem _ _)
    · exact foldT_mem ev _ e h
theorem turnsE_mem {ev : List EvD} {x : ByteArray} {i : Nat} (h : (x, i) ∈ ev) : (i : Int) ∈ turnsE ev x := by
  unfold turnsE
  exact foldT_mem _ [] (x, i) (List.mem_filter.2 ⟨h, by simp⟩)

/-! ### The places -/
section
variable {due zs : List ByteArray} {i j n k m : Nat} {ts : List TurnD} {c : TurnD} {r : List Int}
theorem mem_placesK (h : r ∈ placesK due zs i n) : ∃ m, m < n ∧ r = [(i : Int), (m : Int)] ∧ stands due zs m = true := by
  induction n with
  | zero => cases h
  | succ n ih =>
    rw [placesK, List.mem_append] at h
    rcases h with h | h
    · obtain ⟨m, h1, h2⟩ := ih h
      exact ⟨m, by omega, h2⟩
    · split at h
      · rename_i hs
        rw [List.mem_singleton] at h
        exact ⟨n, by omega, h, hs⟩
      · cases h
theorem placesK_mem (hm : m < n) (hs : stands due zs m = true) : [(i : Int), (m : Int)] ∈ placesK due zs i n := by
  induction n with
  | zero => omega
  | succ n ih =>
    rw [placesK, List.mem_append]
    by_cases h : m < n
    · exact .inl (ih h)
    · obtain rfl : m = n := by omega
      right
      rw [if_pos hs]
      exact List.mem_singleton.2 rfl
theorem mem_placesT (h : r ∈ placesT due ts k) : ∃ i c, i < k ∧ ts[i]? = some c ∧ r ∈ placesK due (wordsV c.2) i ((wordsV c.2).length + 1 - due.length) := by
  induction k with
  | zero => cases h
  | succ k ih =>
    rw [placesT, List.mem_append] at h
    rcases h with h | h
    · obtain ⟨i, c, h1, h2⟩ := ih h
      exact ⟨i, c, by omega, h2⟩
    · cases hc : ts[k]? with
      | none => rw [hc] at h; cases h
      | some c =>
        rw [hc] at h
        exact ⟨k, c, by omega, hc, h⟩
theorem placesT_mem (hi : i < k) (hc : ts[i]? = some c) (h : r ∈ placesK due (wordsV c.2) i ((wordsV c.2).length + 1 - due.length)) : r ∈ placesT due ts k := by
  induction k with
  | zero => omega
  | succ k ih =>
    rw [placesT, List.mem_append]
    by_cases h1 : i < k
    · exact .inl (ih h1)
    · obtain rfl : i = k := by omega
      right
      rw [hc]
      exact h
end
theorem stands_one {x : ByteArray} {zs : List ByteArray} {m : Nat} (hx : normS x = x) : stands [x] zs m = true ↔ ∃ y, zs[m]? = some y ∧ normS y = x := by
  unfold stands
  rw [decide_eq_true_iff]
  have e1 : normL [x] = [x] := by simp [normL, hx]
  have e2 : ((normL zs).drop m).take [x].length = ((zs[m]?).map normS).toList := by
    unfold normL
    rw [List.length_singleton, List.take_one, List.head?_drop, List.getElem?_map]
  rw [e1, e2]
  cases zs[m]? with
  | none => simp
  | some y => simp

/-- What the index says of one of its words. -/
structure IdxWord (l : List TurnD) (x : ByteArray) (ts : List Int) : Prop where
  fix : normS x = x
  small : x.size ≤ 80
  find : findB l x = true
  some_ : 0 < (findL l x).length
  has : ∀ (k : Nat) r, (findL l x)[k]? = some r → ∃ i m : Nat, r = [(i : Int), (m : Int)] ∧ (i : Int) ∈ ts
theorem index_word {l : List TurnD} {k : Nat} {x : ByteArray} {ts : List Int} (h : (indexL l)[k]? = some (x, ts)) : IdxWord l x ts := by
  have hm := List.mem_of_getElem? h
  unfold indexL at hm
  split at hm
  case isFalse => cases hm
  rename_i hv
  unfold idxE idxW at hm
  obtain ⟨x', hx, e⟩ := List.mem_map.1 hm
  injection e with e1 e2
  subst e1
  rw [mem_namesE] at hx
  obtain ⟨⟨x2, i⟩, hev, e3⟩ := List.mem_map.1 hx
  simp only at e3
  subst e3
  obtain ⟨hi, c, hc, hk⟩ := mem_evT hev
  obtain ⟨-, hne, m, y, hmn, hy, hn⟩ := mem_evK hk
  have hlow : ∀ b ∈ x2.data.toList, Lowd b := by rw [← hn]; exact normS_lowd y
  have hfix : normS x2 = x2 := by rw [← hn]; exact normS_twice y
  have hs1 : x2.size ≤ 80 := by
    have h1 := (text_len (turn_text hv hc)).2 y (List.mem_of_getElem? hy)
    have h2 := normS_size y
    rw [hn] at h2
    omega
  have hs0 := size_ne hne
  have hfb : findB l x2 = true := by
    unfold findB
    rw [hv, lowd_text hlow hs0 hs1]
    rfl
  have hfl : findL l x2 = placesT [x2] l l.length := by
    unfold findL
    rw [if_pos hfb, lowd_words hlow hs0]
  refine ⟨hfix, hs1, hfb, ?_, ?_⟩
  · have hin : [(i : Int), (m : Int)] ∈ findL l x2 := by
      rw [hfl]
      refine placesT_mem hi hc (placesK_mem (by rw [List.length_singleton]; omega) ((stands_one hfix).2 ⟨y, hy, hn⟩))
    exact List.length_pos_of_mem hin
  · intro q r hr
    have hr := List.mem_of_getElem? hr
    rw [hfl] at hr
    obtain ⟨i2, c2, hi2, hc2, hr2⟩ := mem_placesT hr
    obtain ⟨m2, hm2, rfl, hs2⟩ := mem_placesK hr2
    refine ⟨i2, m2, rfl, ?_⟩
    obtain ⟨y2, hy2, hn2⟩ := (stands_one hfix).1 hs2
    rw [← e2]
    refine turnsE_mem (evT_mem hi2 hc2 ?_)
    rw [← hn2]
    exact evK_mem (List.getElem?_eq_some_iff.1 hy2).1 hy2 (by rw [hn2]; exact hne)
end Go.Proofs.YthokekgdiebhjaaDoor
