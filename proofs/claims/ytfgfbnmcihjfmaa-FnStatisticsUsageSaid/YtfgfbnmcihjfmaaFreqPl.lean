/-
  Strokes by how often they occur: the order, and the list that it makes; plain values. No program is named here.
-/
import Derived.Test.YtfgfbnmcihjfmaaBase
namespace Go.Proofs.Ytfgfbnmcihjfmaa
set_option linter.unusedVariables false
set_option linter.unusedSimpArgs false

/-- x stands ahead of y: it is counted more often, or as often and is less. -/
def Bef (c : Int → Int) (x y : Int) : Prop := c y < c x ∨ (c x = c y ∧ x < y)
section
variable {c : Int → Int} {x y z : Int}
theorem bef_irr : ¬ Bef c x x := by unfold Bef; omega
theorem bef_trans (h1 : Bef c x y) (h2 : Bef c y z) : Bef c x z := by unfold Bef at *; omega
theorem bef_asymm (h1 : Bef c x y) : ¬ Bef c y x := by unfold Bef at *; omega
theorem bef_tot (h : x ≠ y) : Bef c x y ∨ Bef c y x := by unfold Bef; omega
/-- Where x is less, x stands ahead just where y is not counted more often. -/
theorem bef_low (h : x < y) : Bef c x y ↔ ¬ c x < c y := by unfold Bef; omega
theorem bef_high (h : x < y) : Bef c y x ↔ c x < c y := by unfold Bef; omega
end
theorem freq_same {c : Int → Int} : ∀ {a b : List Int}, a.Pairwise (Bef c) → b.Pairwise (Bef c) → (∀ x, x ∈ a ↔ x ∈ b) → a = b
  | [], [], _, _, _ => rfl
  | [], y :: b, _, _, h => absurd ((h y).2 (by simp)) (by simp)
  | x :: a, [], _, _, h => absurd ((h x).1 (by simp)) (by simp)
  | x :: a, y :: b, ha, hb, h => by
    rw [List.pairwise_cons] at ha hb
    have hxy : x = y := by
      rcases List.mem_cons.1 ((h x).1 (by simp)) with e | h1
      · exact e
      · rcases List.mem_cons.1 ((h y).2 (by simp)) with e | h2
        · exact e.symm
        · exact absurd (ha.1 _ h2) (bef_asymm (hb.1 _ h1))
    subst hxy
    congr 1
    refine freq_same ha.2 hb.2 (fun z => ⟨fun hz => ?_, fun hz => ?_⟩)
    · rcases List.mem_cons.1 ((h z).1 (by simp [hz])) with e | h1
      · subst e; exact absurd (ha.1 _ hz) bef_irr
      · exact h1
    · rcases List.mem_cons.1 ((h z).2 (by simp [hz])) with e | h1
      · subst e; exact absurd (hb.1 _ hz) bef_irr
      · exact h1
/-- An element put in its place. -/
theorem freq_put {c : Int → Int} {ns : List Int} {x : Int} {k : Nat} (h : ns.Pairwise (Bef c)) (hx : x ∉ ns) (h1 : ∀ j y, j < k → ns[j]? = some y → Bef c y x) (h2 : ∀ y, ns[k]? = some y → ¬ Bef c y x) (hk : k ≤ ns.length) :
    (ns.take k ++ [x] ++ ns.drop k).Pairwise (Bef c) := by
  have hlow : ∀ y ∈ ns.take k, Bef c y x := by
    intro y hy
    obtain ⟨j, hj⟩ := List.mem_iff_getElem?.1 hy
    rw [List.getElem?_take] at hj
    split at hj
    · rename_i hjk; exact h1 j y hjk hj
    · cases hj
  have hsp : (ns.take k ++ ns.drop k).Pairwise (Bef c) := by rw [List.take_append_drop]; exact h
  rw [List.pairwise_append] at hsp
  obtain ⟨ha, hb, hc⟩ := hsp
  have hhigh : ∀ y ∈ ns.drop k, Bef c x y := by
    intro y hy
    cases hd : ns.drop k with
    | nil => rw [hd] at hy; cases hy
    | cons z m =>
      have hz : ns[k]? = some z := by
        have := List.head?_drop (l := ns) (i := k)
        rw [hd] at this
        exact this.symm
      have hxz : Bef c x z := by
        rcases bef_tot (c := c) (x := x) (y := z) (fun e => hx (by rw [e]; exact List.mem_of_getElem? hz)) with h | h
        · exact h
        · exact absurd h (h2 z hz)
      rw [hd] at hy hb
      rcases List.mem_cons.1 hy with e | hm
      · rw [e]; exact hxz
      · exact bef_trans hxz ((List.pairwise_cons.1 hb).1 y hm)
  rw [List.append_assoc, List.pairwise_append]
  refine ⟨ha, ?_, ?_⟩
  · rw [List.singleton_append, List.pairwise_cons]
    exact ⟨hhigh, hb⟩
  · intro p hp q hq
    rcases List.mem_append.1 hq with h3 | h3
    · rw [List.mem_singleton] at h3; rw [h3]; exact hlow p hp
    · exact hc p hp q h3
theorem freq_put_mem {ns : List Int} {x : Int} (k : Nat) (y : Int) : y ∈ ns.take k ++ [x] ++ ns.drop k ↔ y ∈ ns ∨ y = x := by
  rw [List.mem_append, List.mem_append, List.mem_singleton]
  conv => rhs; rw [← List.take_append_drop k ns, List.mem_append]
  constructor
  · rintro ((h | h) | h)
    · exact .inl (.inl h)
    · exact .inr h
    · exact .inl (.inr h)
  · rintro ((h | h) | h)
    · exact .inl (.inl h)
    · exact .inr h
    · exact .inl (.inr h)
theorem freq_nodup {c : Int → Int} {ns : List Int} (h : ns.Pairwise (Bef c)) : ns.Nodup := h.imp fun h e => by subst e; exact bef_irr h
/-- How often x occurs. -/
def cntS (l : List Int) (x : Int) : Int := (l.count x : Nat)
/-- The strokes l by how often they occur. -/
structure Freq (l ns : List Int) : Prop where
  srt : ns.Pairwise (Bef (cntS l))
  mem : ∀ x, x ∈ ns ↔ x ∈ l
theorem Freq.same {l a b : List Int} (h : Freq l a) (h' : Freq l b) : a = b := freq_same h.srt h'.srt fun x => (h.mem x).trans (h'.mem x).symm
theorem sub_len : ∀ {a b : List Int}, a.Nodup → (∀ x ∈ a, x ∈ b) → a.length ≤ b.length
  | [], b, _, _ => Nat.zero_le _
  | x :: a, b, hn, h => by
    rw [List.nodup_cons] at hn
    have h1 := sub_len (b := b.erase x) hn.2 (fun y hy => (List.mem_erase_of_ne (fun e => hn.1 (by rw [← e]; exact hy))).2 (h y (by simp [hy])))
    rw [List.length_erase_of_mem (h x (by simp))] at h1
    have h2 : 0 < b.length := List.length_pos_of_mem (h x (by simp))
    simp only [List.length_cons]
    omega
theorem Freq.len {l ns : List Int} (h : Freq l ns) : ns.length ≤ l.length := sub_len (freq_nodup h.srt) fun x hx => (h.mem x).1 hx
theorem zero_sum : ∀ ns : List Int, (ns.map fun _ => (0 : Int)).sum = 0
  | [] => rfl
  | x :: ns => by rw [List.map_cons, List.sum_cons, zero_sum ns]; rfl
/-- The numbers add up to the number of strokes. -/
theorem count_sum : ∀ {ns : List Int} (l : List Int), ns.Nodup → (∀ x ∈ l, x ∈ ns) → (ns.map (cntS l)).sum = (l.length : Int)
  | ns, [], _, _ => by
    have : ns.map (cntS []) = ns.map fun _ => (0 : Int) := by apply List.map_congr_left; intro x _; simp [cntS]
    rw [this]
    exact zero_sum ns
  | ns, y :: l, hn, h => by
    have ih := count_sum (ns := ns) l hn (fun x hx => h x (by simp [hx]))
    have hy := h y (by simp)
    have key : ∀ ms : List Int, ms.Nodup → (ms.map (cntS (y :: l))).sum = (ms.map (cntS l)).sum + (if y ∈ ms then 1 else 0) := by
      intro ms
      induction ms with
      | nil => intro _; simp
      | cons z ms ihm =>
        intro hnz
        rw [List.nodup_cons] at hnz
        have hz := ihm hnz.2
        rw [List.map_cons, List.map_cons, List.sum_cons, List.sum_cons, hz]
        have hc : cntS (y :: l) z = cntS l z + (if y = z then 1 else 0) := by
          unfold cntS
          rw [List.count_cons]
          by_cases e : y = z
          · subst e; simp
          · simp [e]
        rw [hc]
        by_cases e : y = z
        · subst e
          rw [if_pos rfl, if_neg hnz.1, if_pos (by simp)]
          omega
        · rw [if_neg e]
          by_cases hm : y ∈ ms
          · rw [if_pos hm, if_pos (by simp [hm])]; omega
          · rw [if_neg hm, if_neg (by simp [hm, e])]; omega
    rw [key ns hn, ih, if_pos hy, List.length_cons]
    omega
theorem Freq.sum {l ns : List Int} (h : Freq l ns) : (ns.map (cntS l)).sum = (l.length : Int) := count_sum l (freq_nodup h.srt) fun x hx => (h.mem x).2 hx
theorem cntS_range (l : List Int) (x : Int) : 0 ≤ cntS l x ∧ cntS l x ≤ (l.length : Int) := by
  unfold cntS
  have := List.count_le_length (a := x) (l := l)
  omega
end Go.Proofs.Ytfgfbnmcihjfmaa
