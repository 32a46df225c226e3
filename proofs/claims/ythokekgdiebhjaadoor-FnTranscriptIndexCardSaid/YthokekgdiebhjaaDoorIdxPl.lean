/-
  The index of words, as the reference keeps it sorted and as the program collects it: plain values. No program is named here.
-/
import Derived.Test.YthokekgdiebhjaaDoorSpeakPl
import Derived.Test.YthokekgdiebhjaaDoorConcPl
namespace Go.Proofs.YthokekgdiebhjaaDoor
set_option linter.unusedVariables false
set_option linter.unusedSimpArgs false

abbrev EvD := ByteArray × Nat
abbrev IdxD := ByteArray × List Int
def addT (ts : List Int) (i : Nat) : List Int := if ts.getLast? = some (i : Int) then ts else ts ++ [(i : Int)]
def turnsE (ev : List EvD) (x : ByteArray) : List Int := (ev.filter fun e => decide (e.1 = x)).foldl (fun ts e => addT ts e.2) []
section
variable {ev : List EvD} {x y : ByteArray} {i : Nat}
theorem turnsE_same : turnsE (ev ++ [(x, i)]) x = addT (turnsE ev x) i := by
  unfold turnsE
  rw [List.filter_append, List.foldl_append]
  simp
theorem turnsE_other (h : x ≠ y) : turnsE (ev ++ [(x, i)]) y = turnsE ev y := by
  unfold turnsE
  rw [List.filter_append]
  simp [h]
theorem turnsE_none (h : x ∉ ev.map (·.1)) : turnsE ev x = [] := by
  unfold turnsE
  rw [List.filter_eq_nil_iff.2]
  · rfl
  · intro e he hx
    simp only [decide_eq_true_eq] at hx
    exact h (List.mem_map.2 ⟨e, he, hx⟩)
end
/-- The events come in the order of the turns, none later than i. -/
structure Asc (ev : List EvD) (i : Nat) : Prop where
  le : ∀ e ∈ ev, e.2 ≤ i
  srt : ev.Pairwise fun a b => a.2 ≤ b.2
theorem asc_nil (i : Nat) : Asc [] i := ⟨fun e h => (by cases h), List.Pairwise.nil⟩
theorem Asc.more {ev : List EvD} {i j : Nat} (h : Asc ev i) (hj : i ≤ j) : Asc ev j := ⟨fun e he => Nat.le_trans (h.le e he) hj, h.srt⟩
theorem Asc.put {ev : List EvD} {i : Nat} (h : Asc ev i) (x : ByteArray) : Asc (ev ++ [(x, i)]) i := by
  refine ⟨fun e he => ?_, ?_⟩
  · rcases List.mem_append.1 he with h1 | h1
    · exact h.le e h1
    · rw [List.mem_singleton] at h1; subst h1; exact Nat.le_refl _
  · rw [List.pairwise_append]
    exact ⟨h.srt, by simp, fun a ha b hb => by rw [List.mem_singleton] at hb; subst hb; exact h.le a ha⟩
def Bnd (ts : List Int) (i : Nat) : Prop := (∀ t ∈ ts, 0 ≤ t ∧ t ≤ (i : Int)) ∧ ∀ z, ts.getLast? = some z → ∀ t ∈ ts, t ≤ z
theorem bnd_add {ts : List Int} {i j : Nat} (h : Bnd ts i) (hij : i ≤ j) : Bnd (addT ts j) j := by
  unfold addT
  split
  · exact ⟨fun t ht => by have := h.1 t ht; omega, h.2⟩
  · refine ⟨fun t ht => ?_, fun z hz t ht => ?_⟩
    · rcases List.mem_append.1 ht with h1 | h1
      · have := h.1 t h1; omega
      · rw [List.mem_singleton] at h1; omega
    · rw [List.getLast?_append] at hz
      simp only [List.getLast?_singleton, Option.some_or, Option.some.injEq] at hz
      rcases List.mem_append.1 ht with h1 | h1
      · have := h.1 t h1; omega
      · rw [List.mem_singleton] at h1; omega
theorem bnd_fold : ∀ (ev : List EvD) (ts : List Int) (i j : Nat), Bnd ts i → i ≤ j → (∀ e ∈ ev, i ≤ e.2 ∧ e.2 ≤ j) → (ev.Pairwise fun a b => a.2 ≤ b.2) → Bnd (ev.foldl (fun ts e => addT ts e.2) ts) j
  | [], ts, i, j, h, hij, _, _ => ⟨fun t ht => by have := h.1 t ht; omega, h.2⟩
  | e :: ev, ts, i, j, h, hij, hb, hs => by
    have h1 := hb e (by simp)
    have h2 := List.pairwise_cons.1 hs
    rw [List.foldl_cons]
    exact bnd_fold ev _ e.2 j (bnd_add h h1.1) h1.2 (fun e' he' => ⟨h2.1 e' he', (hb e' (by simp [he'])).2⟩) h2.2
theorem turns_bnd {ev : List EvD} {i : Nat} (h : Asc ev i) (x : ByteArray) : Bnd (turnsE ev x) i :=
  bnd_fold _ [] 0 i ⟨fun t ht => (by cases ht), fun z hz => (by simp at hz)⟩ (Nat.zero_le _) (fun e he => ⟨Nat.zero_le _, h.le e (List.mem_filter.1 he).1⟩) (h.srt.sublist (List.filter_sublist))
/-- A turn that is listed is the last one. -/
theorem turns_last {ev : List EvD} {i : Nat} (h : Asc ev i) (x : ByteArray) : decide ((i : Int) ∈ turnsE ev x) = decide ((turnsE ev x).getLast? = some (i : Int)) := by
  have hb := turns_bnd h x
  rw [decide_eq_decide]
  constructor
  · intro hm
    cases hl : (turnsE ev x).getLast? with
    | none => rw [List.getLast?_eq_none_iff] at hl; rw [hl] at hm; cases hm
    | some z =>
      have h1 := hb.2 z hl _ hm
      have h2 := (hb.1 z (List.mem_of_getLast? hl)).2
      rw [show z = (i : Int) by omega]
  · exact fun hl => List.mem_of_getLast? hl
/-! ### The reference's sorted list -/
def namesE (ev : List EvD) : List ByteArray := ev.foldl (fun ns e => insB ns e.1) []
theorem namesE_next (ev : List EvD) (x : ByteArray) (i : Nat) : namesE (ev ++ [(x, i)]) = insB (namesE ev) x := by unfold namesE; rw [List.foldl_append]; rfl
theorem srt_foldE : ∀ (ev : List EvD) (ns : List ByteArray), Srt ns → Srt (ev.foldl (fun ns e => insB ns e.1) ns)
  | [], ns, h => h
  | e :: ev, ns, h => srt_foldE ev _ (srt_ins h _)
theorem srt_namesE (ev : List EvD) : Srt (namesE ev) := srt_foldE ev [] List.Pairwise.nil
theorem mem_foldE : ∀ (ev : List EvD) (ns : List ByteArray) (x : ByteArray), x ∈ ev.foldl (fun ns e => insB ns e.1) ns ↔ x ∈ ns ∨ x ∈ ev.map (·.1)
  | [], ns, x => by simp
  | e :: ev, ns, x => by rw [List.foldl_cons, mem_foldE ev, mem_ins, List.map_cons, List.mem_cons, or_assoc]
theorem mem_namesE {ev : List EvD} {x : ByteArray} : x ∈ namesE ev ↔ x ∈ ev.map (·.1) := by unfold namesE; rw [mem_foldE]; simp
def idxW (ns : List ByteArray) (ev : List EvD) : List IdxD := ns.map fun x => (x, turnsE ev x)
def idxE (ev : List EvD) : List IdxD := idxW (namesE ev) ev
theorem idxW_len (ns : List ByteArray) (ev : List EvD) : (idxW ns ev).length = ns.length := by simp [idxW]
theorem idxW_at {ns : List ByteArray} {ev : List EvD} {k : Nat} {x : ByteArray} (h : ns[k]? = some x) : (idxW ns ev)[k]? = some (x, turnsE ev x) := by simp [idxW, h]
/-- A word put in its place: its list begins empty. -/
theorem idx_ins {ev : List EvD} {x : ByteArray} (hne : (namesE ev)[placeB (namesE ev) x]? ≠ some x) :
    idxW (insB (namesE ev) x) ev = (idxE ev).take (placeB (namesE ev) x) ++ [(x, [])] ++ (idxE ev).drop (placeB (namesE ev) x) := by
  have h0 : turnsE ev x = [] := turnsE_none (fun h => ins_no (srt_namesE _) hne (mem_namesE.2 h))
  unfold insB
  rw [if_neg hne]
  unfold idxE idxW
  rw [List.map_append, List.map_append, List.map_take, List.map_drop, List.map_singleton, h0]
/-- One event more: its word's list grows. -/
theorem idx_next {ev : List EvD} {ns : List ByteArray} {x : ByteArray} {p i : Nat} (hn : ns.Nodup) (hp : ns[p]? = some x) : idxW ns (ev ++ [(x, i)]) = (idxW ns ev).set p (x, addT (turnsE ev x) i) := by
  apply List.ext_getElem?
  intro j
  unfold idxW
  rw [List.getElem?_set, List.getElem?_map, List.length_map]
  have hpl : p < ns.length := (List.getElem?_eq_some_iff.1 hp).1
  by_cases hj : p = j
  · subst hj
    rw [if_pos rfl, if_pos hpl, hp]
    simp only [Option.map_some]
    rw [turnsE_same]
  · rw [if_neg hj, List.getElem?_map]
    cases hq : ns[j]? with
    | none => rfl
    | some y =>
      simp only [Option.map_some]
      rw [turnsE_other (fun e => hj ?_)]
      exact (List.getElem?_inj hpl hn).1 (by rw [hp, hq, e])
/-! ### The program's list in the order of the words' first turns -/
open scoped Classical in
noncomputable def firstU (us : List ByteArray) (x : ByteArray) : List ByteArray := if x ∈ us then us else us ++ [x]
noncomputable def firstE (ev : List EvD) : List ByteArray := ev.foldl (fun us e => firstU us e.1) []
theorem firstE_next (ev : List EvD) (x : ByteArray) (i : Nat) : firstE (ev ++ [(x, i)]) = firstU (firstE ev) x := by unfold firstE; rw [List.foldl_append]; rfl
theorem nodup_firstU {us : List ByteArray} (h : us.Nodup) (x : ByteArray) : (firstU us x).Nodup := by
  unfold firstU
  split
  · exact h
  · next hx =>
    rw [List.nodup_append]
    exact ⟨h, by simp, fun a ha b hb e => by rw [List.mem_singleton] at hb; subst hb; subst e; exact hx ha⟩
theorem nodup_foldF : ∀ (ev : List EvD) (us : List ByteArray), us.Nodup → (ev.foldl (fun us e => firstU us e.1) us).Nodup
  | [], us, h => h
  | e :: ev, us, h => nodup_foldF ev _ (nodup_firstU h _)
theorem nodup_firstE (ev : List EvD) : (firstE ev).Nodup := nodup_foldF ev [] List.nodup_nil
theorem mem_firstU {us : List ByteArray} {x y : ByteArray} : y ∈ firstU us x ↔ y ∈ us ∨ y = x := by
  unfold firstU
  split
  · next h => exact ⟨.inl, fun h' => h'.elim id (fun e => by rw [e]; exact h)⟩
  · rw [List.mem_append, List.mem_singleton]
theorem mem_foldF : ∀ (ev : List EvD) (us : List ByteArray) (x : ByteArray), x ∈ ev.foldl (fun us e => firstU us e.1) us ↔ x ∈ us ∨ x ∈ ev.map (·.1)
  | [], us, x => by simp
  | e :: ev, us, x => by rw [List.foldl_cons, mem_foldF ev, mem_firstU, List.map_cons, List.mem_cons, or_assoc]
theorem mem_firstE {ev : List EvD} {x : ByteArray} : x ∈ firstE ev ↔ x ∈ ev.map (·.1) := by unfold firstE; rw [mem_foldF]; simp
/-- Sorted by the words, the program's list is the reference's. -/
theorem sorted_idx {ev : List EvD} {L : List IdxD} (hm : ∀ c, c ∈ L ↔ c ∈ idxW (firstE ev) ev) (hs : Srt (L.map (·.1))) : L = idxE ev := by
  have h1 : L.map (·.1) = namesE ev := srt_same hs (srt_namesE ev) (fun x => by
    rw [mem_namesE, ← mem_firstE, List.mem_map]
    constructor
    · rintro ⟨c, hc, rfl⟩
      obtain ⟨y, hy, e⟩ := List.mem_map.1 ((hm c).1 hc)
      rw [← e]; exact hy
    · intro hx
      exact ⟨(x, turnsE ev x), (hm _).2 (List.mem_map.2 ⟨x, hx, rfl⟩), rfl⟩)
  have h2 : ∀ c ∈ L, c = (c.1, turnsE ev c.1) := fun c hc => by
    obtain ⟨y, hy, e⟩ := List.mem_map.1 ((hm c).1 hc)
    rw [← e]
  have h3 : L = (L.map (·.1)).map fun x => (x, turnsE ev x) := by
    rw [List.map_map]
    conv => lhs; rw [← List.map_id L]
    exact List.map_congr_left (fun c hc => h2 c hc)
  rw [h3, h1]
  rfl
/-! ### The events of a transcript -/
def evK (ws : List ByteArray) (i : Nat) : Nat → List EvD
  | 0 => []
  | n + 1 => evK ws i n ++ (match ws[n]? with | some x => if normS x = ⟨#[]⟩ then [] else [(normS x, i)] | none => [])
def evT (l : List TurnD) : Nat → List EvD
  | 0 => []
  | k + 1 => evT l k ++ (match l[k]? with | some c => evK (wordsV c.2) k (wordsV c.2).length | none => [])
section
variable {ws : List ByteArray} {i n k : Nat} {x : ByteArray} {l : List TurnD} {c : TurnD}
theorem evK_skip (h : ws[n]? = some x) (hx : normS x = ⟨#[]⟩) : evK ws i (n + 1) = evK ws i n := by simp [evK, h, hx]
theorem evK_put (h : ws[n]? = some x) (hx : ¬ normS x = ⟨#[]⟩) : evK ws i (n + 1) = evK ws i n ++ [(normS x, i)] := by simp [evK, h, hx]
theorem evT_next (h : l[k]? = some c) : evT l (k + 1) = evT l k ++ evK (wordsV c.2) k (wordsV c.2).length := by simp [evT, h]
end
theorem evK_asc (ws : List ByteArray) (i : Nat) (ev : List EvD) (h : Asc ev i) : ∀ n, Asc (ev ++ evK ws i n) i
  | 0 => by rw [evK, List.append_nil]; exact h
  | n + 1 => by
    have ih := evK_asc ws i ev h n
    cases hx : ws[n]? with
    | none => rw [evK, hx, List.append_nil]; exact ih
    | some x =>
      by_cases hn : normS x = ⟨#[]⟩
      · rw [evK_skip hx hn]; exact ih
      · rw [evK_put hx hn, ← List.append_assoc]; exact ih.put _
theorem evT_asc (l : List TurnD) : ∀ k, Asc (evT l k) k
  | 0 => asc_nil 0
  | k + 1 => by
    have ih := evT_asc l k
    cases hc : l[k]? with
    | none => rw [evT, hc, List.append_nil]; exact ih.more (by omega)
    | some c => rw [evT_next hc]; exact (evK_asc _ k _ ih _).more (by omega)
theorem evK_len (ws : List ByteArray) (i : Nat) : ∀ n, (evK ws i n).length ≤ n
  | 0 => by simp [evK]
  | n + 1 => by
    have := evK_len ws i n
    cases hx : ws[n]? with
    | none => simp [evK, hx]; omega
    | some x =>
      by_cases hn : normS x = ⟨#[]⟩
      · rw [evK_skip hx hn]; omega
      · rw [evK_put hx hn, List.length_append, List.length_singleton]; omega
theorem evT_len {l : List TurnD} (hv : transB l = true) : ∀ k, (evT l k).length ≤ k * 40
  | 0 => by simp [evT]
  | k + 1 => by
    have ih := evT_len hv k
    cases hc : l[k]? with
    | none => simp [evT, hc]; omega
    | some c =>
      have h1 := (text_len (turn_text hv hc)).1
      have h2 := evK_len (wordsV c.2) k (wordsV c.2).length
      rw [evT_next hc, List.length_append]; omega
theorem len_foldE : ∀ (ev : List EvD) (ns : List ByteArray), (ev.foldl (fun ns e => insB ns e.1) ns).length ≤ ns.length + ev.length
  | [], ns => by simp
  | e :: ev, ns => by
    have := len_foldE ev (insB ns e.1)
    have := ins_len ns e.1
    rw [List.foldl_cons, List.length_cons]; omega
theorem namesE_len (ev : List EvD) : (namesE ev).length ≤ ev.length := by have := len_foldE ev []; simpa [namesE] using this
theorem len_foldF : ∀ (ev : List EvD) (us : List ByteArray), (ev.foldl (fun us e => firstU us e.1) us).length ≤ us.length + ev.length
  | [], us => by simp
  | e :: ev, us => by
    have := len_foldF ev (firstU us e.1)
    have : (firstU us e.1).length ≤ us.length + 1 := by unfold firstU; split <;> simp
    rw [List.foldl_cons, List.length_cons]; omega
theorem firstE_len (ev : List EvD) : (firstE ev).length ≤ ev.length := by have := len_foldF ev []; simpa [firstE] using this
theorem len_foldT : ∀ (ev : List EvD) (ts : List Int), (ev.foldl (fun ts e => addT ts e.2) ts).length ≤ ts.length + ev.length
  | [], ts => by simp
  | e :: ev, ts => by
    have := len_foldT ev (addT ts e.2)
    have : (addT ts e.2).length ≤ ts.length + 1 := by unfold addT; split <;> simp
    rw [List.foldl_cons, List.length_cons]; omega
theorem turnsE_len (ev : List EvD) (x : ByteArray) : (turnsE ev x).length ≤ ev.length := by
  have h1 := len_foldT (ev.filter fun e => decide (e.1 = x)) []
  have h2 := List.length_filter_le (fun e : EvD => decide (e.1 = x)) ev
  unfold turnsE
  simp only [List.length_nil] at h1
  omega
/-- What WordIndex returns. -/
def indexL (l : List TurnD) : List IdxD := if transB l then idxE (evT l l.length) else []
end Go.Proofs.YthokekgdiebhjaaDoor
