/-
  The speakers of a transcript in their order, and how many words each said: as the reference keeps them, and as the program sorts them.
-/
import Derived.Test.YthokekgdiebhjaaDoorLessS
import Derived.Test.YthokekgdiebhjaaDoorConcPl
import Derived.Lib.SlicesCompact
import Derived.Lib.SlicesS
import Derived.Lib.OwnBridge
namespace Go.Proofs.YthokekgdiebhjaaDoor
open Go.RowKit Go.Sort
set_option linter.unusedVariables false

/-! ### The order -/
theorem lessL_irr : ∀ a : List UInt8, lessL a a = false
  | [] => rfl
  | x :: a => by simp [lessL, lessL_irr a]
theorem lessL_trans : ∀ {a b c : List UInt8}, lessL a b = true → lessL b c = true → lessL a c = true
  | [], [], c, h, _ => by simp [lessL] at h
  | [], y :: b, [], _, h => by simp [lessL] at h
  | [], y :: b, z :: c, _, _ => rfl
  | x :: a, [], c, h, _ => by simp [lessL] at h
  | x :: a, y :: b, [], _, h => by simp [lessL] at h
  | x :: a, y :: b, z :: c, h1, h2 => by
    simp only [lessL] at h1 h2 ⊢
    by_cases hxy : x = y
    · subst hxy
      rw [if_pos rfl] at h1
      by_cases hxz : x = z
      · subst hxz
        rw [if_pos rfl] at h2 ⊢
        exact lessL_trans h1 h2
      · rw [if_neg hxz] at h2 ⊢
        exact h2
    · rw [if_neg hxy] at h1
      simp only [decide_eq_true_eq] at h1
      by_cases hyz : y = z
      · subst hyz
        rw [if_neg hxy]
        simpa using h1
      · rw [if_neg hyz] at h2
        simp only [decide_eq_true_eq] at h2
        have hxz : x ≠ z := fun h => by subst h; omega
        rw [if_neg hxz]
        simp only [decide_eq_true_eq]
        omega
theorem lessL_tri : ∀ {a b : List UInt8}, lessL a b = false → a ≠ b → lessL b a = true
  | [], [], _, h => absurd rfl h
  | [], y :: b, h, _ => by simp [lessL] at h
  | x :: a, [], _, _ => rfl
  | x :: a, y :: b, h, hne => by
    simp only [lessL] at h ⊢
    by_cases hxy : x = y
    · subst hxy
      rw [if_pos rfl] at h ⊢
      exact lessL_tri h (fun e => hne (by rw [e]))
    · rw [if_neg hxy] at h
      rw [if_neg (fun e => hxy e.symm)]
      simp only [decide_eq_false_iff_not, decide_eq_true_eq] at h ⊢
      have : x.toNat ≠ y.toNat := fun e => hxy (UInt8.toNat_inj.1 e)
      omega
theorem data_inj {a b : ByteArray} (h : a.data.toList = b.data.toList) : a = b := ByteArray.ext (Array.toList_inj.mp h)
theorem lessB_irr (a : ByteArray) : lessB a a = false := lessL_irr _
theorem lessB_trans {a b c : ByteArray} (h1 : lessB a b = true) (h2 : lessB b c = true) : lessB a c = true := lessL_trans h1 h2
theorem lessB_tri {a b : ByteArray} (h1 : lessB a b = false) (h2 : a ≠ b) : lessB b a = true := lessL_tri h1 (fun e => h2 (data_inj e))

/-! ### A list in strict order -/
def Srt (l : List ByteArray) : Prop := l.Pairwise fun a b => lessB a b = true
theorem Srt.nodup {l : List ByteArray} (h : Srt l) : l.Nodup := List.Pairwise.imp (fun {a b} hab e => by subst e; rw [lessB_irr] at hab; cases hab) h
theorem srt_same : ∀ {a b : List ByteArray}, Srt a → Srt b → (∀ x, x ∈ a ↔ x ∈ b) → a = b
  | [], [], _, _, _ => rfl
  | [], y :: b, _, _, h => absurd ((h y).2 (by simp)) (by simp)
  | x :: a, [], _, _, h => absurd ((h x).1 (by simp)) (by simp)
  | x :: a, y :: b, h1, h2, h => by
    have h1' := List.pairwise_cons.1 h1
    have h2' := List.pairwise_cons.1 h2
    have e : x = y := by
      rcases List.mem_cons.1 ((h x).1 (by simp)) with rfl | hx
      · rfl
      · rcases List.mem_cons.1 ((h y).2 (by simp)) with rfl | hy
        · rfl
        · have := lessB_trans (h1'.1 y hy) (h2'.1 x hx)
          rw [lessB_irr] at this
          cases this
    subst e
    rw [srt_same h1'.2 h2'.2 (fun z => ?_)]
    constructor
    · intro hz
      rcases List.mem_cons.1 ((h z).1 (List.mem_cons_of_mem _ hz)) with rfl | hz'
      · have := h1'.1 z hz; rw [lessB_irr] at this; cases this
      · exact hz'
    · intro hz
      rcases List.mem_cons.1 ((h z).2 (List.mem_cons_of_mem _ hz)) with rfl | hz'
      · have := h2'.1 z hz; rw [lessB_irr] at this; cases this
      · exact hz'

/-! ### Putting a text in its place -/
def insB (ns : List ByteArray) (s : ByteArray) : List ByteArray := if ns[placeB ns s]? = some s then ns else ns.take (placeB ns s) ++ [s] ++ ns.drop (placeB ns s)
theorem placeB_le (ns : List ByteArray) (s : ByteArray) : placeB ns s ≤ ns.length := (List.takeWhile_sublist _).length_le
theorem takeWhile_take {α : Type} (p : α → Bool) : ∀ l : List α, l.take (l.takeWhile p).length = l.takeWhile p
  | [] => rfl
  | x :: l => by
    simp only [List.takeWhile_cons]
    split
    · simp [takeWhile_take p l]
    · rfl
theorem takeWhile_drop {α : Type} (p : α → Bool) : ∀ l : List α, l.drop (l.takeWhile p).length = l.dropWhile p
  | [] => rfl
  | x :: l => by
    simp only [List.takeWhile_cons, List.dropWhile_cons]
    split
    · simp [takeWhile_drop p l]
    · rfl
theorem mem_tw {α : Type} {p : α → Bool} {x : α} : ∀ {l : List α}, x ∈ l.takeWhile p → p x = true
  | [], h => by cases h
  | y :: l, h => by
    rw [List.takeWhile_cons] at h
    split at h
    · rcases List.mem_cons.1 h with rfl | h
      · assumption
      · exact mem_tw h
    · cases h
theorem placeB_before {ns : List ByteArray} {s x : ByteArray} (h : x ∈ ns.take (placeB ns s)) : lessB x s = true := by
  unfold placeB at h
  rw [takeWhile_take] at h
  exact mem_tw (p := fun x => lessB x s) h
theorem placeB_here {ns : List ByteArray} {s x : ByteArray} (h : ns[placeB ns s]? = some x) : lessB x s = false := by
  have h1 : (ns.drop (placeB ns s))[0]? = some x := by rw [List.getElem?_drop, Nat.add_zero]; exact h
  unfold placeB at h1
  rw [takeWhile_drop] at h1
  cases hd : ns.dropWhile (fun x => lessB x s) with
  | nil => rw [hd] at h1; cases h1
  | cons y r =>
    rw [hd] at h1
    simp only [List.getElem?_cons_zero, Option.some.injEq] at h1
    subst h1
    have := List.head?_dropWhile_not (fun x => lessB x s) ns
    rw [hd] at this
    simpa using this
theorem placeB_behind {ns : List ByteArray} {s : ByteArray} (hs : Srt ns) (hne : ns[placeB ns s]? ≠ some s) {x : ByteArray} (h : x ∈ ns.drop (placeB ns s)) : lessB s x = true := by
  cases hd : ns.drop (placeB ns s) with
  | nil => rw [hd] at h; cases h
  | cons y r =>
    have hy : ns[placeB ns s]? = some y := by
      have : (ns.drop (placeB ns s))[0]? = some y := by rw [hd]; rfl
      rwa [List.getElem?_drop, Nat.add_zero] at this
    have h1 : lessB s y = true := lessB_tri (placeB_here hy) (fun e => hne (by rw [hy, e]))
    rw [hd] at h
    rcases List.mem_cons.1 h with rfl | hx
    · exact h1
    · have hp : (y :: r).Pairwise (fun a b => lessB a b = true) := by rw [← hd]; exact List.Pairwise.sublist (List.drop_sublist _ _) hs
      exact lessB_trans h1 ((List.pairwise_cons.1 hp).1 x hx)
theorem srt_ins {ns : List ByteArray} (hs : Srt ns) (s : ByteArray) : Srt (insB ns s) := by
  unfold insB
  split
  · exact hs
  · next hne =>
    unfold Srt
    rw [List.append_assoc, List.pairwise_append]
    refine ⟨List.Pairwise.sublist (List.take_sublist _ _) hs, ?_, ?_⟩
    · rw [List.singleton_append, List.pairwise_cons]
      exact ⟨fun x hx => placeB_behind hs hne hx, List.Pairwise.sublist (List.drop_sublist _ _) hs⟩
    · intro a ha b hb
      rcases List.mem_append.1 hb with hb | hb
      · rw [List.mem_singleton] at hb; subst hb; exact placeB_before ha
      · exact lessB_trans (placeB_before ha) (placeB_behind hs hne hb)
theorem mem_ins {ns : List ByteArray} {s x : ByteArray} : x ∈ insB ns s ↔ x ∈ ns ∨ x = s := by
  unfold insB
  split
  · next h => exact ⟨.inl, fun h' => h'.elim id (fun e => by subst e; exact List.mem_of_getElem? h)⟩
  · simp only [List.mem_append, List.mem_singleton]
    rw [show (x ∈ ns) ↔ (x ∈ ns.take (placeB ns s) ∨ x ∈ ns.drop (placeB ns s)) by rw [← List.mem_append, List.take_append_drop]]
    constructor
    · rintro ((h | h) | h) <;> simp [h]
    · rintro ((h | h) | h) <;> simp [h]
theorem ins_no {ns : List ByteArray} {s : ByteArray} (hs : Srt ns) (hne : ns[placeB ns s]? ≠ some s) : s ∉ ns := by
  intro h
  rw [← List.take_append_drop (placeB ns s) ns] at h
  rcases List.mem_append.1 h with h | h
  · have := placeB_before h; rw [lessB_irr] at this; cases this
  · have := placeB_behind hs hne h; rw [lessB_irr] at this; cases this

/-! ### The speakers, the words they said -/
def namesL (l : List TurnD) : List ByteArray := l.foldl (fun ns c => insB ns c.1) []
def saidL (l : List TurnD) (s : ByteArray) : Nat := ((l.filter fun c => decide (c.1 = s)).map fun c => (wordsV c.2).length).sum
def saysL (ns : List ByteArray) (l : List TurnD) : List Int := ns.map fun s => (saidL l s : Int)
theorem names_next {l : List TurnD} {k : Nat} {c : TurnD} (h : l[k]? = some c) : namesL (l.take (k + 1)) = insB (namesL (l.take k)) c.1 := by
  unfold namesL
  rw [List.take_add_one, h, List.foldl_append]
  rfl
theorem srt_fold : ∀ (l : List TurnD) (ns : List ByteArray), Srt ns → Srt (l.foldl (fun ns c => insB ns c.1) ns)
  | [], ns, h => h
  | c :: l, ns, h => srt_fold l _ (srt_ins h _)
theorem srt_names (l : List TurnD) : Srt (namesL l) := srt_fold l [] List.Pairwise.nil
theorem mem_fold : ∀ (l : List TurnD) (ns : List ByteArray) (x : ByteArray), x ∈ l.foldl (fun ns c => insB ns c.1) ns ↔ x ∈ ns ∨ x ∈ l.map (·.1)
  | [], ns, x => by simp
  | c :: l, ns, x => by
    rw [List.foldl_cons, mem_fold l, mem_ins, List.map_cons, List.mem_cons, or_assoc]
theorem mem_names {l : List TurnD} {x : ByteArray} : x ∈ namesL l ↔ x ∈ l.map (·.1) := by
  unfold namesL
  rw [mem_fold]
  simp
theorem ins_len (ns : List ByteArray) (s : ByteArray) : (insB ns s).length ≤ ns.length + 1 := by
  unfold insB
  split
  · omega
  · simp; omega
theorem fold_len : ∀ (l : List TurnD) (ns : List ByteArray), (l.foldl (fun ns c => insB ns c.1) ns).length ≤ ns.length + l.length
  | [], ns => by simp
  | c :: l, ns => by
    have h1 := fold_len l (insB ns c.1)
    have h2 := ins_len ns c.1
    simp only [List.foldl_cons, List.length_cons]
    omega
theorem names_len (l : List TurnD) : (namesL l).length ≤ l.length := by simpa [namesL] using fold_len l []
theorem said_next {l : List TurnD} {k : Nat} {c : TurnD} (h : l[k]? = some c) (s : ByteArray) : saidL (l.take (k + 1)) s = saidL (l.take k) s + if c.1 = s then (wordsV c.2).length else 0 := by
  unfold saidL
  rw [List.take_add_one, h, List.filter_append, List.map_append, List.sum_append]
  congr 1
  by_cases hs : c.1 = s <;> simp [hs]
theorem said_none {l : List TurnD} {s : ByteArray} (h : s ∉ l.map (·.1)) : saidL l s = 0 := by
  unfold saidL
  rw [List.filter_eq_nil_iff.2]
  · rfl
  · intro c hc hcs
    simp only [decide_eq_true_eq] at hcs
    exact h (List.mem_map.2 ⟨c, hc, hcs⟩)
theorem said_le {l : List TurnD} (hv : transB l = true) (s : ByteArray) : ∀ k, k ≤ l.length → saidL (l.take k) s ≤ k * 40
  | 0, _ => by simp [saidL]
  | k + 1, h => by
    have ih := said_le hv s k (by omega)
    obtain ⟨c, hc⟩ := some_at l (show k < l.length by omega)
    rw [said_next hc]
    have := (text_len (turn_text hv hc)).1
    split <;> omega
theorem says_len (ns : List ByteArray) (l : List TurnD) : (saysL ns l).length = ns.length := by simp [saysL]
/-- One turn more: its speaker's number grows. -/
theorem says_next {l : List TurnD} {k p : Nat} {c : TurnD} (h : l[k]? = some c) {ns : List ByteArray} (hn : ns.Nodup) (hp : ns[p]? = some c.1) :
    saysL ns (l.take (k + 1)) = (saysL ns (l.take k)).set p ((saidL (l.take k) c.1 : Int) + ((wordsV c.2).length : Int)) := by
  apply List.ext_getElem?
  intro j
  unfold saysL
  rw [List.getElem?_set, List.getElem?_map, List.length_map]
  have hpl : p < ns.length := (List.getElem?_eq_some_iff.1 hp).1
  by_cases hj : p = j
  · subst hj
    rw [if_pos rfl, if_pos hpl, hp]
    simp only [Option.map_some]
    rw [said_next h, if_pos rfl]
    rfl
  · rw [if_neg hj, List.getElem?_map]
    cases hq : ns[j]? with
    | none => rfl
    | some y =>
      simp only [Option.map_some]
      rw [said_next h, if_neg (fun e => hj ?_)]
      · rfl
      · have hjl : j < ns.length := (List.getElem?_eq_some_iff.1 hq).1
        exact (List.getElem?_inj hpl hn).1 (by rw [hp, hq, e])
theorem says_at {l : List TurnD} {ns : List ByteArray} {p : Nat} {s : ByteArray} (hp : ns[p]? = some s) : (saysL ns l)[p]? = some (saidL l s : Int) := by
  unfold saysL
  rw [List.getElem?_map, hp]
  rfl
/-- A name put in its place: its number begins at 0. -/
theorem says_ins {l : List TurnD} {k : Nat} {s : ByteArray} (hne : (namesL (l.take k))[placeB (namesL (l.take k)) s]? ≠ some s) :
    saysL (insB (namesL (l.take k)) s) (l.take k) = (saysL (namesL (l.take k)) (l.take k)).take (placeB (namesL (l.take k)) s) ++ [0] ++ (saysL (namesL (l.take k)) (l.take k)).drop (placeB (namesL (l.take k)) s) := by
  have h0 : saidL (l.take k) s = 0 := said_none (fun h => ins_no (srt_names _) hne (mem_names.2 h))
  unfold insB
  rw [if_neg hne]
  unfold saysL
  rw [List.map_append, List.map_append, List.map_take, List.map_drop, List.map_singleton, h0]
  rfl
theorem ins_at {ns : List ByteArray} {s : ByteArray} : (insB ns s)[placeB ns s]? = some s := by
  unfold insB
  split
  · assumption
  · have hl : (ns.take (placeB ns s)).length = placeB ns s := by rw [List.length_take]; exact Nat.min_eq_left (placeB_le ns s)
    rw [List.append_assoc, List.getElem?_append_right (by omega), hl, Nat.sub_self]
    rfl

theorem speaker_len {l : List TurnD} (hv : transB l = true) {c : TurnD} (h : c ∈ l) : c.1.size ≤ 12 := by
  simp only [transB, Bool.and_eq_true, List.all_eq_true] at hv
  have h1 := hv.2 c h
  simp only [turnB, speakerB, Bool.and_eq_true, inB_iff] at h1
  omega

/-! ### The program's sorted and compacted list -/
section
variable {ds : Array (List UInt8)}
theorem comp_mem : ∀ m, ∀ x ∈ Lib.compactUpTo ds m, ∃ j, j < m ∧ x = ds[j]!
  | 0, x, h => by simp [Lib.compactUpTo] at h
  | m + 1, x, h => by
    rw [Lib.compactUpTo_succ] at h
    rcases List.mem_append.1 h with h | h
    · obtain ⟨j, hj, e⟩ := comp_mem m x h
      exact ⟨j, by omega, e⟩
    · split at h
      · rw [List.mem_singleton] at h; exact ⟨m, by omega, h⟩
      · cases h
theorem comp_all : ∀ m j, j < m → ds[j]! ∈ Lib.compactUpTo ds m
  | 0, j, h => absurd h (Nat.not_lt_zero _)
  | m + 1, j, h => by
    rw [Lib.compactUpTo_succ]
    rcases Nat.lt_or_ge j m with h' | h'
    · exact List.mem_append_left _ (comp_all m j h')
    · obtain rfl : j = m := by omega
      by_cases hk : Lib.keeps ds j = true
      · rw [if_pos hk]; exact List.mem_append_right _ (by simp)
      · rw [if_neg hk]
        unfold Lib.keeps at hk
        simp only [decide_eq_true_eq, not_or, Decidable.not_not] at hk
        rw [hk.2]
        exact List.mem_append_left _ (comp_all j (j - 1) (by omega))
theorem comp_srt (hs : ∀ i j, i < j → j < ds.size → lessL ds[j]! ds[i]! = false) : ∀ m, m ≤ ds.size → (Lib.compactUpTo ds m).Pairwise (fun a b => lessL a b = true)
  | 0, _ => by simp [Lib.compactUpTo]
  | m + 1, h => by
    rw [Lib.compactUpTo_succ, List.pairwise_append]
    refine ⟨comp_srt hs m (by omega), by split <;> simp, ?_⟩
    intro a ha b hb
    split at hb
    · next hk =>
      rw [List.mem_singleton] at hb
      subst hb
      obtain ⟨j, hj, rfl⟩ := comp_mem m a ha
      unfold Lib.keeps at hk
      simp only [decide_eq_true_eq] at hk
      have hk := hk.resolve_left (by omega)
      have h1 : lessL ds[m - 1]! ds[m]! = true := lessL_tri (hs (m - 1) m (by omega) (by omega)) hk
      rcases Nat.lt_or_ge j (m - 1) with h' | h'
      · have h2 := hs j (m - 1) h' (by omega)
        by_cases e : ds[m - 1]! = ds[j]!
        · rw [← e]; exact h1
        · exact lessL_trans (lessL_tri h2 e) h1
      · rw [show j = m - 1 by omega]; exact h1
    · cases hb
end
def leL (x y : List UInt8) : Bool := decide (x ≤ y)
theorem leL_less (x y : List UInt8) : leL x y = !lessL y x := by
  unfold leL
  rw [lessL_lt]
  by_cases h : y < x
  · have : ¬ x ≤ y := fun h' => h' h
    simp [h, this]
  · have : x ≤ y := h
    simp [h, this]
/-- The sorted and compacted speakers are the reference's list. -/
theorem names_sorted (l : List TurnD) : Lib.compact (((l.map (·.1)).map (·.data.toList)).mergeSort fun x y => decide (x ≤ y)) = (namesL l).map (·.data.toList) := by
  obtain ⟨zs, hzs⟩ : ∃ zs, zs = ((l.map (·.1)).map (·.data.toList)).mergeSort leL := ⟨_, rfl⟩
  show Lib.compact (((l.map (·.1)).map (·.data.toList)).mergeSort leL) = _
  rw [← hzs]
  have hp : zs.Pairwise (fun a b => leL a b = true) := by
    rw [hzs]
    refine List.pairwise_mergeSort ?_ ?_ _
    · intro a b c h1 h2
      simp only [leL_less, Bool.not_eq_true'] at *
      by_cases e1 : a = b
      · subst e1; exact h2
      · have h1' := lessL_tri h1 (fun e => e1 e.symm)
        by_cases e2 : b = c
        · subst e2; exact h1
        · have h3 := lessL_trans h1' (lessL_tri h2 (fun e => e2 e.symm))
          cases hq : lessL c a
          · rfl
          · have := lessL_trans h3 hq; rw [lessL_irr] at this; cases this
    · intro a b
      simp only [leL_less, Bool.or_eq_true, Bool.not_eq_true']
      cases hq : lessL b a
      · exact .inl rfl
      · right
        cases hr : lessL a b
        · rfl
        · have := lessL_trans hq hr; rw [lessL_irr] at this; cases this
  have hmem : ∀ x, x ∈ zs ↔ x ∈ (l.map (·.1)).map (·.data.toList) := fun x => by rw [hzs]; exact (List.mergeSort_perm _ _).mem_iff
  have hs : ∀ i j, i < j → j < zs.toArray.size → lessL zs.toArray[j]! zs.toArray[i]! = false := by
    intro i j hij hj
    have hj' : j < zs.length := by simpa using hj
    have := List.pairwise_iff_getElem.1 hp i j (by omega) hj' hij
    rw [leL_less, Bool.not_eq_true'] at this
    rw [getElem!_pos zs.toArray j (by simpa using hj'), getElem!_pos zs.toArray i (by simp; omega)]
    simpa using this
  have hsr := comp_srt hs zs.length (by simp)
  -- as byte arrays
  have hb : ∀ c : List (List UInt8), (c.map fun b => (⟨b.toArray⟩ : ByteArray)).map (·.data.toList) = c := fun c => by rw [List.map_map]; simp [Function.comp_def]
  rw [← hb (Lib.compact zs)]
  congr 1
  refine srt_same ?_ (srt_names l) (fun x => ?_)
  · unfold Srt
    rw [List.pairwise_map]
    exact hsr
  · rw [mem_names, List.mem_map]
    constructor
    · rintro ⟨b, hbm, rfl⟩
      obtain ⟨j, hj, rfl⟩ := comp_mem zs.length b hbm
      have hz : zs.toArray[j]! ∈ zs := by rw [getElem!_pos zs.toArray j (by simpa using hj)]; simp
      have h1 := (hmem _).1 hz
      obtain ⟨y, hy, e⟩ := List.mem_map.1 h1
      rw [← e]
      exact hy
    · intro hx
      have h1 : x.data.toList ∈ zs := (hmem _).2 (List.mem_map.2 ⟨x, hx, rfl⟩)
      obtain ⟨j, hj, e⟩ := List.getElem_of_mem h1
      refine ⟨x.data.toList, ?_, by simp⟩
      have := comp_all (ds := zs.toArray) zs.length j hj
      rw [getElem!_pos zs.toArray j (by simpa using hj)] at this
      unfold Lib.compact
      have e2 : zs.toArray[j] = x.data.toList := by simpa using e
      rwa [e2] at this
/-- Where a name stands in the list. -/
theorem idx_name {l : List TurnD} {k : Nat} {c : TurnD} (h : l[k]? = some c) : ∃ p : Nat, Lib.idxOfS (namesL l) c.1 = p ∧ (namesL l)[p]? = some c.1 := by
  have hm : c.1 ∈ namesL l := mem_names.2 (List.mem_map.2 ⟨c, List.mem_of_getElem? h, rfl⟩)
  obtain ⟨p, hp, e⟩ := List.getElem_of_mem hm
  refine ⟨p, ?_, by rw [List.getElem?_eq_getElem hp, e]⟩
  have := Lib.idxFromS_hit c.1 (namesL l) p 0 hp (by rw [List.getD_eq_getElem?_getD, List.getElem?_eq_getElem hp, e]; rfl) (fun j hj hq => by
    have hjl : j < (namesL l).length := by omega
    rw [List.getD_eq_getElem?_getD, List.getElem?_eq_getElem hjl] at hq
    have hq' : (namesL l)[j] = c.1 := hq
    have := (List.getElem?_inj hjl (srt_names l).nodup).1 (show (namesL l)[j]? = (namesL l)[p]? by rw [List.getElem?_eq_getElem hjl, List.getElem?_eq_getElem hp, e, hq'])
    omega)
  rw [Nat.zero_add] at this
  exact this
/-- All that was said. -/
def allSaid (l : List TurnD) : Nat := (l.map fun c => (wordsV c.2).length).sum
theorem sum_zero : ∀ ns : List ByteArray, (ns.map fun s => (saidL [] s : Int)).sum = 0
  | [] => rfl
  | s :: ns => by
    have := sum_zero ns
    simp only [List.map_cons, List.sum_cons, this]
    rfl
theorem says_sum {ns : List ByteArray} (hn : ns.Nodup) : ∀ k (l : List TurnD), k ≤ l.length → (∀ c ∈ l, c.1 ∈ ns) → (saysL ns (l.take k)).sum = (allSaid (l.take k) : Int)
  | 0, l, _, _ => by
    simp only [List.take_zero, saysL, allSaid]
    rw [sum_zero]
    rfl
  | k + 1, l, h, hm => by
    obtain ⟨c, hc⟩ := some_at l (show k < l.length by omega)
    obtain ⟨p, hp, e⟩ := List.getElem_of_mem (hm c (List.mem_of_getElem? hc))
    have hpp : ns[p]? = some c.1 := by rw [List.getElem?_eq_getElem hp, e]
    have ih := says_sum hn k l (by omega) hm
    rw [says_next hc hn hpp]
    have hpl : p < (saysL ns (l.take k)).length := by rw [says_len]; exact hp
    have hold := says_at (l := l.take k) hpp
    have hcut : saysL ns (l.take k) = (saysL ns (l.take k)).take p ++ (saidL (l.take k) c.1 : Int) :: (saysL ns (l.take k)).drop (p + 1) := by
      have := List.getElem?_eq_some_iff.1 hold
      rw [← this.2, ← List.drop_eq_getElem_cons, List.take_append_drop]
    have hset : (saysL ns (l.take k)).set p ((saidL (l.take k) c.1 : Int) + ((wordsV c.2).length : Int)) = (saysL ns (l.take k)).take p ++ ((saidL (l.take k) c.1 : Int) + ((wordsV c.2).length : Int)) :: (saysL ns (l.take k)).drop (p + 1) := List.set_eq_take_append_cons_drop.trans (if_pos hpl)
    rw [hset]
    rw [hcut] at ih
    have e1 : allSaid (l.take (k + 1)) = allSaid (l.take k) + (wordsV c.2).length := by
      unfold allSaid
      rw [List.take_add_one, hc, List.map_append, List.sum_append]
      simp
    rw [e1]
    simp only [List.sum_append, List.sum_cons] at ih ⊢
    omega
theorem says_all (l : List TurnD) : (saysL (namesL l) l).sum = (allSaid l : Int) := by
  have := says_sum (srt_names l).nodup l.length l (Nat.le_refl _) (fun c hc => mem_names.2 (List.mem_map.2 ⟨c, hc, rfl⟩))
  rwa [List.take_length] at this
end Go.Proofs.YthokekgdiebhjaaDoor
