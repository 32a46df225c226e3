/-
  Rows that are read for a long time while rows of another type grow and change: a block of the rows' own type, or one older than the call, is never written. No program is named here.
-/
import Derived.Test.YtekidodfcanjaaaGreatDoorBase
import Derived.Test.YtekidodfcanjaaaGreatDoorDictOwn
namespace Go.Proofs.YtekidodfcanjaaaGreatDoor
open Go.RowKit
set_option linter.unusedVariables false

/-- From w to w' no block older than B and no block of cells of type e has changed. -/
structure Keep (e : TypeId) (B : Nat) (w w' : World) : Prop where
  os : w'.os = w.os
  tape : w'.tape = w.tape
  output : w'.output = w.output
  size : w.heap.size ≤ w'.heap.size
  old : ∀ k : Nat, k < B → w'.heap[k]? = w.heap[k]?
  typed : ∀ (k : Nat) (cur : Array Value), w.heap[k]? = some (Obj.cells cur e (0, 0)) → w'.heap[k]? = some (Obj.cells cur e (0, 0))

section
variable {e : TypeId} {B : Nat} {w w' w2 : World}
theorem Keep.refl (w : World) : Keep e B w w := ⟨rfl, rfl, rfl, Nat.le_refl _, fun _ _ => rfl, fun _ _ h => h⟩
theorem Keep.trans (h : Keep e B w w') (k : Keep e B w' w2) : Keep e B w w2 :=
  ⟨k.os.trans h.os, k.tape.trans h.tape, k.output.trans h.output, Nat.le_trans h.size k.size, fun i hi => (k.old i hi).trans (h.old i hi), fun i c hc => k.typed i c (h.typed i c hc)⟩
theorem Keep.of_below (h : Below w.heap.size w w') (hB : B ≤ w.heap.size) : Keep e B w w' :=
  ⟨h.os, h.tape, h.output, h.size, fun k hk => h.block k (by omega), fun k c hc => (h.block k (Array.getElem?_eq_some_iff.1 hc).1).trans hc⟩
theorem Keep.below (h : Keep e B w w') : Below B w w' := ⟨h.os, h.tape, h.output, h.size, h.old⟩
theorem Keep.alloc (h : Keep e B w w') (hB : B ≤ w.heap.size) (o : Obj) : Keep e B w (w'.alloc o) :=
  h.trans (Keep.of_below ((Below.refl _ _).alloc (Nat.le_refl _) o) (Nat.le_trans hB h.size))
theorem Keep.drew (h : Keep e B w w') : Keep e B w w'.drew := ⟨h.os, h.tape, h.output, h.size, h.old, h.typed⟩
theorem Keep.drewN (h : Keep e B w w') (n : Nat) : Keep e B w (w'.drewN n) := ⟨h.os, h.tape, h.output, h.size, h.old, h.typed⟩
/-- A row of another type, younger than B, has grown. -/
theorem Keep.of_grown {lo n size : Nat} {e2 : TypeId} {v : Value} {xs : List Value} (h : w.ownsRow lo e2 size v n xs) (hg : w.grownBy w' v.ownBlock) (hne : e2 ≠ e) (hB : B ≤ lo) (hBs : B ≤ w.heap.size) : Keep e B w w' := by
  refine ⟨hg.os, hg.tape, hg.output, hg.size, fun k hk => hg.block k (by omega) (fun he => by have := (h.lt k he.symm).1; omega), fun k c hc => ?_⟩
  refine (hg.block k (Array.getElem?_eq_some_iff.1 hc).1 (fun he => ?_)).trans hc
  rcases h.2 with ⟨rfl, _⟩ | ⟨g, cap, cur, rfl, _, hgg, _⟩
  · simp [Value.ownBlock] at he
  · simp only [Value.ownBlock, Option.some.injEq] at he
    subst he
    rw [hgg] at hc
    injection hc with hc
    injection hc with _ h2
    exact hne h2
/-- A cell of a row of another type, younger than B, has been written. -/
theorem Keep.of_set {lo n size g cap : Nat} {e2 : TypeId} {xs : List Value} (h : w.ownsRow lo e2 size (.slice (some ⟨g, 0, none⟩) n cap) n xs) (hne : e2 ≠ e) (hB : B ≤ lo) (j : Nat) (u : Value) : Keep e B w (w.setCell ⟨g, j, none⟩ u) := by
  have hlo := (h.lt g rfl).1
  refine ⟨rfl, rfl, rfl, by simp [World.setCell], fun k hk => Below.heap_setCell _ _ _ _ (fun he => by have he2 : k = g := he; omega), fun k c hc => ?_⟩
  refine (Below.heap_setCell _ _ _ _ (fun he => ?_)).trans hc
  rcases h.2 with ⟨hv, _⟩ | ⟨g', cap', cur, hv, _, hgg, _⟩
  · cases hv
  · injection hv with hv
    injection hv with hv
    injection hv with hv
    have he' : k = g := he
    subst he'
    rw [hv, hgg] at hc
    injection hc with hc
    injection hc with _ h2
    exact hne h2
/-- A cell of a single block of another type has been written. -/
theorem Keep.of_cell {g : Nat} {e2 : TypeId} {cur : Array Value} (h : w.heap[g]? = some (Obj.cells cur e2 (0, 0))) (hne : e2 ≠ e) (hB : B ≤ g) (j : Nat) (u : Value) : Keep e B w (w.setCell ⟨g, j, none⟩ u) := by
  refine ⟨rfl, rfl, rfl, by simp [World.setCell], fun k hk => Below.heap_setCell _ _ _ _ (fun he => by have he2 : k = g := he; omega), fun k c hc => ?_⟩
  refine (Below.heap_setCell _ _ _ _ (fun he => ?_)).trans hc
  have he' : k = g := he
  subst he'
  rw [h] at hc
  injection hc with hc
  injection hc with _ h2
  exact hne h2

/-- The slice at A of n cells reads as xs, out of a block that is never written. -/
def RowT (e : TypeId) (B : Nat) (w : World) (A : Option Addr) (n : Nat) (xs : List Value) : Prop :=
  xs.length = n ∧ (0 < n → ∃ b off, A = some ⟨b, off, none⟩ ∧ (b < B ∨ ∃ cur : Array Value, w.heap[b]? = some (Obj.cells cur e (0, 0))) ∧ ∀ j u, xs[j]? = some u → w.cell? ⟨b, off + j, none⟩ = some u)
variable {A : Option Addr} {n : Nat} {xs : List Value}
theorem RowT.none_ : RowT e B w A 0 [] := ⟨rfl, fun h => absurd h (Nat.lt_irrefl 0)⟩
theorem RowT.keep (h : RowT e B w A n xs) (k : Keep e B w w') : RowT e B w' A n xs := by
  refine ⟨h.1, fun hn => ?_⟩
  obtain ⟨b, off, hA, hb, hc⟩ := h.2 hn
  have hblk : ∃ o, w.heap[b]? = some o ∧ w'.heap[b]? = some o := by
    obtain ⟨u, hu⟩ := (show ∃ u, xs[0]? = some u from ⟨_, List.getElem?_eq_getElem (by rw [h.1]; exact hn)⟩)
    have hlt := World.block_lt_of_cell? w _ (hc 0 u hu)
    refine ⟨w.heap[b]'hlt, Array.getElem?_eq_getElem hlt, ?_⟩
    rcases hb with hb | ⟨cur, hb⟩
    · rw [k.old b hb]; exact Array.getElem?_eq_getElem hlt
    · rw [k.typed b cur hb, ← hb]; exact Array.getElem?_eq_getElem hlt
  obtain ⟨o, h1, h2⟩ := hblk
  refine ⟨b, off, hA, ?_, fun j u hj => ?_⟩
  · rcases hb with hb | ⟨cur, hb⟩
    · exact .inl hb
    · exact .inr ⟨cur, k.typed b cur hb⟩
  · rw [← hc j u hj]
    exact World.cell?_of_block (a := ⟨b, off + j, none⟩) (h2.trans h1.symm)
theorem RowT.of_own {lo c : Nat} (h : w.ownsRow lo e 1 (.slice A n c) n xs) : RowT e B w A n xs := by
  refine ⟨by have := h.1; omega, fun hn => ?_⟩
  rcases h.2 with ⟨_, h0⟩ | ⟨g, cap, cur, hv, _, hg, _⟩
  · omega
  · injection hv with hA _ _
    subst hA
    exact ⟨g, 0, rfl, .inr ⟨cur, hg⟩, fun j u hj => by have := h.cells (g := g) rfl j u hj; rwa [cells_one_add, ← Nat.zero_add j] at this⟩
theorem RowT.of_reads (h : Reads w B 1 A n xs) : RowT e B w A n xs := by
  refine ⟨by have := h.1; omega, fun hn => ?_⟩
  obtain ⟨b, off, hA, hb, hc⟩ := h.2 hn
  exact ⟨b, off, hA, .inl hb, hc⟩
theorem RowT.reads (h : RowT e B w A n xs) : Reads w w.heap.size 1 A n xs := by
  refine ⟨by have := h.1; omega, fun hn => ?_⟩
  obtain ⟨b, off, hA, hb, hc⟩ := h.2 hn
  obtain ⟨u, hu⟩ := (show ∃ u, xs[0]? = some u from ⟨_, List.getElem?_eq_getElem (by rw [h.1]; exact hn)⟩)
  exact ⟨b, off, hA, World.block_lt_of_cell? w _ (hc 0 u hu), hc⟩
/-- A part of it, from k on. -/
theorem RowT.drop (h : RowT e B w A n xs) {k : Nat} {A' : Option Addr} (hk : k ≤ n) (hA' : k < n → ∀ b off, A = some ⟨b, off, none⟩ → A' = some ⟨b, off + k, none⟩) : RowT e B w A' (n - k) (xs.drop k) := by
  refine ⟨by rw [List.length_drop, h.1], fun hn => ?_⟩
  obtain ⟨b, off, hA, hb, hc⟩ := h.2 (by omega)
  refine ⟨b, off + k, hA' (by omega) b off hA, hb, fun j u hj => ?_⟩
  rw [List.getElem?_drop] at hj
  rw [Nat.add_assoc]
  exact hc _ u hj
end
/-! ### Rows of the call's own alone: blocks from lo on -/
/-- No block of cells of type e, from lo on, has changed. -/
def KeepN (e : TypeId) (lo : Nat) (w w' : World) : Prop := ∀ (k : Nat) (cur : Array Value), lo ≤ k → w.heap[k]? = some (Obj.cells cur e (0, 0)) → w'.heap[k]? = some (Obj.cells cur e (0, 0))
/-- The slice at A of n cells reads as xs, out of a block of type e from lo on. -/
def RowN (e : TypeId) (lo : Nat) (w : World) (A : Option Addr) (n : Nat) (xs : List Value) : Prop :=
  xs.length = n ∧ (0 < n → ∃ (b off : Nat) (cur : Array Value), A = some ⟨b, off, none⟩ ∧ lo ≤ b ∧ w.heap[b]? = some (Obj.cells cur e (0, 0)) ∧ ∀ j u, xs[j]? = some u → w.cell? ⟨b, off + j, none⟩ = some u)
section
variable {e : TypeId} {lo : Nat} {w w' w2 : World} {A : Option Addr} {n : Nat} {xs : List Value}
theorem KeepN.refl (w : World) : KeepN e lo w w := fun _ _ _ h => h
theorem KeepN.trans (h : KeepN e lo w w') (k : KeepN e lo w' w2) : KeepN e lo w w2 := fun i c hi hc => k i c hi (h i c hi hc)
theorem KeepN.of_only {lo' hi' : Nat} (h : Only lo' hi' w w') (hd : hi' ≤ lo) : KeepN e lo w w' := fun k c hk hc => (h.block k (Array.getElem?_eq_some_iff.1 hc).1 (.inr (by omega))).trans hc
theorem KeepN.of_below (h : Below w.heap.size w w') : KeepN e lo w w' := fun k c hk hc => (h.block k (Array.getElem?_eq_some_iff.1 hc).1).trans hc
theorem KeepN.alloc (w : World) (o : Obj) : KeepN e lo w (w.alloc o) := KeepN.of_below ((Below.refl _ _).alloc (Nat.le_refl _) o)
theorem KeepN.drewN (w : World) (k : Nat) : KeepN e lo w (w.drewN k) := fun _ _ _ h => h
theorem KeepN.of_grown {lo' n size : Nat} {e2 : TypeId} {v : Value} {xs : List Value} (h : w.ownsRow lo' e2 size v n xs) (hg : w.grownBy w' v.ownBlock) (hne : e2 ≠ e) : KeepN e lo w w' := fun k c hk hc => by
  refine (hg.block k (Array.getElem?_eq_some_iff.1 hc).1 (fun he => ?_)).trans hc
  rcases h.2 with ⟨rfl, _⟩ | ⟨g, cap, cur, rfl, _, hgg, _⟩
  · simp [Value.ownBlock] at he
  · simp only [Value.ownBlock, Option.some.injEq] at he
    subst he
    rw [hgg] at hc
    injection hc with hc
    injection hc with _ h2
    exact hne h2
/-- A cell of a block of another type, or of an older one, is written. -/
theorem KeepN.of_set {p : Addr} (u : Value) (h : p.block < lo ∨ ∃ (e2 : TypeId) (cur : Array Value), e2 ≠ e ∧ w.heap[p.block]? = some (Obj.cells cur e2 (0, 0))) : KeepN e lo w (w.setCell p u) := fun k c hk hc => by
  refine (Below.heap_setCell _ _ _ _ (fun he => ?_)).trans hc
  subst he
  rcases h with h | ⟨e2, cur, h1, h2⟩
  · omega
  · rw [h2] at hc
    injection hc with hc
    injection hc with _ h3
    exact h1 h3
theorem RowN.none_ : RowN e lo w A 0 [] := ⟨rfl, fun h => absurd h (Nat.lt_irrefl 0)⟩
theorem RowN.keep (h : RowN e lo w A n xs) (k : KeepN e lo w w') : RowN e lo w' A n xs := by
  refine ⟨h.1, fun hn => ?_⟩
  obtain ⟨b, off, cur, hA, hb, hh, hc⟩ := h.2 hn
  exact ⟨b, off, cur, hA, hb, k b cur hb hh, fun j u hj => by
    rw [← hc j u hj]
    exact World.cell?_of_block (a := ⟨b, off + j, none⟩) ((k b cur hb hh).trans hh.symm)⟩
theorem RowN.low (h : RowN e lo w A n xs) {lo2 : Nat} (hl : lo2 ≤ lo) : RowN e lo2 w A n xs := by
  refine ⟨h.1, fun hn => ?_⟩
  obtain ⟨b, off, cur, hA, hb, hh, hc⟩ := h.2 hn
  exact ⟨b, off, cur, hA, by omega, hh, hc⟩
theorem RowN.of_own {lo' c : Nat} (h : w.ownsRow lo' e 1 (.slice A n c) n xs) (hl : lo ≤ lo') : RowN e lo w A n xs := by
  refine ⟨by have := h.1; omega, fun hn => ?_⟩
  rcases h.2 with ⟨_, h0⟩ | ⟨g, cap, cur, hv, hg0, hg, _⟩
  · omega
  · injection hv with hA _ _
    subst hA
    exact ⟨g, 0, cur, rfl, by omega, hg, fun j u hj => by have := h.cells (g := g) rfl j u hj; rwa [cells_one_add, ← Nat.zero_add j] at this⟩
theorem RowN.reads (h : RowN e lo w A n xs) : Reads w w.heap.size 1 A n xs := by
  refine ⟨by have := h.1; omega, fun hn => ?_⟩
  obtain ⟨b, off, cur, hA, hb, hh, hc⟩ := h.2 hn
  exact ⟨b, off, hA, (Array.getElem?_eq_some_iff.1 hh).1, hc⟩
end
end Go.Proofs.YtekidodfcanjaaaGreatDoor
namespace Go.Proofs.YtekidodfcanjaaaGreatDoor
open Go.RowKit
set_option linter.unusedVariables false
set_option maxRecDepth 100000

def DictT (w : World) (lo lo2 : Nat) (v : Value) (l : List EntD) : Prop :=
  ∃ us : List Value, us.length = l.length ∧ w.ownsRow lo2 50 2 v l.length (flat2 (headsP us l)) ∧
    ∀ (j : Nat) u c, us[j]? = some u → l[j]? = some c → ∃ (A : Option Addr) (cap : Nat), u = .slice A c.1.length cap ∧ RowN 3 lo w A c.1.length (ints c.1) ∧ c.1.length ≤ cap ∧ cap ≤ maxLen
section
variable {w w' : World} {lo lo2 : Nat} {v : Value} {l : List EntD}
theorem DictT.nil (w : World) (lo lo2 : Nat) : DictT w lo lo2 (.slice none 0 0) [] := ⟨[], rfl, World.ownsRow_nil _ _ _ _, fun j u c h => by simp at h⟩
theorem DictT.slice (h : DictT w lo lo2 v l) : ∃ A cap, v = .slice A l.length cap ∧ DictR w w.heap.size A l ∧ l.length ≤ cap ∧ cap ≤ maxLen := by
  obtain ⟨us, hul, h1, h2⟩ := h
  obtain ⟨A, cap, rfl, hr, hn, hm⟩ := (Own.of_row h1).slice
  refine ⟨A, cap, rfl, fun hp => ?_, hn, hm⟩
  obtain ⟨b, off, hA, hb, hc⟩ := hr.2 hp
  refine ⟨b, off, hA, hb, fun j c hj => ?_⟩
  obtain ⟨u, hu⟩ := some_at us (show j < us.length by rw [hul]; exact (List.getElem?_eq_some_iff.1 hj).1)
  obtain ⟨a, cp, rfl, rd, k1, k2⟩ := h2 j u c hu hj
  obtain ⟨c1, c2⟩ := flat2_reads (B := 0) hc (headsP_at hu hj)
  exact ⟨a, cp, c1, c2, rd.reads, k1, k2⟩
theorem DictT.keep (h : DictT w lo lo2 v l) (hk : KeepN 3 lo w w') (ho : ∀ us, w.ownsRow lo2 50 2 v l.length (flat2 (headsP us l)) → w'.ownsRow lo2 50 2 v l.length (flat2 (headsP us l))) : DictT w' lo lo2 v l := by
  obtain ⟨us, hul, h1, h2⟩ := h
  refine ⟨us, hul, ho us h1, fun j u c hu hc => ?_⟩
  obtain ⟨a, cp, rfl, rd, k1, k2⟩ := h2 j u c hu hc
  exact ⟨a, cp, rfl, rd.keep hk, k1, k2⟩
theorem DictT.only {g : Nat} (h : DictT w lo lo2 v l) (ho : Only g (g + 1) w w') (hg : g < lo) (hg2 : g < lo2) : DictT w' lo lo2 v l :=
  h.keep (KeepN.of_only ho (by omega)) fun us hu => ownsRow_only hu ho (fun g' hg' => by have := (hu.lt g' hg').1; omega)
theorem DictT.below (h : DictT w lo lo2 v l) (hb : Below w.heap.size w w') : DictT w' lo lo2 v l :=
  h.keep (KeepN.of_below hb) fun us hu => ((Own.of_row hu).below hb).1
theorem DictT.low (h : DictT w lo lo2 v l) {lo' lo2' : Nat} (hl : lo' ≤ lo) (hl2 : lo2' ≤ lo2) : DictT w lo' lo2' v l := by
  obtain ⟨us, hul, h1, h2⟩ := h
  refine ⟨us, hul, h1.base hl2, fun j u c hu hc => ?_⟩
  obtain ⟨a, cp, rfl, rd, k1, k2⟩ := h2 j u c hu hc
  exact ⟨a, cp, rfl, rd.low hl, k1, k2⟩
/-- An entry put behind the others. -/
theorem DictT.put {us : List Value} {v2 : Value} {A : Option Addr} {cap : Nat} {c : EntD} (hul : us.length = l.length) (own : w.ownsRow lo2 50 2 v l.length (flat2 (headsP us l)))
    (rows : ∀ (j : Nat) u c, us[j]? = some u → l[j]? = some c → ∃ (A : Option Addr) (cap : Nat), u = .slice A c.1.length cap ∧ RowN 3 lo w A c.1.length (ints c.1) ∧ c.1.length ≤ cap ∧ cap ≤ maxLen)
    (row : RowN 3 lo w A c.1.length (ints c.1)) (hc : c.1.length ≤ cap) (hm : cap ≤ maxLen)
    (own2 : w'.ownsRow lo2 50 2 v2 (l.length + 1) (flat2 (headsP us l) ++ [.slice A c.1.length cap, .string c.2])) (gr : w.grownBy w' v.ownBlock) : DictT w' lo lo2 v2 (l ++ [c]) := by
  have hk : KeepN 3 lo w w' := KeepN.of_grown own gr (by decide)
  refine ⟨us ++ [.slice A c.1.length cap], by simp [hul], ?_, fun j u d hu hd => ?_⟩
  · rw [headsP_snoc hul, flat2_snoc, List.length_append]
    exact own2
  · rcases Nat.lt_trichotomy j l.length with h | h | h
    · rw [List.getElem?_append_left (by omega)] at hu hd
      obtain ⟨a, cp, rfl, rd, k1, k2⟩ := rows j u d hu hd
      exact ⟨a, cp, rfl, rd.keep hk, k1, k2⟩
    · subst h
      rw [List.getElem?_append_right (by omega), hul] at hu
      rw [List.getElem?_append_right (by omega)] at hd
      simp only [Nat.sub_self, List.getElem?_cons_zero, Option.some.injEq] at hu hd
      subst hu hd
      exact ⟨A, cap, rfl, row.keep hk, hc, hm⟩
    · have := (List.getElem?_eq_some_iff.1 hd).1
      simp at this
      omega
/-- The first entry's text is another. -/
theorem DictT.text0 {c : EntD} {cs : List EntD} (h : DictT w lo lo2 v (c :: cs)) (t : ByteArray) : ∃ g cap, v = .slice (some ⟨g, 0, none⟩) (cs.length + 1) cap ∧ w.frozen? ⟨g, 1, none⟩ = false ∧ lo2 ≤ g ∧ g < w.heap.size ∧ cs.length + 1 ≤ cap ∧ (∃ u, w.cell? ⟨g, 1, none⟩ = some u) ∧ DictT (w.setCell ⟨g, 1, none⟩ (.string t)) lo lo2 v ((c.1, t) :: cs) := by
  obtain ⟨us, hul, h1, h2⟩ := h
  obtain ⟨g, cap, rfl, hlo, hlt, -, hc, -, hcell, hfr⟩ := (Own.of_row h1).open_ (by simp)
  obtain ⟨u0, us', rfl⟩ : ∃ u0 us', us = u0 :: us' := by cases us with | nil => simp at hul | cons a b => exact ⟨a, b, rfl⟩
  have hx := hcell 1 (by simp; omega)
  refine ⟨g, cap, rfl, hfr 1, hlo, hlt, by simpa using hc, ⟨_, by first | (rw [hx]; done) | (rw [hx]; rfl)⟩, u0 :: us', by simpa using hul, ?_, fun j u d hu hd => ?_⟩
  · have h3 := ((Own.of_row h1).set_ 1 (.string t)).1
    exact h3
  · have hk : KeepN 3 lo w (w.setCell ⟨g, 1, none⟩ (.string t)) := by
      rcases h1.2 with ⟨h, _⟩ | ⟨g', cap', cur, hv, _, hg, _⟩
      · cases h
      · injection hv with hv _ _
        injection hv with hv
        injection hv with hv _ _
        subst hv
        exact KeepN.of_set _ (.inr ⟨50, cur, by decide, hg⟩)
    cases j with
    | zero =>
      simp only [List.getElem?_cons_zero, Option.some.injEq] at hu hd
      subst hu hd
      obtain ⟨a, cp, rfl, rd, k1, k2⟩ := h2 0 u0 c (by simp) (by simp)
      exact ⟨a, cp, rfl, rd.keep hk, k1, k2⟩
    | succ j =>
      simp only [List.getElem?_cons_succ] at hu hd
      obtain ⟨a, cp, rfl, rd, k1, k2⟩ := h2 (j + 1) u d (by simpa using hu) (by simpa using hd)
      exact ⟨a, cp, rfl, rd.keep hk, k1, k2⟩
/-- The first entry's outline is another. -/
theorem DictT.out0 {c : EntD} {cs : List EntD} (h : DictT w lo lo2 v (c :: cs)) {A : Option Addr} {k : Nat} {o : List Int} (row : RowN 3 lo w A o.length (ints o)) (hk1 : o.length ≤ k) (hk2 : k ≤ maxLen) : ∃ g cap, v = .slice (some ⟨g, 0, none⟩) (cs.length + 1) cap ∧ w.frozen? ⟨g, 0, none⟩ = false ∧ lo2 ≤ g ∧ g < w.heap.size ∧ cs.length + 1 ≤ cap ∧ (∃ u, w.cell? ⟨g, 0, none⟩ = some u) ∧ DictT (w.setCell ⟨g, 0, none⟩ (.slice A o.length k)) lo lo2 v ((o, c.2) :: cs) := by
  obtain ⟨us, hul, h1, h2⟩ := h
  obtain ⟨g, cap, rfl, hlo, hlt, -, hc, -, hcell, hfr⟩ := (Own.of_row h1).open_ (by simp)
  obtain ⟨u0, us', rfl⟩ : ∃ u0 us', us = u0 :: us' := by cases us with | nil => simp at hul | cons a b => exact ⟨a, b, rfl⟩
  have hx := hcell 0 (by simp)
  refine ⟨g, cap, rfl, hfr 0, hlo, hlt, by simpa using hc, ⟨_, by first | (rw [hx]; done) | (rw [hx]; rfl)⟩, .slice A o.length k :: us', by simpa using hul, ?_, fun j u d hu hd => ?_⟩
  · have h3 := ((Own.of_row h1).set_ 0 (.slice A o.length k)).1
    exact h3
  · have hk : KeepN 3 lo w (w.setCell ⟨g, 0, none⟩ (.slice A o.length k)) := by
      rcases h1.2 with ⟨h, _⟩ | ⟨g', cap', cur, hv, _, hg, _⟩
      · cases h
      · injection hv with hv _ _
        injection hv with hv
        injection hv with hv _ _
        subst hv
        exact KeepN.of_set _ (.inr ⟨50, cur, by decide, hg⟩)
    cases j with
    | zero =>
      simp only [List.getElem?_cons_zero, Option.some.injEq] at hu hd
      subst hu hd
      exact ⟨A, k, rfl, row.keep hk, hk1, hk2⟩
    | succ j =>
      simp only [List.getElem?_cons_succ] at hu hd
      obtain ⟨a, cp, rfl, rd, k1, k2⟩ := h2 (j + 1) u d (by simpa using hu) (by simpa using hd)
      exact ⟨a, cp, rfl, rd.keep hk, k1, k2⟩
end
end Go.Proofs.YtekidodfcanjaaaGreatDoor
