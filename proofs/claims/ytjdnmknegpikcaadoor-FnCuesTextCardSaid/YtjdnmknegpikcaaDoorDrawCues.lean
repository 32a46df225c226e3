/-
  The reference's draw of a track: some track of few cues with small numbers.
-/
import Derived.Test.YtjdnmknegpikcaaDoorCur
import Derived.Test.YtjdnmknegpikcaaDoorValid
import Derived.Deep.RegionHeld3
namespace Go.Proofs.YtjdnmknegpikcaaDoor
open Go.RowKit
set_option linter.unusedVariables false

/-- Small numbers, short texts. -/
def Tame (B : Int) (l : List CueD) : Prop := ∀ c ∈ l, (-B ≤ c.1 ∧ c.1 ≤ B) ∧ (-B ≤ c.2.1 ∧ c.2.1 ≤ B) ∧ c.2.2.size ≤ 100
theorem Tame.snoc {B B' : Int} {l : List CueD} {c : CueD} (h : Tame B l) (hB : B ≤ B') (h1 : -B' ≤ c.1 ∧ c.1 ≤ B') (h2 : -B' ≤ c.2.1 ∧ c.2.1 ≤ B') (h3 : c.2.2.size ≤ 100) : Tame B' (l ++ [c]) := by
  intro d hd
  rw [List.mem_append] at hd
  rcases hd with hd | hd
  · obtain ⟨a, b, e⟩ := h d hd
    exact ⟨by omega, by omega, e⟩
  · simp at hd
    subst hd
    exact ⟨h1, h2, h3⟩
theorem Tame.more {B B' : Int} {l : List CueD} (h : Tame B l) (hB : B ≤ B') : Tame B' l := fun d hd => by
  obtain ⟨a, b, e⟩ := h d hd
  exact ⟨by omega, by omega, e⟩
theorem Tame.set {B : Int} {l : List CueD} {k : Nat} {c : CueD} (h : Tame B l) (h1 : -B ≤ c.1 ∧ c.1 ≤ B) (h2 : -B ≤ c.2.1 ∧ c.2.1 ≤ B) (h3 : c.2.2.size ≤ 100) : Tame B (l.set k c) := by
  intro d hd
  rcases List.mem_or_eq_of_mem_set hd with hd | rfl
  · exact h d hd
  · exact ⟨h1, h2, h3⟩

def sliceLen : Value → Nat
  | .slice _ n _ => n
  | _ => 0
/-- What the draw of a track gives. -/
def DrewCues (g m : Nat) (w : World) (e : Ending) (w' : World) : Prop := ∃ (v : Value) (l : List CueD), e = .returned v ∧ Own w' w.heap.size w'.heap.size 59 3 v l.length (cuesV l) ∧ l.length ≤ 40 ∧ Tame 1000000000 l ∧ Cur w' g (m + 200) ∧ Only g (g + 1) w w'

def txt4 : List ByteArray := [⟨#[104, 101, 108, 108, 111]⟩, ⟨#[116, 104, 101, 32, 113, 117, 105, 99, 107, 32, 98, 114, 111, 119, 110, 32, 102, 111, 120, 32, 106, 117, 109, 112, 115]⟩, ⟨#[97]⟩, ⟨#[119, 101, 108, 108, 44, 32, 121, 101, 115]⟩]
def txt3 : List ByteArray := [⟨#[]⟩, ⟨#[10]⟩, ⟨#[120, 127]⟩]
def amg3 : List Int := [-1, 99999998, 100000000]
theorem amg3_size : ∀ t ∈ amg3, -1 ≤ t ∧ t ≤ 100000000 := by decide
def amg3' : List Int := [0, -1, 99999999]
theorem amg3'_size : ∀ t ∈ amg3', -1 ≤ t ∧ t ≤ 100000000 := by decide
/-- The cells of a new block. -/
theorem new_at {w : World} {xs : List Value} {e : TypeId} {j : Nat} {u : Value} (h : xs[j]? = some u) : (w.alloc (.cells xs.toArray e)).cell? ⟨w.heap.size, j, none⟩ = some u := by
  rw [World.cell?_alloc_at (hn := rfl)]
  simpa using h
theorem txt4_size : ∀ t ∈ txt4, t.size ≤ 100 := by
  intro t ht
  simp only [txt4, List.mem_cons, List.not_mem_nil, or_false] at ht
  rcases ht with rfl | rfl | rfl | rfl <;> decide
theorem txt3_size : ∀ t ∈ txt3, t.size ≤ 100 := by
  intro t ht
  simp only [txt3, List.mem_cons, List.not_mem_nil, or_false] at ht
  rcases ht with rfl | rfl | rfl <;> decide

theorem set_self {α : Type} {xs : List α} {j : Nat} {u : α} (h : xs[j]? = some u) : xs.set j u = xs := by
  apply List.ext_getElem?
  intro k
  rw [List.getElem?_set]
  by_cases hk : j = k
  · subst hk
    have hj := (List.getElem?_eq_some_iff.1 h).1
    rw [if_pos rfl, if_pos hj, h]
  · rw [if_neg hk]
theorem cuesV_set2 {l : List CueD} {k : Nat} {s e : Int} {t t' : ByteArray} (h : l[k]? = some (s, e, t)) : (cuesV l).set (k * 3 + 2) (.string t') = cuesV (l.set k (s, e, t')) := by
  obtain ⟨h0, h1, h2⟩ := cuesV_at h
  rw [← cuesV_set (List.getElem?_eq_some_iff.1 h).1]
  simp only at h0 h1 ⊢
  rw [set_self h0, set_self h1]
theorem cuesV_set1 {l : List CueD} {k : Nat} {s e e' : Int} {t : ByteArray} (h : l[k]? = some (s, e, t)) : (cuesV l).set (k * 3 + 1) (.int .i64 e') = cuesV (l.set k (s, e', t)) := by
  obtain ⟨h0, h1, h2⟩ := cuesV_at h
  rw [← cuesV_set (List.getElem?_eq_some_iff.1 h).1]
  simp only at h0 h2 ⊢
  rw [set_self h0, set_self (xs := (cuesV l).set (k * 3 + 1) (.int .i64 e')) (by rw [List.getElem?_set_ne (by omega)]; exact h2)]
theorem cuesV_set0 {l : List CueD} {k : Nat} {s e s' : Int} {t : ByteArray} (h : l[k]? = some (s, e, t)) : (cuesV l).set (k * 3) (.int .i64 s') = cuesV (l.set k (s', e, t)) := by
  obtain ⟨h0, h1, h2⟩ := cuesV_at h
  rw [← cuesV_set (List.getElem?_eq_some_iff.1 h).1]
  simp only at h1 h2 ⊢
  rw [set_self (xs := (cuesV l).set (k * 3) (.int .i64 s')) (by rw [List.getElem?_set_ne (by omega)]; exact h1), set_self (xs := (cuesV l).set (k * 3) (.int .i64 s')) (by rw [List.getElem?_set_ne (by omega)]; exact h2)]
theorem Only.then_below {lo hi B : Nat} {a b c : World} (h : Only lo hi a b) (k : Below B b c) (hB : a.heap.size ≤ B) : Only lo hi a c :=
  ⟨k.os.trans h.os, k.tape.trans h.tape, k.output.trans h.output, Nat.le_trans h.size k.size, fun i hi h' => (k.block i (by omega)).trans (h.block i hi h')⟩

theorem heldo_drew {go p q g : Nat} {w W : World} {a b : Value} (h : W.cell? ⟨go, p, none⟩ = some a ∧ W.cell? ⟨go, q, none⟩ = some b ∧ W.frozen? ⟨go, q, none⟩ = false ∧ Only g (g + 1) w W) : W.drew.cell? ⟨go, p, none⟩ = some a ∧ W.drew.cell? ⟨go, q, none⟩ = some b ∧ W.drew.frozen? ⟨go, q, none⟩ = false ∧ Only g (g + 1) w W.drew :=
  ⟨h.1, h.2.1, h.2.2.1, h.2.2.2.drew⟩
theorem heldo_alloc {go p q g : Nat} {w W : World} {a b : Value} (h : W.cell? ⟨go, p, none⟩ = some a ∧ W.cell? ⟨go, q, none⟩ = some b ∧ W.frozen? ⟨go, q, none⟩ = false ∧ Only g (g + 1) w W) (c : Array Value) (ty : TypeId) : (W.alloc (.cells c ty)).cell? ⟨go, p, none⟩ = some a ∧ (W.alloc (.cells c ty)).cell? ⟨go, q, none⟩ = some b ∧ (W.alloc (.cells c ty)).frozen? ⟨go, q, none⟩ = false ∧ Only g (g + 1) w (W.alloc (.cells c ty)) := by
  have hg : go < W.heap.size := World.block_lt_of_cell? W _ h.1
  exact ⟨(World.cell?_alloc_past _ _ _ hg).trans h.1, (World.cell?_alloc_past _ _ _ hg).trans h.2.1, (World.frozen?_alloc_past _ _ _ hg).trans h.2.2.1, h.2.2.2.trans (Only.of_below ((Below.refl _ _).alloc (Nat.le_refl _) _))⟩
theorem heldo_only {go p q g : Nat} {w W w1 : World} {a b : Value} (h : W.cell? ⟨go, p, none⟩ = some a ∧ W.cell? ⟨go, q, none⟩ = some b ∧ W.frozen? ⟨go, q, none⟩ = false ∧ Only g (g + 1) w W) (hne : go ≠ g) (ho : Only g (g + 1) W w1) : w1.cell? ⟨go, p, none⟩ = some a ∧ w1.cell? ⟨go, q, none⟩ = some b ∧ w1.frozen? ⟨go, q, none⟩ = false ∧ Only g (g + 1) w w1 := by
  have hg : go < W.heap.size := World.block_lt_of_cell? W _ h.1
  have hb := ho.block go hg (by omega)
  exact ⟨(World.cell?_of_block hb).trans h.1, (World.cell?_of_block hb).trans h.2.1, (World.frozen?_of_block hb).trans h.2.2.1, h.2.2.2.trans ho⟩

set_option maxRecDepth 8000 in
set_option maxHeartbeats 4000000 in
theorem drawCues_calls (g m : Nat) (w : World) (h : Cur w g m) (hm : m ≤ 1000000) :
    Calls Tryd.prog 27 #[.pointer (some ⟨g, 0, none⟩)] w (DrewCues g m w) := by
  have hgs : g < w.heap.size := h.1
  go_enter Tryd.func27, Tryd.ntmps27
  go_wp2_with fail
  refine (pick_calls g m 5 _ (h.alloc _) (by omega) (by omega) (by omega)).mono ?_
  rintro e w1 ⟨x1, rfl, hx1, hc1, ho1⟩
  have hx1' : x1 < 5 := by omega
  have hr0 : (w.alloc (.cells #[] 59)).ownsRow w.heap.size 59 3 (.slice (some ⟨w.heap.size, 0, none⟩) 0 0) 0 (cuesV []) := World.ownsRow_made _ _ _ (Nat.le_refl _) (by simp) rfl
  have hr1 := ownsRow_only hr0 ho1 (fun g' hg' => by have := (hr0.lt g' hg').1; omega)
  have HO1 := Lib.hid ((Only.of_below ((Below.refl _ w).alloc (Nat.le_refl _) (.cells #[] 59))).trans ho1)
  have HC := Lib.hid hc1
  clear hc1 ho1 h hr0
  go_wp2_with fail
  refine (pick_calls g (m + 2) 5 _ HC.out (by omega) (by omega) (by omega)).mono ?_
  rintro e w2 ⟨x2, rfl, hx2, hc2, ho2⟩
  have hx2' : x2 < 5 := by omega
  have hr2 := ownsRow_only hr1 ho2 (fun g' hg' => by have := (hr1.lt g' hg').1; omega)
  have HO2 := Lib.hid (HO1.out.trans ho2)
  have HC2 := Lib.hid hc2
  clear hc2 ho2 hr1
  have hgw : g + 1 ≤ w.heap.size := by omega
  go_wp2
  go_loopw [3, 4, 5] (fun v av kv wr => ∃ (k a : Nat) (l : List CueD), k + l.length ≤ 4 ∧ kv = .int .i64 k ∧ av = .int .i64 a ∧ a ≤ 2000 + l.length * 4000 ∧ wr.ownsRow w.heap.size 59 3 v l.length (cuesV l) ∧ Tame 20000 l ∧ Cur wr g (m + 4 + 6 * l.length) ∧ Only g (g + 1) w wr) (fun _ _ k _ => (intOf k).toNat)
  case atStart => exact ⟨x2, x1 * 500, [], by simp; omega, rfl, by push_cast; rfl, by simp; omega, hr2, fun c hc => by (simp at hc), HC2.out, HO2.out⟩
  case round =>
    obtain ⟨k, a, l, hkl, rfl, rfl, ha, hown, htame, hcur, hon⟩ := hrel
    have HT := Lib.hid htame
    have HK := Lib.hid hcur
    have HN := Lib.hid hon
    clear htame hcur hon
    rcases k with _ | k
    · go_wp2_with fail
      refine (one_calls g (m + 4 + 6 * l.length) 12 _ HK.out (by omega) (by omega) (by omega)).mono ?_
      rintro e w3 ⟨b1, rfl, hc3, ho3⟩
      have own3 := ownsRow_only hown ho3 (fun g' hg' => by have := (hown.lt g' hg').1; omega)
      have HO3 := Lib.hid (HN.out.trans ho3)
      have HC3 := Lib.hid hc3
      clear hc3 ho3 hown
      by_cases hgo : b1 = true ∧ 0 < l.length
      · obtain ⟨rfl, hl0⟩ := hgo
        have hl4 : l.length ≤ 4 := by omega
        clear hkl
        obtain ⟨go, co, rfl, hg1, hg2, hg3, -, -, -, -⟩ := (Own.of_row own3).open_ hl0
        go_wp2_with fail
        refine (pick_calls g (m + 4 + 6 * l.length + 2) l.length _ HC3.out (by omega) (by omega) (by omega)).mono ?_
        rintro e w4 ⟨i, rfl, hi, hc4, ho4⟩
        have hil : i < l.length := by omega
        have own4 := ownsRow_only own3 ho4 (fun g' hg' => by have := (own3.lt g' hg').1; omega)
        have HO4 := Lib.hid (HO3.out.trans ho4)
        have HC4 := Lib.hid hc4
        clear hc4 ho4 own3
        go_wp2_with fail
        refine (pick_calls g (m + 4 + 6 * l.length + 4) 4 _ HC4.out (by omega) (by omega) (by omega)).mono ?_
        rintro e w5 ⟨x, rfl, hx, hc5, ho5⟩
        have own5 := ownsRow_only own4 ho5 (fun g' hg' => by have := (own4.lt g' hg').1; omega)
        have HO5 := Lib.hid (HO4.out.trans ho5)
        have HC5 := Lib.hid hc5
        clear hc5 ho5 own4
        have hs5 := HO5.out.size
        obtain ⟨⟨s, e, t⟩, hix⟩ := some_at l hil
        obtain ⟨q0, q1, q2⟩ := HT.out _ (List.mem_of_getElem? hix)
        simp only at q0 q1 q2
        have HIX := Lib.hid hix
        clear hix
        have i0 : (0 : Int) ≤ (i : Int) := by omega
        have i1 : (i : Int) < (l.length : Int) := by omega
        rcases x with _ | _ | _ | _ | x
        · obtain ⟨c1, c2, c3⟩ := (Own.of_row own5).cue HIX.out
          simp only at c1 c2 c3
          have f1 := own5.frozenAt (i * 3 + 1)
          have hgg : go ≠ g := by omega
          have S0 : w5.cell? ⟨go, i * 3, none⟩ = some (.int .i64 s) ∧ w5.cell? ⟨go, i * 3 + 1, none⟩ = some (.int .i64 e) ∧ w5.frozen? ⟨go, i * 3 + 1, none⟩ = false ∧ Only g (g + 1) w5 w5 := ⟨c1, c2, f1, Only.refl _⟩
          have HOW5 := Lib.hid own5
          clear own5
          go_wp2
          go_region_held3 (fun w' => w'.cell? ⟨go, i * 3, none⟩ = some (.int .i64 s)) (first | exact S0.1 | exact (heldo_alloc S0 _ _).1 | exact k6a | exact (World.cell?_setCell_other _ _ _ _ (by simp)).trans k6a | assumption) (first | (go_at_call 28; refine (among_calls g (m + 4 + 6 * l.length + 6) w5.heap.size 3 3 amg3' _ ((HC5.out.alloc _).drew) (by omega) (by decide) (by decide) (by decide) (by have := HC5.out.1; omega) (by show w5.heap.size < (w5.alloc _).heap.size; simp) (fun j t ht => new_at (w := w5) (xs := amg3'.map (Value.int .i64)) (by simp [ht]))).mono ?_; rintro e6 w6 ⟨t', rfl, ht, hc6, ho6⟩; have hb6 := heldo_only (heldo_drew (heldo_alloc S0 _ _)) hgg ho6; have HC6 := Lib.hid hc6; obtain ⟨k6a, k6b, k6c, k6d⟩ := hb6; have HD6 := Lib.hid k6d; clear k6d; have htb := amg3'_size t' ht; clear hc6 ho6 ht; have hsum : IntKind.i64.wrap (s + t') = s + t' := IntWalk.i64_in _ (by omega)))
          have own6 := ownsRow_only HOW5.out HD6.out (fun g' hg' => by have := (HOW5.out.lt g' hg').1; omega)
          have HO6 := Lib.hid (HO5.out.trans HD6.out)
          have hown7 := (Own.of_row own6).set_ (i * 3 + 1) (.int .i64 (s + t'))
          rw [cuesV_set1 HIX.out] at hown7
          have HO7 := Lib.hid (HO6.out.then_below (((Below.refl w.heap.size w6)).setCell (p := ⟨go, i * 3 + 1, none⟩) hg1 (.int .i64 (s + t'))) (Nat.le_refl _))
          have HC7 := Lib.hid (HC6.out.below (((Below.refl (g + 1) w6)).setCell (p := ⟨go, i * 3 + 1, none⟩) (by simp only; omega) (.int .i64 (s + t'))))
          have HF7 := Lib.hid hown7
          clear hown7 own6 S0 k6a k6b k6c c1 c2 c3 f1 hsum
          go_wp2
          refine bodyPost_ret (v := .slice (some ⟨go, 0, none⟩) l.length co) (by simp [results, go_sem]) rfl ?_
          exact ⟨_, l.set i (s, s + t', t), rfl, by rw [List.length_set]; exact Own.of_row HF7.out.1, by simp; omega, (HT.out.more (B' := 1000000000) (by omega)).set (c := (s, s + t', t)) ⟨by simp only; omega, by simp only; omega⟩ ⟨by simp only; omega, by simp only; omega⟩ q2, HC7.out.more (by omega), HO7.out⟩
        · go_wp2_with fail
          refine (of_calls g (m + 4 + 6 * l.length + 6) w5.heap.size 3 txt3 _ (HC5.out.alloc _) (by omega) (by decide) (by decide) (by have := HC5.out.1; omega) (by simp) (fun j t ht => new_at (xs := txt3.map Value.string) (by simp [ht]))).mono ?_
          rintro e6 w6 ⟨t', rfl, ht, hc6, ho6⟩
          have own6 := ownsRow_only (own5.alloc _) ho6 (fun g' hg' => by have := (own5.lt g' hg').1; omega)
          have HO6 := Lib.hid (HO5.out.trans ((Only.of_below ((Below.refl _ _).alloc (Nat.le_refl _) _)).trans ho6))
          have HC6 := Lib.hid hc6
          have HTT := Lib.hid (txt3_size t' ht)
          clear hc6 ho6 ht own5
          obtain ⟨c1, c2, c3⟩ := (Own.of_row own6).cue HIX.out
          have f1 := own6.frozenAt (i * 3 + 2)
          go_wp2
          have hown7 := (Own.of_row own6).set_ (i * 3 + 2) (.string t')
          rw [cuesV_set2 HIX.out] at hown7
          have HO7 := Lib.hid (HO6.out.then_below (((Below.refl w.heap.size w6)).setCell (p := ⟨go, i * 3 + 2, none⟩) hg1 (.string t')) (Nat.le_refl _))
          have HC7 := Lib.hid (HC6.out.below (((Below.refl (g + 1) w6)).setCell (p := ⟨go, i * 3 + 2, none⟩) (by simp only; omega) (.string t')))
          refine bodyPost_ret (v := .slice (some ⟨go, 0, none⟩) l.length co) (by simp [results, go_sem]) rfl ?_
          exact ⟨_, l.set i (s, e, t'), rfl, by rw [List.length_set]; exact Own.of_row hown7.1, by simp; omega, (HT.out.set ⟨by simp only; omega, by simp only; omega⟩ ⟨by simp only; omega, by simp only; omega⟩ HTT.out).more (by omega), HC7.out.more (by omega), HO7.out⟩
        · go_wp2_with fail
          refine (among_calls g (m + 4 + 6 * l.length + 6) w5.heap.size 3 3 amg3 _ (HC5.out.alloc _) (by omega) (by decide) (by decide) (by decide) (by have := HC5.out.1; omega) (by simp) (fun j t ht => new_at (xs := amg3.map (Value.int .i64)) (by simp [ht]))).mono ?_
          rintro e6 w6 ⟨t', rfl, ht, hc6, ho6⟩
          have own6 := ownsRow_only (own5.alloc _) ho6 (fun g' hg' => by have := (own5.lt g' hg').1; omega)
          have HO6 := Lib.hid (HO5.out.trans ((Only.of_below ((Below.refl _ _).alloc (Nat.le_refl _) _)).trans ho6))
          have HC6 := Lib.hid hc6
          obtain ⟨tb0, tb1⟩ := amg3_size t' ht
          clear hc6 ho6 ht own5
          obtain ⟨c1, c2, c3⟩ := (Own.of_row own6).cue HIX.out
          have f0 := own6.frozenAt (i * 3)
          have f1 := own6.frozenAt (i * 3 + 1)
          go_wp2
          have hown7 := ((Own.of_row own6).set_ (i * 3) (.int .i64 t'))
          rw [cuesV_set0 HIX.out] at hown7
          have hown8 := hown7.set_ (i * 3 + 1) (.int .i64 (t' + 1))
          rw [cuesV_set1 (s := t') (e := e) (t := t) (by rw [List.getElem?_set_self hil])] at hown8
          have HO7 := Lib.hid (HO6.out.then_below (((Below.refl w.heap.size w6)).setCell (p := ⟨go, i * 3, none⟩) hg1 (.int .i64 t')) (Nat.le_refl _))
          have HO8 := Lib.hid (HO7.out.then_below (((Below.refl w.heap.size _)).setCell (p := ⟨go, i * 3 + 1, none⟩) hg1 (.int .i64 (t' + 1))) (Nat.le_refl _))
          have HC7 := Lib.hid (HC6.out.below (((Below.refl (g + 1) w6)).setCell (p := ⟨go, i * 3, none⟩) (by simp only; omega) (.int .i64 t')))
          have HC8 := Lib.hid (HC7.out.below (((Below.refl (g + 1) _)).setCell (p := ⟨go, i * 3 + 1, none⟩) (by simp only; omega) (.int .i64 (t' + 1))))
          refine bodyPost_ret (v := .slice (some ⟨go, 0, none⟩) l.length co) (by simp [results, go_sem]) rfl ?_
          exact ⟨_, _, rfl, by rw [List.length_set, List.length_set]; exact Own.of_row hown8.1, by simp; omega, ((HT.out.more (B' := 1000000000) (by omega)).set (c := (t', e, t)) ⟨by simp only; omega, by simp only; omega⟩ ⟨by simp only; omega, by simp only; omega⟩ q2).set ⟨by simp only; omega, by simp only; omega⟩ ⟨by simp only; omega, by simp only; omega⟩ q2, HC8.out.more (by omega), HO8.out⟩
        · have hl1 : 1 ≤ l.length := by omega
          go_wp2
          go_loopw [3] (fun v wr => ∃ (l' : List CueD), 1 ≤ l'.length ∧ l'.length ≤ 31 ∧ wr.ownsRow w.heap.size 59 3 v l'.length (cuesV l') ∧ Tame (20000 + 5 * l'.length) l' ∧ Cur wr g (m + 50 + 2 * l'.length) ∧ Only g (g + 1) w wr) (fun v _ => 40 - sliceLen v)
          case atStart => exact ⟨l, hl1, by omega, own5, HT.out.more (by omega), HC5.out.more (by omega), HO5.out⟩
          case round =>
            obtain ⟨l', hl1', hl2', hown', htame', hcur', hon'⟩ := hrel
            have HT' := Lib.hid htame'
            have HK' := Lib.hid hcur'
            have HN' := Lib.hid hon'
            clear htame' hcur' hon'
            have hs' := HN'.out.size
            rcases List.eq_nil_or_concat l' with hM | ⟨I, d, hM⟩
            · subst hM; simp at hl1'
            rw [List.concat_eq_append] at hM
            subst hM
            obtain ⟨ds, de, dt⟩ := d
            obtain ⟨n, hin⟩ : ∃ n, I.length = n := ⟨_, rfl⟩
            have HIN := Lib.hid hin
            rw [show (I ++ [(ds, de, dt)]).length = n + 1 by simp [hin]] at hown' hl1' hl2' HT' HK'
            obtain ⟨z1, z2, z3⟩ := HT'.out (ds, de, dt) (by simp)
            simp only at z1 z2 z3
            clear hin
            obtain ⟨go', co', rfl, hg1', hg2', hg3', -, -, -, -⟩ := (Own.of_row hown').open_ (by omega)
            go_wp2_with fail
            refine (pick_calls g (m + 50 + 2 * (n + 1)) 2 _ HK'.out (by omega) (by omega) (by omega)).mono ?_
            rintro e w6 ⟨y, rfl, hy, hc6, ho6⟩
            have hy' : y < 2 := by omega
            have own6 := ownsRow_only hown' ho6 (fun g' hg' => by have := (hown'.lt g' hg').1; omega)
            have HO6 := Lib.hid (HN'.out.trans ho6)
            have HC6 := Lib.hid hc6
            clear hc6 ho6 hown'
            have hs6 := HO6.out.size
            obtain ⟨c1, c2, c3⟩ := (Own.of_row own6).cue (k := n) (c := (ds, de, dt)) (by rw [← HIN.out]; simp)
            simp only at c1 c2 c3
            have j0 : (0 : Int) ≤ (n : Int) := by omega
            by_cases hlt : ((n + 1 : Nat) : Int) < 30 + (y : Int)
            · go_wp2_with (at_builtin; refine wpList_append_three own6 (by exact hs6) (.tmp 110) (.tmp 115) 27 Tryd.underlying27 info_cue (by omega) (by unfold maxLen; omega) ⟨rfl, rfl, rfl, rfl, rfl, rfl, rfl, rfl⟩ (by simp) ?_; intro vv ww own7 hb7 _)
              have HO7 := Lib.hid (HO6.out.then_below hb7 (Nat.le_refl _))
              have HC7 := Lib.hid (HC6.out.below (hb7.mono hgw))
              obtain ⟨A7, c7, rfl, -, -, -⟩ := (Own.of_row own7).slice
              go_roundw
              case rel => exact ⟨I ++ [(ds, de, dt)] ++ [(de, de + 5, ⟨#[120]⟩)], by simp, by have := HIN.out; simp; omega, by rw [show (I ++ [(ds, de, dt)] ++ [(de, de + 5, (⟨#[120]⟩ : ByteArray))]).length = n + 1 + 1 by have := HIN.out; simp; omega, cuesV_append]; exact own7, HT'.out.snoc (by have := HIN.out; simp; omega) (by have := HIN.out; simp; omega) (by have := HIN.out; simp; omega) (show (⟨#[120]⟩ : ByteArray).size ≤ 100 by decide), HC7.out.more (by have := HIN.out; simp; omega), HO7.out⟩
              case measure => simp [sliceLen]; try omega
            · go_wp2
              go_ret
              exact ⟨_, I ++ [(ds, de, dt)], rfl, by rw [show (I ++ [(ds, de, dt)]).length = n + 1 by simp [HIN.out]]; exact Own.of_row own6, by have := HIN.out; simp; omega, HT'.out.more (by omega), HC6.out.more (by omega), HO6.out⟩
        · omega
      · have hgo2 : (b1 = true → l.length = 0) := fun h => Nat.eq_zero_of_not_pos (fun h' => hgo ⟨h, h'⟩)
        obtain ⟨Ao, co, rfl, -, -, -⟩ := (Own.of_row own3).slice
        have hfin : DrewCues g m w (.returned (.slice Ao l.length co)) w3 := ⟨_, _, rfl, Own.of_row own3, by omega, HT.out.more (by omega), HC3.out.more (by omega), HO3.out⟩
        have HF := Lib.hid hfin
        clear hfin
        cases b1
        · go_wp2
          go_ret
          exact HF.out
        · have hl0 := hgo2 rfl
          have HF2 := Lib.hid (show DrewCues g m w (.returned (.slice Ao 0 co)) w3 from by have := HF.out; rwa [hl0] at this)
          go_wp2
          go_ret
          exact HF2.out
    · have k1 : (0 : Int) < ((k + 1 : Nat) : Int) := by omega
      go_wp2_with fail
      refine (pick_calls g (m + 4 + 6 * l.length) 5 _ HK.out (by omega) (by omega) (by omega)).mono ?_
      rintro e w3 ⟨y1, rfl, hy1, hc3, ho3⟩
      have hy1' : y1 < 5 := by omega
      have own3 := ownsRow_only hown ho3 (fun g' hg' => by have := (hown.lt g' hg').1; omega)
      have HO3 := Lib.hid (HN.out.trans ho3)
      have HC3 := Lib.hid hc3
      clear hc3 ho3 hown
      have hs3 := HO3.out.size
      go_wp2_with fail
      refine (of_calls g (m + 4 + 6 * l.length + 2) w3.heap.size 4 txt4 _ (HC3.out.alloc _) (by omega) (by decide) (by decide) (by have := HC3.out.1; omega) (by simp) (fun j t ht => new_at (xs := txt4.map Value.string) (by simp [ht]))).mono ?_
      rintro e w4 ⟨t, rfl, ht, hc4, ho4⟩
      have own4 := ownsRow_only (own3.alloc _) ho4 (fun g' hg' => by have := (own3.lt g' hg').1; omega)
      have HO4 := Lib.hid (HO3.out.trans ((Only.of_below ((Below.refl _ _).alloc (Nat.le_refl _) _)).trans ho4))
      have HC4 := Lib.hid hc4
      have HTT := Lib.hid (txt4_size t ht)
      clear hc4 ho4 own3 ht
      have hs4 := HO4.out.size
      go_wp2_with (first | (at_builtin; refine wpList_append_three own4 (by exact hs4) (.tmp 25) (.tmp 32) 27 Tryd.underlying27 info_cue (by omega) (by unfold maxLen; omega) ⟨rfl, rfl, rfl, rfl, rfl, rfl, rfl, rfl⟩ (by simp) ?_; intro vv ww own5 hb5 _))
      have HC5 := Lib.hid (HC4.out.below (hb5.mono hgw))
      have HO5 := Lib.hid (HO4.out.then_below hb5 (Nat.le_refl _))
      clear hb5
      refine (pick_calls g (m + 4 + 6 * l.length + 2 + 2) 4 _ HC5.out (by omega) (by omega) (by omega)).mono ?_
      rintro e w6 ⟨y3, rfl, hy3, hc6, ho6⟩
      have hy3' : y3 < 4 := by omega
      have own6 := ownsRow_only own5 ho6 (fun g' hg' => by have := (own5.lt g' hg').1; omega)
      have HO6 := Lib.hid (HO5.out.trans ho6)
      have HC6 := Lib.hid hc6
      clear hc6 ho6 own5
      go_wp2
      go_roundw
      case rel => exact ⟨k, a + 1 + y1 * 700 + y3 * 300, l ++ [((a : Int), (a : Int) + 1 + (y1 : Int) * 700, t)], by simp; omega, by go_num, by push_cast; rfl, by simp; omega, by rw [List.length_append, cuesV_append]; exact own6, HT.out.snoc (by omega) (by simp only; omega) (by simp only; omega) HTT.out, HC6.out.more (by simp; omega), HO6.out⟩
      case measure => simp [intOf]; try omega
end Go.Proofs.YtjdnmknegpikcaaDoor
