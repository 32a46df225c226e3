/-
  Contracts of timed, copyOf, l20If; of both ShiftCues.
-/
import Derived.Test.YtjdnmknegpikcaaDoorValid
import Derived.Test.YtjdnmknegpikcaaDoorActive
import Derived.Deep.RegionHeld3
namespace Go.Proofs.YtjdnmknegpikcaaDoor
open Go.RowKit
set_option linter.unusedVariables false
set_option maxRecDepth 100000

theorem cuesV_one (l : List CueD) : ∀ u ∈ cuesV l, u.oneCell' = true := by
  intro u hu
  simp only [cuesV, List.mem_flatMap, cueV] at hu
  obtain ⟨c, _, hc⟩ := hu
  simp at hc
  rcases hc with rfl | rfl | rfl <;> rfl

/-- The results of a function that gives a track, or none. -/
def Tracked (o : Option (List CueD)) (w : World) (e : Ending) (w' : World) : Prop :=
  ∃ v, e = .returned (.tuple #[v, .bool o.isSome]) ∧ Own w' w.heap.size w'.heap.size 59 3 v (o.getD []).length (cuesV (o.getD [])) ∧ Below w.heap.size w w'
theorem tracked_no {o : Option (List CueD)} {w w' : World} (h : o = none) (hb : Below w.heap.size w w') : Tracked o w (.returned (.tuple #[.slice none 0 0, .bool false])) w' := by
  subst h
  exact ⟨_, rfl, Own.none_, hb⟩
theorem tracked_yes {o : Option (List CueD)} {m : List CueD} {w w' : World} {v : Value} (h : o = some m) (ho : w'.ownsRow w.heap.size 59 3 v m.length (cuesV m)) (hb : Below w.heap.size w w') : Tracked o w (.returned (.tuple #[v, .bool true])) w' := by
  subst h
  exact ⟨_, rfl, Own.of_row ho, hb⟩

def mapT (g : Int → Int) (l : List CueD) : List CueD := l.map fun c => (g c.1, g c.2.1, c.2.2)
theorem mapT_length (g : Int → Int) (l : List CueD) : (mapT g l).length = l.length := by simp [mapT]
theorem mapT_snoc (g : Int → Int) {l : List CueD} {k : Nat} {c : CueD} (h : l[k]? = some c) : mapT g (l.take (k + 1)) = mapT g (l.take k) ++ [(g c.1, g c.2.1, c.2.2)] := by rw [take_succ_of h]; simp [mapT]
def timedL (l : List CueD) (ok : Bool) (g : Int → Int) : Option (List CueD) := if validB l && ok && validB (mapT g l) then some (mapT g l) else none
theorem timed_bad1 {l : List CueD} {ok : Bool} {g : Int → Int} (h : validB l = false) : timedL l ok g = none := by simp [timedL, h]
theorem timed_bad2 {l : List CueD} {ok : Bool} {g : Int → Int} (h : ok = false) : timedL l ok g = none := by simp [timedL, h]
theorem timed_bad3 {l : List CueD} {ok : Bool} {g : Int → Int} (h : validB (mapT g l) = false) : timedL l ok g = none := by simp [timedL, h]
theorem timed_good {l : List CueD} {ok : Bool} {g : Int → Int} (h1 : validB l = true) (h2 : ok = true) (h3 : validB (mapT g l) = true) : timedL l ok g = some (mapT g l) := by simp [timedL, h1, h2, h3]
theorem timed_le (l : List CueD) (ok : Bool) (g : Int → Int) : ((timedL l ok g).getD []).length ≤ l.length := by unfold timedL; split <;> simp [mapT]
theorem mapT_text {g : Int → Int} {l : List CueD} {P : ByteArray → Prop} (h : ∀ c ∈ l, P c.2.2) : ∀ c ∈ mapT g l, P c.2.2 := by
  intro c hc
  simp only [mapT, List.mem_map] at hc
  obtain ⟨d, hd, rfl⟩ := hc
  exact h d hd
theorem mapT_fits {g : Int → Int} {l : List CueD} (hv : validB l = true) (hg : ∀ t, 0 ≤ t → t ≤ 99999999 → -9223372036854775808 ≤ g t ∧ g t ≤ 9223372036854775807) : Fits (mapT g l) := by
  intro c hc
  simp only [mapT, List.mem_map] at hc
  obtain ⟨d, hd, rfl⟩ := hc
  obtain ⟨k, hk⟩ := List.mem_iff_getElem?.1 hd
  obtain ⟨v1, v2, v3, -⟩ := valid_bounds hv hk
  exact ⟨hg _ (by omega) (by omega), hg _ (by omega) (by omega)⟩

/-- Three cells of a block of the call's own, and the frame, are carried through a region. -/
theorem heldT3_drew {B g : Nat} {w W : World} {a b c : Value} (h : W.cell? ⟨g, 0, none⟩ = some a ∧ W.cell? ⟨g, 1, none⟩ = some b ∧ W.cell? ⟨g, 2, none⟩ = some c ∧ Below B w W) : W.drew.cell? ⟨g, 0, none⟩ = some a ∧ W.drew.cell? ⟨g, 1, none⟩ = some b ∧ W.drew.cell? ⟨g, 2, none⟩ = some c ∧ Below B w W.drew :=
  ⟨h.1, h.2.1, h.2.2.1, h.2.2.2.drew⟩
theorem held3_alloc {B g : Nat} {w W : World} {a b c : Value} (h : W.cell? ⟨g, 0, none⟩ = some a ∧ W.cell? ⟨g, 1, none⟩ = some b ∧ W.cell? ⟨g, 2, none⟩ = some c ∧ Below B w W) (hB : B ≤ W.heap.size) (o : Obj) : (W.alloc o).cell? ⟨g, 0, none⟩ = some a ∧ (W.alloc o).cell? ⟨g, 1, none⟩ = some b ∧ (W.alloc o).cell? ⟨g, 2, none⟩ = some c ∧ Below B w (W.alloc o) := by
  have hg : g < W.heap.size := World.block_lt_of_cell? W _ h.1
  exact ⟨(World.cell?_alloc_past _ _ _ hg).trans h.1, (World.cell?_alloc_past _ _ _ hg).trans h.2.1, (World.cell?_alloc_past _ _ _ hg).trans h.2.2.1, h.2.2.2.alloc hB o⟩
theorem held3_dalloc {B g : Nat} {w W : World} {a b c : Value} (h : W.drew.cell? ⟨g, 0, none⟩ = some a ∧ W.drew.cell? ⟨g, 1, none⟩ = some b ∧ W.drew.cell? ⟨g, 2, none⟩ = some c ∧ Below B w W.drew) (hB : B ≤ W.heap.size) (o : Obj) : (W.alloc o).drew.cell? ⟨g, 0, none⟩ = some a ∧ (W.alloc o).drew.cell? ⟨g, 1, none⟩ = some b ∧ (W.alloc o).drew.cell? ⟨g, 2, none⟩ = some c ∧ Below B w (W.alloc o).drew :=
  held3_alloc (W := W.drew) h hB o
theorem held3_grown {B g : Nat} {w W w1 : World} {a b c : Value} {row : Option Nat} (h : W.cell? ⟨g, 0, none⟩ = some a ∧ W.cell? ⟨g, 1, none⟩ = some b ∧ W.cell? ⟨g, 2, none⟩ = some c ∧ Below B w W) (hg : W.grownBy w1 row) (hne : some g ≠ row) (hB : B ≤ W.heap.size) (hr : ∀ k, row = some k → B ≤ k) :
    w1.cell? ⟨g, 0, none⟩ = some a ∧ w1.cell? ⟨g, 1, none⟩ = some b ∧ w1.cell? ⟨g, 2, none⟩ = some c ∧ Below B w w1 :=
  ⟨hg.cell h.1 hne, hg.cell h.2.1 hne, hg.cell h.2.2.1 hne, h.2.2.2.grown hg hB hr⟩

set_option maxHeartbeats 2000000 in
theorem timed_calls (f : Nat) (caps : Array Value) (g : Int → Int) (ok : Bool) (A : Option Addr) (cap : Nat) (l : List CueD) (w : World) (hr : Reads w w.heap.size 3 A l.length (cuesV l)) (hn : l.length ≤ 1048576) (ht : ∀ c ∈ l, c.2.2.size ≤ maxLen) (hf : Fits l)
    (hin : ∀ args W, (callFunc f args).run Tryd.prog W = .ok (.enter f args) W)
    (hg : ok = true → ∀ t, 0 ≤ t → t ≤ 99999999 → -9223372036854775808 ≤ g t ∧ g t ≤ 9223372036854775807)
    (hcall : ok = true → ∀ (t : Int) (W : World), 0 ≤ t → t ≤ 99999999 → Below w.heap.size w W → Calls Tryd.prog f (#[.int .i64 t] ++ caps) W fun e w' => e = .returned (.int .i64 (g t)) ∧ W = w') :
    Calls Tryd.prog 30 #[.slice A l.length cap, .bool ok, .func (.func f) #[] caps] w (Tracked (timedL l ok g) w) := by
  have HC := Lib.hid hcall
  have HG := Lib.hid hg
  clear hcall hg
  cases hv : validB l
  · go_enter Tryd.func30, Tryd.ntmps30
    go_wp2_with fail
    refine (impl_IsValidCues A cap l _ hr hn ht hf).mono ?_
    rintro e w1 ⟨rfl, hb⟩
    go_wp2
    go_ret2
    exact tracked_no (timed_bad1 hv) hb
  cases hok : ok
  · go_enter Tryd.func30, Tryd.ntmps30
    go_wp2_with fail
    refine (impl_IsValidCues A cap l _ hr hn ht hf).mono ?_
    rintro e w1 ⟨rfl, hb⟩
    go_wp2
    go_ret2
    exact tracked_no (timed_bad2 rfl) hb
  subst hok
  go_enter Tryd.func30, Tryd.ntmps30
  go_wp2_with fail
  refine (impl_IsValidCues A cap l _ hr hn ht hf).mono ?_
  rintro e w1 ⟨rfl, hb1⟩
  go_wp2
  have HV := Lib.hid hv
  clear hv
  go_loopw [8, 21] (fun v i wr => ∃ k : Nat, k ≤ l.length ∧ i = .int .i64 k ∧ wr.ownsRow w.heap.size 59 3 v k (cuesV (mapT g (l.take k))) ∧ Below w.heap.size w wr) (fun _ i _ => l.length - (intOf i).toNat)
  case atStart => exact ⟨0, Nat.zero_le _, rfl, World.ownsRow_made _ _ _ hb1.size (by simp) rfl, hb1.alloc hb1.size _⟩
  case round =>
    obtain ⟨k, hk, rfl, hown, hb⟩ := hrel
    have hsz := hb.size
    by_cases hlt : k < l.length
    · obtain ⟨b, off, rfl, hb0, hc⟩ := (hr.below hb).2 (by omega)
      obtain ⟨⟨s, e, t⟩, hx⟩ := some_at l hlt
      obtain ⟨c1, c2, c3⟩ := Reads.cue (B := 0) (n := 0) hc hx
      obtain ⟨v1, v2, v3, -⟩ := valid_bounds HV.out hx
      simp only at v1 v2 v3
      have HX := Lib.hid hx
      clear hx hc
      have hb2 : Below w.heap.size w (wr.alloc (.cells #[.int .i64 s, .int .i64 e, .string t] 59)) := hb.alloc hsz _
      have hown2 := hown.alloc (.cells #[.int .i64 s, .int .i64 e, .string t] 59)
      have hsz2 := hb2.size
      have hne : some wr.heap.size ≠ u8.ownBlock := fun h => by have := hown.lt _ h.symm; omega
      have S0 : (wr.alloc (.cells #[.int .i64 s, .int .i64 e, .string t] 59)).cell? ⟨wr.heap.size, 0, none⟩ = some (.int .i64 s) ∧ (wr.alloc (.cells #[.int .i64 s, .int .i64 e, .string t] 59)).cell? ⟨wr.heap.size, 1, none⟩ = some (.int .i64 e) ∧ (wr.alloc (.cells #[.int .i64 s, .int .i64 e, .string t] 59)).cell? ⟨wr.heap.size, 2, none⟩ = some (.string t) ∧ Below w.heap.size w (wr.alloc (.cells #[.int .i64 s, .int .i64 e, .string t] 59)) :=
        ⟨by simp [World.cell?_alloc_at], by simp [World.cell?_alloc_at], by simp [World.cell?_alloc_at], hb2⟩
      have hse : s ≤ 99999999 := by omega
      have hee : 0 ≤ e := by omega
      go_wp2
      go_region_held3 (fun w' => w'.cell? ⟨wr.heap.size, 0, none⟩ = some (.int .i64 s) ∧ w'.cell? ⟨wr.heap.size, 1, none⟩ = some (.int .i64 e) ∧ w'.cell? ⟨wr.heap.size, 2, none⟩ = some (.string t) ∧ Below w.heap.size w w') (first | exact S0 | assumption | exact heldT3_drew S0 | exact held3_dalloc (heldT3_drew S0) hsz2 _ | exact held3_grown (held3_dalloc (heldT3_drew S0) hsz2 _) (by assumption) hne (by simp; omega) (fun k hk => (hown.lt k hk).1)) (first | (refine step_append_own (hown2.alloc _).drew (by simp; omega) (.tmp 25) (.tmp 37) 27 Tryd.underlying27 info_cue (by omega) (by unfold maxLen; omega) (ys := [.int .i64 (g s), .int .i64 (g e), .string t]) (g := wr.heap.size + 1) (news_alloc (by simp)) (by simp [Value.oneCell']) ⟨rfl, rfl, rfl, rfl, rfl, rfl, by decide⟩ ?_; intro vv ww hown1 hgrow _) | (refine (HC.out trivial s _ v1 hse (by exact (And.right (And.right (And.right (by assumption)))))).mono ?_; rintro e1 w' ⟨rfl, rfl⟩) | (refine (HC.out trivial e _ hee v3 (by exact (And.right (And.right (And.right (by assumption)))))).mono ?_; rintro e1 w' ⟨rfl, rfl⟩))
      have hb4 : Below w.heap.size w ww := And.right (And.right (And.right (by assumption)))
      clear hgrow S0
      go_wp2
      go_roundw
      case rel => exact ⟨k + 1, by omega, by go_num, by rw [mapT_snoc g HX.out, cuesV_snoc]; exact hown1, hb4⟩
      case measure => simp [intOf]; omega
    · obtain rfl : k = l.length := by omega
      rw [take_all] at hown
      obtain ⟨Ao, co, rfl, hro, -, -⟩ := (Own.of_row hown).slice
      have hml := mapT_length g l
      rw [← hml] at hro
      have hro2 : Reads wr wr.heap.size 3 Ao (mapT g l).length (cuesV (mapT g l)) := by rw [hml]; rw [hml] at hro; exact hro
      have hvc := impl_IsValidCues Ao co (mapT g l) wr hro2 (by omega) (mapT_text (P := fun t => t.size ≤ maxLen) ht) (mapT_fits HV.out (HG.out trivial))
      rw [hml] at hvc
      have HVC := Lib.hid hvc
      have hsz := hb.size
      clear hvc hro hro2 hml
      cases hv2 : validB (mapT g l)
      · go_wp2_with fail
        refine HVC.out.mono ?_
        rintro e w2 ⟨rfl, hb2⟩
        go_wp2
        go_ret2
        exact tracked_no (timed_bad3 hv2) (hb.trans (hb2.mono hsz))
      · go_wp2_with fail
        refine HVC.out.mono ?_
        rintro e w2 ⟨rfl, hb2⟩
        go_wp2
        go_ret2
        have ho := ownsRow_only (lo' := wr.heap.size) (hi' := wr.heap.size) hown (Only.of_below hb2) (fun g hg => .inl (hown.lt g hg).2)
        exact tracked_yes (timed_good HV.out rfl hv2) (by rw [mapT_length]; exact ho) (hb.trans (hb2.mono hsz))

def shiftL (l : List CueD) (off : Int) : Option (List CueD) := timedL l (inB off (-99999999) 99999999) fun t => t + off

end Go.Proofs.YtjdnmknegpikcaaDoor
