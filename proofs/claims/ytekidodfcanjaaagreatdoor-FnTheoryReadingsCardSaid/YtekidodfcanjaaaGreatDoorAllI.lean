/-
  The program's list of all readings.
-/
import Derived.Test.YtekidodfcanjaaaGreatDoorAllS
import Derived.Test.YtekidodfcanjaaaGreatDoorCountI
import Derived.ArgAppend
import Derived.Maps.AppendAt
namespace Go.Proofs.YtekidodfcanjaaaGreatDoor
open Go.RowKit
set_option linter.unusedVariables false
set_option linter.unusedSimpArgs false
set_option maxRecDepth 100000

/-- w' is w but for block bo, a row's block, and new ones. -/
structure Frame2 (bo : Nat) (row : Option Nat) (w w' : World) : Prop where
  os : w'.os = w.os
  tape : w'.tape = w.tape
  output : w'.output = w.output
  size : w.heap.size ≤ w'.heap.size
  block : ∀ k, k < w.heap.size → k ≠ bo → some k ≠ row → w'.heap[k]? = w.heap[k]?
section
variable {bo : Nat} {row : Option Nat} {w w' : World}
theorem Frame2.refl (w : World) : Frame2 bo row w w := ⟨rfl, rfl, rfl, Nat.le_refl _, fun _ _ _ _ => rfl⟩
theorem Frame2.of_below (h : Below w.heap.size w w') : Frame2 bo row w w' := ⟨h.os, h.tape, h.output, h.size, fun k hk _ _ => h.block k hk⟩
theorem Frame2.of_grown (h : w.grownBy w' row) : Frame2 bo row w w' := ⟨h.os, h.tape, h.output, h.size, fun k hk _ hr => h.block k hk hr⟩
theorem Frame2.set_ (w : World) (u : Value) : Frame2 bo row w (w.setCell ⟨bo, 0, none⟩ u) := ⟨rfl, rfl, rfl, by simp [World.setCell], fun k _ hk _ => Below.heap_setCell _ _ _ _ hk⟩
theorem Frame2.trans {a b c : World} {v v1 : Value} (h1 : Frame2 bo v.ownBlock a b) (h2 : Frame2 bo v1.ownBlock b c) (h3 : v1.ownBlock = v.ownBlock ∨ ∃ g, v1.ownBlock = some g ∧ a.heap.size ≤ g) : Frame2 bo v.ownBlock a c := by
  refine ⟨h2.os.trans h1.os, h2.tape.trans h1.tape, h2.output.trans h1.output, Nat.le_trans h1.size h2.size, fun k hk hb hr => ?_⟩
  refine (h2.block k (Nat.lt_of_lt_of_le hk h1.size) hb (fun e => ?_)).trans (h1.block k hk hb hr)
  rcases h3 with h | ⟨g, h, hg⟩
  · exact hr (by rw [e, h])
  · rw [h] at e
    injection e
    omega
theorem Frame2.below (h : Frame2 bo row w w') {B : Nat} (hB : B ≤ w.heap.size) (hbo : B ≤ bo) (hr : ∀ g, row = some g → B ≤ g) : Below B w w' :=
  ⟨h.os, h.tape, h.output, h.size, fun k hk => h.block k (by omega) (by omega) (fun e => by have := hr k e.symm; omega)⟩
theorem Box.f2 {b : Nat} {T : TypeId} {u : Value} (h : Box w b T u) (hf : Frame2 bo row w w') (h1 : b ≠ bo) (h2 : row ≠ some b) : Box w' b T u := (hf.block b h.lt h1 (fun e => h2 e.symm)).trans h
theorem Two.f2 {g : Nat} {T : TypeId} {u v : Value} (h : Two w g T u v) (hf : Frame2 bo row w w') (h1 : g ≠ bo) (h2 : row ≠ some g) : Two w' g T u v := (hf.block g h.lt h1 (fun e => h2 e.symm)).trans h
theorem Box.ne_box {a b : Nat} {T T' : TypeId} {u v : Value} (h : Box w a T u) (h' : Box w b T' v) (hT : T ≠ T') : a ≠ b := fun e => by
  subst e
  unfold Box at h h'
  rw [h] at h'
  simp at h'
  exact hT h'.2
theorem row_f2 {base size n : Nat} {e : TypeId} {u : Value} {xs : List Value} (h : w.ownsRow base e size u n xs) (hf : Frame2 bo row w w') (h1 : u.ownBlock ≠ some bo) (h2 : u.ownBlock = none ∨ u.ownBlock ≠ row) : w'.ownsRow base e size u n xs := by
  obtain ⟨h1', h2'⟩ := h
  refine ⟨h1', ?_⟩
  rcases h2' with h0 | ⟨g, cap, cur, rfl, hb, hh, rest⟩
  · exact .inl h0
  · refine .inr ⟨g, cap, cur, rfl, hb, (hf.block g (Array.getElem?_eq_some_iff.1 hh).1 (fun e => h1 (by rw [← e]; rfl)) (fun e => ?_)).trans hh, rest⟩
    rcases h2 with h3 | h3
    · cases h3
    · exact h3 (by rw [← e]; rfl)
end
theorem rows_f2 {bo lo n : Nat} {w w' : World} {v : Value} {xs : List Value} {vs : List Value} {rows : List (List Int)} {x : Value} (h : RowsAt w lo vs rows) (ho : w.ownsRow lo 26 1 v n xs) (hx : Box w bo 41 x) (hf : Frame2 bo v.ownBlock w w') : RowsAt w' lo vs rows :=
  ⟨h.len, fun j u r hu hr => row_f2 (h.row j u r hu hr) hf (hx.ne_own (h.row j u r hu hr) (by decide)) (apart_or (h.row j u r hu hr) ho (by decide)), h.apart⟩

/-- What the closure has captured, beside the list of rows. -/
structure CapW (w : World) (bm bc bs bd be most : Nat) (C : Option Addr) (cc : Nat) (B : Option Addr) (cb : Nat) (zs : List Int) (A : Option Addr) (cap : Nat) (l : List EntD) (F : Value) : Prop where
  m : Box w bm 3 (.int .i64 (most : Int))
  c : Box w bc 26 (.slice C (zs.length + 1) cc)
  s : Box w bs 26 (.slice B zs.length cb)
  d : Box w bd 31 (.slice A l.length cap)
  e : Box w be 81 F
section
variable {w w' : World} {bo bm bc bs bd be most cc cb cap lo n : Nat} {A B C : Option Addr} {zs : List Int} {l : List EntD} {F v x : Value} {xs : List Value}
theorem CapW.f2 (h : CapW w bm bc bs bd be most C cc B cb zs A cap l F) (hx : Box w bo 41 x) (ho : w.ownsRow lo 26 1 v n xs) (hf : Frame2 bo v.ownBlock w w') (h1 : v.ownBlock ≠ some bc) (h2 : v.ownBlock ≠ some bs) : CapW w' bm bc bs bd be most C cc B cb zs A cap l F :=
  ⟨h.m.f2 hf (h.m.ne_box hx (by decide)) (h.m.ne_own ho (by decide)), h.c.f2 hf (h.c.ne_box hx (by decide)) h1, h.s.f2 hf (h.s.ne_box hx (by decide)) h2, h.d.f2 hf (h.d.ne_box hx (by decide)) (h.d.ne_own ho (by decide)), h.e.f2 hf (h.e.ne_box hx (by decide)) (h.e.ne_own ho (by decide))⟩
theorem CapW.far (h : CapW w bm bc bs bd be most C cc B cb zs A cap l F) (hb : Below w.heap.size w w') : CapW w' bm bc bs bd be most C cc B cb zs A cap l F := ⟨h.m.far hb, h.c.far hb, h.s.far hb, h.d.far hb, h.e.far hb⟩
end
theorem impl_copyOf (A : Option Addr) (ca : Nat) (xs : List Int) (w : World) (hx : Reads w w.heap.size 1 A xs.length (ints xs)) (hn : xs.length ≤ 1048576) :
    Calls Tryz.prog 64 #[.slice A xs.length ca] w fun e w' => ∃ v, e = .returned v ∧ w'.ownsRow w.heap.size 3 1 v xs.length (ints xs) ∧ Below w.heap.size w w' := by
  have ba := (Below.refl w.heap.size w).alloc (Nat.le_refl _) (.cells #[] 3)
  have own0 : (w.alloc (.cells #[] 3)).ownsRow w.heap.size 3 1 (.slice (some ⟨w.heap.size, 0, none⟩) 0 0) 0 [] := World.ownsRow_made _ _ _ (Nat.le_refl _) (by simp) rfl
  have hzx : w.heap.size ≤ (w.alloc (.cells #[] 3)).heap.size := by simp
  have hx1 := hx.below ba
  have h1 : ∀ u ∈ ints xs, u.oneCell' = true := fun u hu => by obtain ⟨z, _, rfl⟩ := List.mem_map.1 hu; rfl
  have H1 := Lib.hid h1
  clear h1
  go_enter Tryz.func64, Tryz.ntmps64
  go_wp2_with (at_builtin; refine wpList_append_src own0 hzx hx1 H1.out (.tmp 3) (.tmp 4) 26 Tryz.underlying26 info_int (by omega) (by unfold maxLen; omega) ⟨rfl, rfl, rfl, rfl, rfl, by decide⟩ ?_; intro v2 w2 own2 b2)
  go_ret
  simp only [Nat.zero_add, List.nil_append] at own2
  exact ⟨v2, rfl, own2, ba.trans b2⟩

/-- 'append(x[:len(x):len(x)], i)' as a step of a drawn region: always new memory. -/
theorem step_append_new {W : World} {g n : Nat} {xs : List Value} (hcell : ∀ j u, xs[j]? = some u → W.cell? ⟨g, 0 + j, none⟩ = some u) (hl : xs.length = n) (s x : Operand) {y : Value} {b : Nat} (hy : W.cell? ⟨b, 0, none⟩ = some y) (h1 : y.oneCell' = true) (hn : n ≤ 1048576)
    {ops : Array Oper} {o : Oper} {a : Act} {K : Act → World → Prop} {Q : Exit → Act → World → Prop} {E : Prop}
    (hh : o.guard = none ∧ o.op = .call { callee := .builtin .append, args := #[s, x], argTypes := #[26, 26] } ∧ a.eval s = .slice (some ⟨g, 0, none⟩) n n ∧ a.eval x = .slice (some ⟨b, 0, none⟩) 1 1)
    (h : ∀ v' w', w'.ownsRow W.heap.size 3 1 v' (n + 1) (xs ++ [y]) → W.grownBy w' none → K (a.put o.dst v') w') :
    if Region.wanted o (yielded ops a.tmps) = true then Oper.wp Tryz.prog o a W K Q else E := by
  obtain ⟨i, hi, hz0, hz1, hz2⟩ := info_parts info_int
  obtain ⟨hgd, ho, hs, hx⟩ := hh
  have hw : Region.wanted o (yielded ops a.tmps) = true := by simp [Region.wanted, hgd]
  rw [if_pos hw]
  obtain ⟨v', w', hrun, r1, r2⟩ := run_append_arg_grows (P := Tryz.prog) W 26 o.type 3 i (.int .i64 0) 1 8 Tryz.underlying26 hi hz0 hz1 hz2 rfl (by decide) ⟨g, 0, none⟩ n n xs (by omega) (fun j u hj => by rw [Addr.add_lit]; exact hcell j u hj) ⟨b, 0, none⟩ 1 1 [y] rfl (fun j u hj => by
    have h0 : j = 0 := by have := (List.getElem?_eq_some_iff.1 hj).1; simp at this; omega
    subst h0
    simp at hj
    subst hj
    rw [Addr.add_lit]
    exact hy) (by omega) (by unfold maxLen; omega) (by omega)
  unfold Oper.wp execOp
  simp only [ho, resolve, invoke, builtin, Sem.run_bind, Sem.run_pure, Result.andThen_ok, List.map_toArray, List.map_cons, List.map_nil, hs, hx, hrun]
  exact h v' w' r1 r2

theorem step_append_rowat {W : World} {v : Value} {n : Nat} {xs : List Value} {base : Nat} (hown : W.ownsRow base 26 1 v n xs) (hbase : base ≤ W.heap.size) (s x : Operand) {y : Value} {b : Nat} (hy : W.cell? ⟨b, 0, none⟩ = some y) (h1 : y.oneCell' = true) (hn : n ≤ 1048576)
    {ops : Array Oper} {o : Oper} {a : Act} {K : Act → World → Prop} {Q : Exit → Act → World → Prop} {E : Prop}
    (hh : o.guard = none ∧ o.op = .call { callee := .builtin .append, args := #[s, x], argTypes := #[41, 41] } ∧ a.eval s = v ∧ a.eval x = .slice (some ⟨b, 0, none⟩) 1 1)
    (h : ∀ v' w', w'.ownsRow base 26 1 v' (n + 1) (xs ++ [y]) → W.grownBy w' v.ownBlock → (v'.ownBlock = v.ownBlock ∨ v'.ownBlock = some W.heap.size) → K (a.put o.dst v') w') :
    if Region.wanted o (yielded ops a.tmps) = true then Oper.wp Tryz.prog o a W K Q else E := by
  obtain ⟨i, hi, hz0, hz1, hz2⟩ := info_parts infos_int
  obtain ⟨hgd, ho, hs, hx⟩ := hh
  have hw : Region.wanted o (yielded ops a.tmps) = true := by simp [Region.wanted, hgd]
  rw [if_pos hw]
  obtain ⟨v', w', hrun, r1, r2, -, r3⟩ := run_append_own_at (P := Tryz.prog) (w := W) base 41 o.type 26 i (.slice none 0 0) 1 24 Tryz.underlying41 hi hz0 hz1 hz2 rfl (by decide) v n xs hown ⟨b, 0, none⟩ 1 1 [y] rfl (fun j u hj => by
    have h0 : j = 0 := by have := (List.getElem?_eq_some_iff.1 hj).1; simp at this; omega
    subst h0
    simp at hj
    subst hj
    exact hy) (by simpa using h1) (by unfold maxLen; omega) (by omega) hbase
  unfold Oper.wp execOp
  simp only [ho, resolve, invoke, builtin, Sem.run_bind, Sem.run_pure, Result.andThen_ok, List.map_toArray, List.map_cons, List.map_nil, hs, hx, hrun]
  exact h v' w' r1 r2 r3
theorem row_set {w : World} {bo base size n : Nat} {e : TypeId} {u x : Value} {xs : List Value} (h : w.ownsRow base e size u n xs) (hne : u.ownBlock ≠ some bo) : (w.setCell ⟨bo, 0, none⟩ x).ownsRow base e size u n xs :=
  row_f2 h (Frame2.set_ (row := none) w x) hne (by cases h : u.ownBlock <;> simp)

def capV (bo bm bc bs bd be : Nat) : Array Value := #[.pointer (some ⟨bo, 0, none⟩), .pointer (some ⟨bm, 0, none⟩), .pointer (some ⟨bc, 0, none⟩), .pointer (some ⟨bs, 0, none⟩), .pointer (some ⟨bd, 0, none⟩), .pointer (some ⟨be, 0, none⟩)]
def ExtRes (lo bo : Nat) (v : Value) (rows : List (List Int)) (w : World) (e : Ending) (w' : World) : Prop :=
  ∃ v' vs', e = .returned (.tuple #[]) ∧ Box w' bo 41 v' ∧ w'.ownsRow lo 26 1 v' rows.length vs' ∧ RowsAt w' lo vs' rows ∧ Frame2 bo v.ownBlock w w' ∧ (v'.ownBlock = v.ownBlock ∨ ∃ g, v'.ownBlock = some g ∧ w.heap.size ≤ g)
def ExtSpec (lo bo bm bc bs bd be most : Nat) (C : Option Addr) (cc : Nat) (B : Option Addr) (cb : Nat) (zs : List Int) (A : Option Addr) (cap : Nat) (l : List EntD) (at_ : Nat) : Prop :=
  ∀ (list : List Int) (hg ch : Nat) (v : Value) (vs : List Value) (out : List (List Int)) (w : World),
    lo ≤ w.heap.size → lo ≤ bo → CapW w bm bc bs bd be most C cc B cb zs A cap l (.func (.func 63) #[] #[.pointer (some ⟨bo, 0, none⟩), .pointer (some ⟨bm, 0, none⟩), .pointer (some ⟨bc, 0, none⟩), .pointer (some ⟨bs, 0, none⟩), .pointer (some ⟨bd, 0, none⟩), .pointer (some ⟨be, 0, none⟩)]) → Box w bo 41 v → v.ownBlock ≠ some bc → v.ownBlock ≠ some bs →
    DictR w lo A l → Reads w lo 1 B zs.length (ints zs) → w.ownsRow 0 3 1 (.slice C (zs.length + 1) cc) (zs.length + 1) (ints (cntRow l zs zs.length)) → w.ownsRow 0 3 1 (.slice (some ⟨hg, 0, none⟩) list.length ch) list.length (ints list) →
    w.ownsRow lo 26 1 v out.length vs → RowsAt w lo vs out → out.length ≤ most → list.length ≤ at_ →
    Calls Tryz.prog 63 #[.slice (some ⟨hg, 0, none⟩) list.length ch, .int .i64 (at_ : Int), .pointer (some ⟨bo, 0, none⟩), .pointer (some ⟨bm, 0, none⟩), .pointer (some ⟨bc, 0, none⟩), .pointer (some ⟨bs, 0, none⟩), .pointer (some ⟨bd, 0, none⟩), .pointer (some ⟨be, 0, none⟩)] w (ExtRes lo bo v (takeM out (rowsOf list (readD l (zs.drop at_))) most) w)

theorem ext_leaf {lo bo : Nat} {v v6 u : Value} {vs : List Value} {out : List (List Int)} {list : List Int} {w w5 w6 : World} (hbo5 : Box w5 bo 41 v) (hout5 : w5.ownsRow lo 26 1 v out.length vs) (rows5 : RowsAt w5 lo vs out) (o5 : w5.ownsRow w.heap.size 3 1 u list.length (ints list)) (b5 : Below w.heap.size w w5) (hlo : lo ≤ w.heap.size)
    (hlt : ∀ x ∈ vs, ∀ g, x.ownBlock = some g → g < w.heap.size) (own6 : w6.ownsRow lo 26 1 v6 (out.length + 1) (vs ++ [u])) (gr6 : (w5.alloc (.cells #[u] 26)).grownBy w6 v.ownBlock) (at6 : v6.ownBlock = v.ownBlock ∨ v6.ownBlock = some (w5.alloc (.cells #[u] 26)).heap.size) :
    ExtRes lo bo v (out ++ [list]) w (.returned (.tuple #[])) (w6.setCell ⟨bo, 0, none⟩ v6) := by
  have gr := (World.grownBy_alloc w5 (.cells #[u] 26) v.ownBlock).trans gr6
  have hbo6 := hbo5.grown gr (hbo5.ne_own hout5 (by decide))
  have rows6 := rows_put hout5 rows5 o5 hlo hlt gr
  refine ⟨v6, vs ++ [u], rfl, hbo6.set_ v6, by rw [List.length_append]; exact row_set own6 (hbo6.ne_own own6 (by decide)), ⟨rows6.len, fun j x r hx hr => row_set (rows6.row j x r hx hr) (hbo6.ne_own (rows6.row j x r hx hr) (by decide)), rows6.apart⟩, ?_, ?_⟩
  · exact ((Frame2.of_below b5).trans (v1 := v) (Frame2.of_grown gr) (.inl rfl)).trans (v1 := v) (Frame2.set_ w6 v6) (.inl rfl)
  · rcases at6 with h | h
    · exact .inl h
    · exact .inr ⟨_, h, by have := b5.size; simp; omega⟩

set_option maxHeartbeats 16000000 in
theorem impl_ext_step (lo bo bm bc bs bd be most : Nat) (C : Option Addr) (cc : Nat) (B : Option Addr) (cb : Nat) (zs : List Int) (A : Option Addr) (cap : Nat) (l : List EntD) (hv : dictB l = true) (h60 : zs.length ≤ 60) (hcb : zs.length ≤ cb) (hcm : cb ≤ maxLen) (hm50 : most ≤ 50) (at_ : Nat) (hat : at_ ≤ zs.length)
    (IH : ∀ a', at_ < a' → a' ≤ zs.length → ExtSpec lo bo bm bc bs bd be most C cc B cb zs A cap l a') : ExtSpec lo bo bm bc bs bd be most C cc B cb zs A cap l at_ := by
  intro list hg ch v vs out w hlo hlb hcap hbo hvc hvs hr hz hcnt hlist hout hrows hlen hll
  have HV := Lib.hid hv
  have h40 := dict_len hv
  have HI := Lib.hid IH
  unfold maxLen at hcm
  have cO := hbo.cell
  have cM := hcap.m.cell
  have cC := hcap.c.cell
  have cS := hcap.s.cell
  have i0 : (0 : Int) ≤ (at_ : Int) := by omega
  have i1 : (at_ : Int) < (zs.length : Int) + 1 := by omega
  obtain ⟨Av, kv, rfl, -, -, -⟩ := (Own.of_row hout).slice
  obtain ⟨gC, cC', hCe, -, -, -, -, -, hcc, -⟩ := (Own.of_row hcnt).open_ (by omega)
  simp only [Value.slice.injEq, true_and] at hCe
  obtain ⟨rfl, rfl⟩ := hCe
  have hcl : (cntRow l zs zs.length).length = zs.length + 1 := cntRow_length (Nat.le_refl _)
  have hE := Lib.hid (dict_ne hv)
  have cN := (hcc at_ (by omega)).trans (ints_at _ (cntRow_at hE.out hat))
  have hnl : numR l (zs.drop at_) ≤ 1000001 := Nat.min_le_left _ _
  have HNN := Lib.hid (fun h => num_none (l := l) (zs := zs.drop at_) h)
  obtain ⟨cn, hcn⟩ : ∃ cn, cn = numR l (zs.drop at_) := ⟨_, rfl⟩
  rw [← hcn] at cN HNN hnl
  clear IH hv hcn hcl hcc
  by_cases hfull : out.length = most
  · have HR := Lib.hid (takeM_full (out := out) (Nat.le_of_eq hfull.symm) (rowsOf list (readD l (zs.drop at_))))
    rw [HR.out]
    have x1 : ((out.length : Int) == (most : Int)) = true := by simp; omega
    have x2 : (out.length == most) = true := by simpa using hfull
    have HF := Lib.hid hfull
    clear HR HI hfull
    go_enter Tryz.func63, Tryz.ntmps63
    go_wp2
    refine bodyPost_ret (v := .tuple #[]) (by simp [results, go_sem]) rfl ?_
    exact ⟨_, vs, rfl, hbo, hout, hrows, Frame2.refl _, .inl rfl⟩
  have x1 : ((out.length : Int) == (most : Int)) = false := by simp; omega
  have x2 : (out.length == most) = false := by simpa using hfull
  have hlt : out.length < most := by omega
  have HF := Lib.hid hfull
  clear hfull
  by_cases hc0 : cn = 0
  · have HR := Lib.hid (show takeM out (rowsOf list (readD l (zs.drop at_))) most = out by rw [HNN.out hc0, rowsOf_nil, takeM_nil])
    rw [HR.out]
    have x3 : ((cn : Int) == 0) = true := by simp; omega
    have x4 : (cn == 0) = true := by simpa using hc0
    clear HR HI hc0
    go_enter Tryz.func63, Tryz.ntmps63
    go_wp2
    refine bodyPost_ret (v := .tuple #[]) (by simp [results, go_sem]) rfl ?_
    exact ⟨_, vs, rfl, hbo, hout, hrows, Frame2.refl _, .inl rfl⟩
  have x3 : ((cn : Int) == 0) = false := by simp; omega
  have x4 : (cn == 0) = false := by simpa using hc0
  clear hc0
  by_cases heq : at_ = zs.length
  · have HR := Lib.hid (show takeM out (rowsOf list (readD l (zs.drop at_))) most = out ++ [list] by rw [heq, List.drop_length, readD_nil, rowsOf_one, takeM_one hlt])
    rw [HR.out]
    subst heq
    have x5 : ((zs.length : Int) == (zs.length : Int)) = true := by simp
    clear HR HI
    go_enter Tryz.func63, Tryz.ntmps63
    go_wp2
    have hrd := Reads.of_own hlist
    have HCP := Lib.hid (show Calls Tryz.prog 64 #[.slice (some ⟨hg, 0, none⟩) list.length ch] w.drew fun e w' => ∃ v, e = .returned v ∧ w'.ownsRow w.heap.size 3 1 v list.length (ints list) ∧ Below w.heap.size w w' from by
      refine (impl_copyOf (some ⟨hg, 0, none⟩) ch list w.drew hrd (by omega)).mono ?_
      rintro e w' ⟨v, rfl, ov, bv⟩
      exact ⟨v, rfl, ov, ((Below.refl w.heap.size w).drew).trans bv⟩)
    have HLT := Lib.hid (show ∀ x ∈ vs, ∀ g, x.ownBlock = some g → g < w.heap.size from fun x hx g hg => (hrows.lt x hx g hg).2)
    clear hrd cM cC cS cN x1 x2 x3 x4 x5
    refine wp_region_held_drew (S := fun _ => True) (by kernel_rfl) trivial (fun hHeld => ?_)
    (refine wpAnyH_take (i := 1) (v := ?_) rfl (by kernel_rfl) (by kernel_rfl) (by kernel_rfl) (fun _ _ _ h => h) (Or.inl ⟨by rfl, ?_⟩) trivial ?_; rotate_left; focus (intro w hSw; (try dsimp only at hSw); go_simp; try with_reducible rfl))
    (try simp only [List.getElem_toArray, List.getElem_cons_succ, List.getElem_cons_zero, Act.put, List.setIfInBounds_toArray, List.set_cons_zero, List.set_cons_succ])
    refine wpAnyH_ready (rs := [0, 2]) (by kernel_rfl) (by simp) ?_
    refine AllReadyH.cons rfl (fun K hK => ?_) (AllReadyH.cons rfl (fun K hK => ?_) AllReadyH.nil)
    · go_simp
      refine hK.out _ _ trivial (fun hHeld => ?_)
      clear hK K
      (try simp only [List.getElem_toArray, List.getElem_cons_succ, List.getElem_cons_zero, Act.put, List.setIfInBounds_toArray, List.set_cons_zero, List.set_cons_succ])
      refine wpAnyH_ready (rs := [2]) (by kernel_rfl) (by simp) ?_
      refine AllReadyH.cons rfl (fun K hK => ?_) AllReadyH.nil
      go_simp
      (with_reducible refine HCP.out.mono ?_); rintro e w5 ⟨v5, rfl, o5, b5⟩; obtain ⟨A5, k5, rfl, -, -, -⟩ := (Own.of_row o5).slice; have hbo5 := hbo.far b5; have hout5 := row_below hout b5; have rows5 := hrows.below b5; have cO5 := hbo5.cell; have cO5a := (hbo5.alloc (.cells #[.slice A5 list.length k5] 26)).cell; go_wp2_with fail
      refine hK.out _ _ trivial (fun hHeld => ?_)
      clear hK K
      (try simp only [List.getElem_toArray, List.getElem_cons_succ, List.getElem_cons_zero, Act.put, List.setIfInBounds_toArray, List.set_cons_zero, List.set_cons_succ])
      refine wpAnyH_ready (rs := [3]) (by kernel_rfl) (by simp) ?_
      refine AllReadyH.cons rfl (fun K hK => ?_) AllReadyH.nil
      go_simp
      refine hK.out _ _ trivial (fun hHeld => ?_)
      clear hK K
      (try simp only [List.getElem_toArray, List.getElem_cons_succ, List.getElem_cons_zero, Act.put, List.setIfInBounds_toArray, List.set_cons_zero, List.set_cons_succ])
      refine wpAnyH_ready (rs := [4]) (by kernel_rfl) (by simp) ?_
      refine AllReadyH.cons rfl (fun K hK => ?_) AllReadyH.nil
      refine step_append_rowat (hout5.alloc (.cells #[.slice A5 list.length k5] 26)) (by have := b5.size; simp; omega) (.tmp 29) (.tmp 32) (Box.new w5 26 (.slice A5 list.length k5)).cell rfl (by omega) ⟨rfl, rfl, rfl, rfl⟩ ?_; intro v6 w6 own6 gr6 at6; obtain ⟨A6, k6, rfl, -, -, -⟩ := (Own.of_row own6).slice; have hbo6 := (hbo5.alloc (.cells #[.slice A5 list.length k5] 26)).grown gr6 ((hbo5.alloc (.cells #[.slice A5 list.length k5] 26)).ne_own (hout5.alloc (.cells #[.slice A5 list.length k5] 26)) (by decide)); have cO6 := hbo6.cell; have fO6 := hbo6.free
      refine hK.out _ _ trivial (fun hHeld => ?_)
      clear hK K
      (try simp only [List.getElem_toArray, List.getElem_cons_succ, List.getElem_cons_zero, Act.put, List.setIfInBounds_toArray, List.set_cons_zero, List.set_cons_succ])
      refine wpAnyH_ready (rs := [5]) (by kernel_rfl) (by simp) ?_
      refine AllReadyH.cons rfl (fun K hK => ?_) AllReadyH.nil
      go_simp
      refine hK.out _ _ trivial (fun hHeld => ?_)
      clear hK K
      (try simp only [List.getElem_toArray, List.getElem_cons_succ, List.getElem_cons_zero, Act.put, List.setIfInBounds_toArray, List.set_cons_zero, List.set_cons_succ])
      refine wpAnyH_done (by kernel_rfl) ?_ _
      first | refine NoPanic.normal ?_ | skip
      clear hHeld
      go_wp2
      refine bodyPost_ret (v := .tuple #[]) (by simp [results, go_sem]) rfl ?_
      exact ext_leaf hbo5 hout5 rows5 o5 b5 hlo HLT.out own6 gr6 at6
    · go_simp
      (with_reducible refine HCP.out.mono ?_); rintro e w5 ⟨v5, rfl, o5, b5⟩; obtain ⟨A5, k5, rfl, -, -, -⟩ := (Own.of_row o5).slice; have hbo5 := hbo.far b5; have hout5 := row_below hout b5; have rows5 := hrows.below b5; have cO5 := hbo5.cell; have cO5a := (hbo5.alloc (.cells #[.slice A5 list.length k5] 26)).cell; go_wp2_with fail
      refine hK.out _ _ trivial (fun hHeld => ?_)
      clear hK K
      (try simp only [List.getElem_toArray, List.getElem_cons_succ, List.getElem_cons_zero, Act.put, List.setIfInBounds_toArray, List.set_cons_zero, List.set_cons_succ])
      refine wpAnyH_ready (rs := [0, 3]) (by kernel_rfl) (by simp) ?_
      refine AllReadyH.cons rfl (fun K hK => ?_) (AllReadyH.cons rfl (fun K hK => ?_) AllReadyH.nil)
      · go_simp
        refine hK.out _ _ trivial (fun hHeld => ?_)
        clear hK K
        (try simp only [List.getElem_toArray, List.getElem_cons_succ, List.getElem_cons_zero, Act.put, List.setIfInBounds_toArray, List.set_cons_zero, List.set_cons_succ])
        refine wpAnyH_ready (rs := [3]) (by kernel_rfl) (by simp) ?_
        refine AllReadyH.cons rfl (fun K hK => ?_) AllReadyH.nil
        go_simp
        refine hK.out _ _ trivial (fun hHeld => ?_)
        clear hK K
        (try simp only [List.getElem_toArray, List.getElem_cons_succ, List.getElem_cons_zero, Act.put, List.setIfInBounds_toArray, List.set_cons_zero, List.set_cons_succ])
        refine wpAnyH_ready (rs := [4]) (by kernel_rfl) (by simp) ?_
        refine AllReadyH.cons rfl (fun K hK => ?_) AllReadyH.nil
        refine step_append_rowat (hout5.alloc (.cells #[.slice A5 list.length k5] 26)) (by have := b5.size; simp; omega) (.tmp 29) (.tmp 32) (Box.new w5 26 (.slice A5 list.length k5)).cell rfl (by omega) ⟨rfl, rfl, rfl, rfl⟩ ?_; intro v6 w6 own6 gr6 at6; obtain ⟨A6, k6, rfl, -, -, -⟩ := (Own.of_row own6).slice; have hbo6 := (hbo5.alloc (.cells #[.slice A5 list.length k5] 26)).grown gr6 ((hbo5.alloc (.cells #[.slice A5 list.length k5] 26)).ne_own (hout5.alloc (.cells #[.slice A5 list.length k5] 26)) (by decide)); have cO6 := hbo6.cell; have fO6 := hbo6.free
        refine hK.out _ _ trivial (fun hHeld => ?_)
        clear hK K
        (try simp only [List.getElem_toArray, List.getElem_cons_succ, List.getElem_cons_zero, Act.put, List.setIfInBounds_toArray, List.set_cons_zero, List.set_cons_succ])
        refine wpAnyH_ready (rs := [5]) (by kernel_rfl) (by simp) ?_
        refine AllReadyH.cons rfl (fun K hK => ?_) AllReadyH.nil
        go_simp
        refine hK.out _ _ trivial (fun hHeld => ?_)
        clear hK K
        (try simp only [List.getElem_toArray, List.getElem_cons_succ, List.getElem_cons_zero, Act.put, List.setIfInBounds_toArray, List.set_cons_zero, List.set_cons_succ])
        refine wpAnyH_done (by kernel_rfl) ?_ _
        first | refine NoPanic.normal ?_ | skip
        clear hHeld
        go_wp2
        refine bodyPost_ret (v := .tuple #[]) (by simp [results, go_sem]) rfl ?_
        exact ext_leaf hbo5 hout5 rows5 o5 b5 hlo HLT.out own6 gr6 at6
      · go_simp
        refine hK.out _ _ trivial (fun hHeld => ?_)
        clear hK K
        (try simp only [List.getElem_toArray, List.getElem_cons_succ, List.getElem_cons_zero, Act.put, List.setIfInBounds_toArray, List.set_cons_zero, List.set_cons_succ])
        refine wpAnyH_ready (rs := [0]) (by kernel_rfl) (by simp) ?_
        refine AllReadyH.cons rfl (fun K hK => ?_) AllReadyH.nil
        go_simp
        refine hK.out _ _ trivial (fun hHeld => ?_)
        clear hK K
        (try simp only [List.getElem_toArray, List.getElem_cons_succ, List.getElem_cons_zero, Act.put, List.setIfInBounds_toArray, List.set_cons_zero, List.set_cons_succ])
        refine wpAnyH_ready (rs := [4]) (by kernel_rfl) (by simp) ?_
        refine AllReadyH.cons rfl (fun K hK => ?_) AllReadyH.nil
        refine step_append_rowat (hout5.alloc (.cells #[.slice A5 list.length k5] 26)) (by have := b5.size; simp; omega) (.tmp 29) (.tmp 32) (Box.new w5 26 (.slice A5 list.length k5)).cell rfl (by omega) ⟨rfl, rfl, rfl, rfl⟩ ?_; intro v6 w6 own6 gr6 at6; obtain ⟨A6, k6, rfl, -, -, -⟩ := (Own.of_row own6).slice; have hbo6 := (hbo5.alloc (.cells #[.slice A5 list.length k5] 26)).grown gr6 ((hbo5.alloc (.cells #[.slice A5 list.length k5] 26)).ne_own (hout5.alloc (.cells #[.slice A5 list.length k5] 26)) (by decide)); have cO6 := hbo6.cell; have fO6 := hbo6.free
        refine hK.out _ _ trivial (fun hHeld => ?_)
        clear hK K
        (try simp only [List.getElem_toArray, List.getElem_cons_succ, List.getElem_cons_zero, Act.put, List.setIfInBounds_toArray, List.set_cons_zero, List.set_cons_succ])
        refine wpAnyH_ready (rs := [5]) (by kernel_rfl) (by simp) ?_
        refine AllReadyH.cons rfl (fun K hK => ?_) AllReadyH.nil
        go_simp
        refine hK.out _ _ trivial (fun hHeld => ?_)
        clear hK K
        (try simp only [List.getElem_toArray, List.getElem_cons_succ, List.getElem_cons_zero, Act.put, List.setIfInBounds_toArray, List.set_cons_zero, List.set_cons_succ])
        refine wpAnyH_done (by kernel_rfl) ?_ _
        first | refine NoPanic.normal ?_ | skip
        clear hHeld
        go_wp2
        refine bodyPost_ret (v := .tuple #[]) (by simp [results, go_sem]) rfl ?_
        exact ext_leaf hbo5 hout5 rows5 o5 b5 hlo HLT.out own6 gr6 at6
  · have hlt2 : at_ < zs.length := by omega
    have x5 : ((at_ : Int) == (zs.length : Int)) = false := by simp; omega
    have x6 : (at_ == zs.length) = false := by simpa using heq
    have hsuf : zs.drop at_ ≠ [] := fun h => by have := congrArg List.length h; simp at this; omega
    have HA := Lib.hid (curR_all (l := l) (suf := zs.drop at_) (head := list) (out := out) (most := most) hE.out hsuf)
    have own1 : w.ownsRow lo 26 1 (.slice Av out.length kv) (curR l (zs.drop at_) list out most 0).length vs := by rw [curR_zero]; exact hout
    have row1 : RowsAt w lo vs (curR l (zs.drop at_) list out most 0) := by rw [curR_zero]; exact hrows
    have hin : ∀ args W, (callFunc 63 args).run Tryz.prog W = .ok (.enter 63 args) W := fun args W => run_enter Tryz.func63 (by kernel_rfl) rfl args W
    have cD := hcap.d.cell
    have HLE := Lib.hid (fun k => curR_len (l := l) (suf := zs.drop at_) (head := list) (k := k) hlen)
    obtain ⟨v, hvd⟩ : ∃ v, v = Value.slice Av out.length kv := ⟨_, rfl⟩
    rw [← hvd] at hbo hout hvc hvs own1 ⊢
    rw [← hvd] at cO
    have cO' : w.cell? ⟨bo, 0, none⟩ = some (.slice Av out.length kv) := by rw [← hvd]; exact cO
    rw [← HA.out]
    clear hsuf heq cO
    go_enter Tryz.func63, Tryz.ntmps63
    go_wp2
    clear cO' x1 x2 x3 x4 x5 x6 cM cC cS cD cN
    go_loopw [37] (fun j wr => ∃ (k : Nat) (v' : Value) (vs' : List Value), k ≤ l.length ∧ j = .int .i64 k ∧ Box wr bo 41 v' ∧ wr.ownsRow lo 26 1 v' (curR l (zs.drop at_) list out most k).length vs' ∧ RowsAt wr lo vs' (curR l (zs.drop at_) list out most k) ∧ Frame2 bo v.ownBlock w wr ∧ (v'.ownBlock = v.ownBlock ∨ ∃ g, v'.ownBlock = some g ∧ w.heap.size ≤ g)) (fun j _ => l.length - (intOf j).toNat)
    case atStart => exact ⟨0, v, vs, Nat.zero_le _, rfl, hbo, own1, row1, Frame2.refl _, .inl rfl⟩
    case round =>
      obtain ⟨k, v', vs', hk, rfl, hbo', ho', hrows', hfr, hat6⟩ := hrel
      clear own1 row1
      by_cases hkl : k < l.length
      · have bel : Below lo w wr := hfr.below hlo hlb (fun g hg => (hout.lt g hg).1)
        have hcap' := hcap.f2 hbo hout hfr hvc hvs
        have hcnt' := row_f2 hcnt hfr (hbo.ne_own hcnt (by decide)) (apart_or hcnt hout (by decide))
        have hlist' := row_f2 hlist hfr (hbo.ne_own hlist (by decide)) (apart_or hlist hout (by decide))
        have hvc' : v'.ownBlock ≠ some bc := by
          rcases hat6 with h | ⟨g, h, hg⟩
          · rw [h]; exact hvc
          · rw [h]; intro e; injection e; have := hcap.c.lt; omega
        have hvs' : v'.ownBlock ≠ some bs := by
          rcases hat6 with h | ⟨g, h, hg⟩
          · rw [h]; exact hvs
          · rw [h]; intro e; injection e; have := hcap.s.lt; omega
        have HAT := Lib.hid hat6
        have HVB := Lib.hid (show ∀ g, v'.ownBlock = some g → g < wr.heap.size from fun g hg => (ho'.lt g hg).2)
        obtain ⟨b, off, rfl, hb0, hcc⟩ := (hr.below bel) (by omega)
        obtain ⟨bz, oz, rfl, hz0, -⟩ := (hz.below bel).2 (by omega)
        obtain ⟨⟨o, t⟩, hx⟩ := some_at l hkl
        obtain ⟨ao, co, c1, c2, r1, hco, hcom⟩ := DictR.at_ hcc hx
        have hol := dict_out HV.out hx
        simp only at hol
        have hlw : lo ≤ wr.heap.size := Nat.le_trans hlo hfr.size
        have i2 : (0 : Int) ≤ (k : Int) := by omega
        have i3 : (k : Int) < (l.length : Int) := by omega
        have i4 : (at_ : Int) ≤ (cb : Int) := by omega
        have i5 : at_ ≤ zs.length := by omega
        have hqc : ¬ cb = at_ := by omega
        have hdl : (zs.drop at_).length = zs.length - at_ := by simp
        have ba := (Below.refl wr.heap.size wr).alloc (Nat.le_refl _) (.cells #[.slice ao o.length co, .string t] 50)
        have ta := Two.new wr 50 (.slice ao o.length co) (.string t)
        obtain ⟨g, hgg⟩ : ∃ g, g = wr.heap.size := ⟨_, rfl⟩
        have HX := Lib.hid hx
        have HIN := Lib.hid hin
        have HGG := Lib.hid hgg
        clear hx hat6 hin
        go_upto_region 6 with (fail)
        rw [← hgg] at ta
        generalize hX : wr.alloc (.cells #[.slice ao o.length co, .string t] 50) = xr at *
        try rw [← hgg]
        clear hX
        have hcapx := hcap'.far ba
        have cSx := hcapx.s.cell
        have g1 := ta.cell0
        have hzx : wr.heap.size ≤ xr.heap.size := ba.size
        have hp1 : (⟨bs, 0, none⟩ : Addr).block < xr.heap.size := hcapx.s.lt
        have hp2 : (⟨g, 0, none⟩ : Addr).block < xr.heap.size := ta.lt
        have HB := Lib.hid (show ∀ W, Below xr.heap.size xr W → Calls Tryz.prog 53 #[.slice (some ⟨bz, oz + at_, none⟩) (zs.length - at_) (cb - at_), .slice ao o.length co] W fun e w' => e = .returned (.bool (beginsB (zs.drop at_) o)) ∧ Below W.heap.size W w' from fun W hW => by
          have h := impl_startsWith (some ⟨bz, oz + at_, none⟩) ao (cb - at_) co (zs.drop at_) o W (((((((hz.below bel).back at_).more hlw).below ba).more hzx).below hW).more hW.size) (((((r1.more hlw).below ba).more hzx).below hW).more hW.size) (by rw [hdl]; omega) (by omega) (by rw [hdl]; omega) (by unfold maxLen; omega)
          rw [hdl] at h
          exact h)
        cases hbg : beginsB (zs.drop at_) o
        · have HBG := Lib.hid hbg
          have HNO := Lib.hid (curR_no (head := list) (out := out) (most := most) HX.out hbg)
          clear hbg hcc r1 c1 c2 hgg
          go_wp2
          have S0 : xr.cell? ⟨bs, 0, none⟩ = some (.slice (some ⟨bz, oz, none⟩) zs.length cb) ∧ xr.cell? ⟨g, 0, none⟩ = some (.slice ao o.length co) ∧ Below xr.heap.size xr xr := ⟨by assumption, by assumption, Below.refl _ _⟩
          first | refine wp_region_noPanic ?_ | skip
          refine wp_region_held_drew (S := fun w' => w'.cell? ⟨bs, 0, none⟩ = some (.slice (some ⟨bz, oz, none⟩) zs.length cb) ∧ w'.cell? ⟨g, 0, none⟩ = some (.slice ao o.length co) ∧ Below xr.heap.size xr w') (by kernel_rfl) (by first | exact S0 | exact held2_drew S0 | assumption | exact held2_step hp1 hp2 S0 (by assumption) | exact held2_step hp1 hp2 (by assumption) (by assumption) | exact held2_drew (by assumption)) (fun hHeld => ?_)
          (refine wpAnyH_take (i := 0) (v := ?_) rfl (by kernel_rfl) (by kernel_rfl) (by kernel_rfl) (fun _ _ _ h => h) (Or.inl ⟨by rfl, ?_⟩) (by assumption) ?_; rotate_left; focus (intro w hSw; (try dsimp only at hSw); go_simp; try with_reducible rfl))
          (try simp only [List.getElem_toArray, List.getElem_cons_succ, List.getElem_cons_zero, Act.put, List.setIfInBounds_toArray, List.set_cons_zero, List.set_cons_succ])
          (refine wpAnyH_take (i := 1) (v := ?_) rfl (by kernel_rfl) (by kernel_rfl) (by kernel_rfl) (fun _ _ _ h => h) (Or.inl ⟨by rfl, ?_⟩) (by assumption) ?_; rotate_left; focus (intro w hSw; (try dsimp only at hSw); go_simp; try with_reducible rfl))
          (try simp only [List.getElem_toArray, List.getElem_cons_succ, List.getElem_cons_zero, Act.put, List.setIfInBounds_toArray, List.set_cons_zero, List.set_cons_succ])
          (refine wpAnyH_take (i := 2) (v := ?_) rfl (by kernel_rfl) (by kernel_rfl) (by kernel_rfl) (fun _ _ _ h => h) (Or.inl ⟨by rfl, ?_⟩) (by assumption) ?_; rotate_left; focus (intro w hSw; (try dsimp only at hSw); go_simp; try with_reducible rfl))
          (try simp only [List.getElem_toArray, List.getElem_cons_succ, List.getElem_cons_zero, Act.put, List.setIfInBounds_toArray, List.set_cons_zero, List.set_cons_succ])
          (refine wpAnyH_take (i := 3) (v := ?_) rfl (by kernel_rfl) (by kernel_rfl) (by kernel_rfl) (fun _ _ _ h => h) (Or.inl ⟨by rfl, ?_⟩) (by assumption) ?_; rotate_left; focus (intro w hSw; (try dsimp only at hSw); go_simp; try with_reducible rfl))
          (try simp only [List.getElem_toArray, List.getElem_cons_succ, List.getElem_cons_zero, Act.put, List.setIfInBounds_toArray, List.set_cons_zero, List.set_cons_succ])
          (refine wpAnyH_take (i := 4) (v := ?_) rfl (by kernel_rfl) (by kernel_rfl) (by kernel_rfl) (fun _ _ _ h => h) (Or.inl ⟨by rfl, ?_⟩) (by assumption) ?_; rotate_left; focus (intro w hSw; (try dsimp only at hSw); go_simp; try with_reducible rfl))
          (try simp only [List.getElem_toArray, List.getElem_cons_succ, List.getElem_cons_zero, Act.put, List.setIfInBounds_toArray, List.set_cons_zero, List.set_cons_succ])
          refine wpAnyH_ready (rs := [5]) (by kernel_rfl) (by simp) ?_
          refine AllReadyH.cons rfl (fun K hK => ?_) AllReadyH.nil
          go_simp
          (with_reducible refine (HB.out _ (held2_below (by assumption))).mono ?_); rw [HBG.out]; rintro e w9 ⟨rfl, b9⟩; go_wp2_with fail
          refine hK.out _ _ (by first | exact S0 | exact held2_drew S0 | assumption | exact held2_step hp1 hp2 S0 (by assumption) | exact held2_step hp1 hp2 (by assumption) (by assumption) | exact held2_drew (by assumption)) (fun hHeld => ?_)
          clear hK K
          (try simp only [List.getElem_toArray, List.getElem_cons_succ, List.getElem_cons_zero, Act.put, List.setIfInBounds_toArray, List.set_cons_zero, List.set_cons_succ])
          refine wpAnyH_done (by kernel_rfl) ?_ _
          first | refine NoPanic.normal ?_ | skip
          have SZ : w9.cell? ⟨bs, 0, none⟩ = some (.slice (some ⟨bz, oz, none⟩) zs.length cb) ∧ w9.cell? ⟨g, 0, none⟩ = some (.slice ao o.length co) ∧ Below xr.heap.size xr w9 := by assumption
          have bz9 := held2_below SZ
          have B9 := ba.trans (bz9.mono hzx)
          clear S0 SZ hHeld
          go_wp2
          go_roundw
          case rel => exact ⟨k + 1, v', vs', by omega, by go_num, hbo'.far B9, by rw [HNO.out]; exact row_below ho' B9, by rw [HNO.out]; exact hrows'.below B9, hfr.trans (v1 := v) (Frame2.of_below B9) (.inl rfl), HAT.out⟩
          case measure => simp [intOf]; omega
        · have HBG := Lib.hid hbg
          have hle := begins_le hbg
          rw [hdl] at hle
          have HY := Lib.hid (curR_yes (head := list) (out := out) (most := most) HX.out hbg)
          simp only at HY
          clear hbg hcc r1 c1 c2 hgg
          go_wp2
          have S0 : xr.cell? ⟨bs, 0, none⟩ = some (.slice (some ⟨bz, oz, none⟩) zs.length cb) ∧ xr.cell? ⟨g, 0, none⟩ = some (.slice ao o.length co) ∧ Below xr.heap.size xr xr := ⟨by assumption, by assumption, Below.refl _ _⟩
          first | refine wp_region_noPanic ?_ | skip
          refine wp_region_held_drew (S := fun w' => w'.cell? ⟨bs, 0, none⟩ = some (.slice (some ⟨bz, oz, none⟩) zs.length cb) ∧ w'.cell? ⟨g, 0, none⟩ = some (.slice ao o.length co) ∧ Below xr.heap.size xr w') (by kernel_rfl) (by first | exact S0 | exact held2_drew S0 | assumption | exact held2_step hp1 hp2 S0 (by assumption) | exact held2_step hp1 hp2 (by assumption) (by assumption) | exact held2_drew (by assumption)) (fun hHeld => ?_)
          (refine wpAnyH_take (i := 0) (v := ?_) rfl (by kernel_rfl) (by kernel_rfl) (by kernel_rfl) (fun _ _ _ h => h) (Or.inl ⟨by rfl, ?_⟩) (by assumption) ?_; rotate_left; focus (intro w hSw; (try dsimp only at hSw); go_simp; try with_reducible rfl))
          (try simp only [List.getElem_toArray, List.getElem_cons_succ, List.getElem_cons_zero, Act.put, List.setIfInBounds_toArray, List.set_cons_zero, List.set_cons_succ])
          (refine wpAnyH_take (i := 1) (v := ?_) rfl (by kernel_rfl) (by kernel_rfl) (by kernel_rfl) (fun _ _ _ h => h) (Or.inl ⟨by rfl, ?_⟩) (by assumption) ?_; rotate_left; focus (intro w hSw; (try dsimp only at hSw); go_simp; try with_reducible rfl))
          (try simp only [List.getElem_toArray, List.getElem_cons_succ, List.getElem_cons_zero, Act.put, List.setIfInBounds_toArray, List.set_cons_zero, List.set_cons_succ])
          (refine wpAnyH_take (i := 2) (v := ?_) rfl (by kernel_rfl) (by kernel_rfl) (by kernel_rfl) (fun _ _ _ h => h) (Or.inl ⟨by rfl, ?_⟩) (by assumption) ?_; rotate_left; focus (intro w hSw; (try dsimp only at hSw); go_simp; try with_reducible rfl))
          (try simp only [List.getElem_toArray, List.getElem_cons_succ, List.getElem_cons_zero, Act.put, List.setIfInBounds_toArray, List.set_cons_zero, List.set_cons_succ])
          (refine wpAnyH_take (i := 3) (v := ?_) rfl (by kernel_rfl) (by kernel_rfl) (by kernel_rfl) (fun _ _ _ h => h) (Or.inl ⟨by rfl, ?_⟩) (by assumption) ?_; rotate_left; focus (intro w hSw; (try dsimp only at hSw); go_simp; try with_reducible rfl))
          (try simp only [List.getElem_toArray, List.getElem_cons_succ, List.getElem_cons_zero, Act.put, List.setIfInBounds_toArray, List.set_cons_zero, List.set_cons_succ])
          (refine wpAnyH_take (i := 4) (v := ?_) rfl (by kernel_rfl) (by kernel_rfl) (by kernel_rfl) (fun _ _ _ h => h) (Or.inl ⟨by rfl, ?_⟩) (by assumption) ?_; rotate_left; focus (intro w hSw; (try dsimp only at hSw); go_simp; try with_reducible rfl))
          (try simp only [List.getElem_toArray, List.getElem_cons_succ, List.getElem_cons_zero, Act.put, List.setIfInBounds_toArray, List.set_cons_zero, List.set_cons_succ])
          refine wpAnyH_ready (rs := [5]) (by kernel_rfl) (by simp) ?_
          refine AllReadyH.cons rfl (fun K hK => ?_) AllReadyH.nil
          go_simp
          (with_reducible refine (HB.out _ (held2_below (by assumption))).mono ?_); rw [HBG.out]; rintro e w9 ⟨rfl, b9⟩; go_wp2_with fail
          refine hK.out _ _ (by first | exact S0 | exact held2_drew S0 | assumption | exact held2_step hp1 hp2 S0 (by assumption) | exact held2_step hp1 hp2 (by assumption) (by assumption) | exact held2_drew (by assumption)) (fun hHeld => ?_)
          clear hK K
          (try simp only [List.getElem_toArray, List.getElem_cons_succ, List.getElem_cons_zero, Act.put, List.setIfInBounds_toArray, List.set_cons_zero, List.set_cons_succ])
          refine wpAnyH_done (by kernel_rfl) ?_ _
          first | refine NoPanic.normal ?_ | skip
          have SZ : w9.cell? ⟨bs, 0, none⟩ = some (.slice (some ⟨bz, oz, none⟩) zs.length cb) ∧ w9.cell? ⟨g, 0, none⟩ = some (.slice ao o.length co) ∧ Below xr.heap.size xr w9 := by assumption
          have bz9 := held2_below SZ
          have B9 := ba.trans (bz9.mono hzx)
          clear S0 SZ hHeld g1 cSx
          have hcap9 := hcap'.far B9
          have ta9 := ta.far bz9
          have hbo9 := hbo'.far B9
          have ho9 := row_below ho' B9
          have rows9 := hrows'.below B9
          have fr9 : Frame2 bo v.ownBlock w w9 := hfr.trans (v1 := v) (Frame2.of_below B9) (.inl rfl)
          have bel9 := bel.trans (B9.mono hlw)
          have hcnt9 := row_below hcnt' B9
          have hlist9 := row_below hlist' B9
          have hl9 : lo ≤ w9.heap.size := Nat.le_trans hlw B9.size
          have hgbo : g ≠ bo := by have := hbo'.lt; have := HGG.out; omega
          have hgv : v'.ownBlock ≠ some g := fun e => by have := HVB.out g e; have := HGG.out; omega
          have hin := HIN.out
          have cE9 := hcap9.e.cell
          have cG9 := ta9.cell0
          obtain ⟨hk', hhk⟩ : ∃ hk', hk' = list ++ [(k : Int)] := ⟨_, rfl⟩
          have hkl' : hk'.length = list.length + 1 := by rw [hhk]; simp
          have bA : Below w9.heap.size w9 (w9.alloc (.cells #[.int .i64 (k : Int)] 3)).drew := ((Below.refl _ _).alloc (Nat.le_refl _) _).drew
          have HBA := Lib.hid bA
          have cEA := (hcap9.e.far bA).cell
          have cGA := (ta9.far bA).cell0
          have HLC := Lib.hid (show ∀ j u, (ints list)[j]? = some u → (w9.alloc (.cells #[.int .i64 (k : Int)] 3)).drew.cell? ⟨hg, 0 + j, none⟩ = some u from fun j u hj => by
            by_cases h0 : 0 < list.length
            · obtain ⟨b2, o2, he2, -, hc2⟩ := (Reads.of_own (row_below hlist9 bA)).2 h0
              injection he2 with he2
              injection he2 with h1 h2
              subst h1 h2
              exact hc2 j u hj
            · have := (List.getElem?_eq_some_iff.1 hj).1
              simp [ints] at this
              omega)
          have HOJ := Lib.hid (show ∀ (B : Nat) (vj : Value) (w5 : World), w5.ownsRow B 3 1 vj (list.length + 1) (ints list ++ [.int .i64 (k : Int)]) → ∃ gj cj, vj = .slice (some ⟨gj, 0, none⟩) hk'.length cj ∧ w5.ownsRow 0 3 1 (.slice (some ⟨gj, 0, none⟩) hk'.length cj) hk'.length (ints hk') from fun B vj w5 oj => by
            obtain ⟨gj, cj, rfl, -⟩ := (Own.of_row oj).open_ (by omega)
            refine ⟨gj, cj, by rw [hkl'], ?_⟩
            have e : ints hk' = ints list ++ [.int .i64 (k : Int)] := by rw [hhk]; simp [ints]
            rw [e, hkl']
            exact oj.base (Nat.zero_le _))
          have HREC := Lib.hid (show ∀ gj cj w5, Below w9.heap.size w9 w5 → w5.ownsRow 0 3 1 (.slice (some ⟨gj, 0, none⟩) hk'.length cj) hk'.length (ints hk') →
              Calls Tryz.prog 63 #[.slice (some ⟨gj, 0, none⟩) hk'.length cj, .int .i64 ((at_ : Int) + (o.length : Int)), .pointer (some ⟨bo, 0, none⟩), .pointer (some ⟨bm, 0, none⟩), .pointer (some ⟨bc, 0, none⟩), .pointer (some ⟨bs, 0, none⟩), .pointer (some ⟨bd, 0, none⟩), .pointer (some ⟨be, 0, none⟩)] w5 (ExtRes lo bo v' (curR l (zs.drop at_) list out most (k + 1)) w5) from fun gj cj w5 h5 o5 => by
            have bel5 := bel9.trans (h5.mono hl9)
            have h := HI.out (at_ + o.length) (by omega) (by omega) hk' gj cj v' vs' (curR l (zs.drop at_) list out most k) w5 (Nat.le_trans hl9 h5.size) hlb (hcap9.far h5) (hbo9.far h5) hvc' hvs' (hr.below bel5) (hz.below bel5) (row_below hcnt9 h5) o5 (row_below ho9 h5) (rows9.below h5) (HLE.out k) (by omega)
            rw [Int.natCast_add, ← List.drop_drop, hhk, ← HY.out, ← hhk] at h
            exact h)
          have x1 : IntKind.i64.wrap ((at_ : Int) + (o.length : Int)) = (at_ : Int) + (o.length : Int) := IntWalk.i64_in _ (by omega)
          have hll2 : list.length ≤ ch := by
            obtain ⟨A', c', he', -, hle', -⟩ := (Own.of_row hlist9).slice
            injection he' with _ _ hch
            omega
          clear hhk hkl' bA
          go_wp2
          first | refine wp_region_noPanic ?_ | skip
          refine wp_region_held_drew (S := fun w' => w'.cell? ⟨be, 0, none⟩ = some (.func (.func 63) #[] #[.pointer (some ⟨bo, 0, none⟩), .pointer (some ⟨bm, 0, none⟩), .pointer (some ⟨bc, 0, none⟩), .pointer (some ⟨bs, 0, none⟩), .pointer (some ⟨bd, 0, none⟩), .pointer (some ⟨be, 0, none⟩)]) ∧ w'.cell? ⟨g, 0, none⟩ = some (.slice ao o.length co)) (by kernel_rfl) (by first | exact ⟨cE9, cG9⟩ | exact ⟨cEA, cGA⟩ | assumption) (fun hHeld => ?_)
          (refine wpAnyH_take (i := 0) (v := ?_) rfl (by kernel_rfl) (by kernel_rfl) (by kernel_rfl) (fun _ _ _ h => h) (Or.inl ⟨by rfl, ?_⟩) (by assumption) ?_; rotate_left; focus (intro w hSw; (try dsimp only at hSw); go_simp; try with_reducible rfl))
          (try simp only [List.getElem_toArray, List.getElem_cons_succ, List.getElem_cons_zero, Act.put, List.setIfInBounds_toArray, List.set_cons_zero, List.set_cons_succ])
          (refine wpAnyH_take (i := 1) (v := ?_) rfl (by kernel_rfl) (by kernel_rfl) (by kernel_rfl) (fun _ _ _ h => h) (Or.inl ⟨by rfl, ?_⟩) (by assumption) ?_; rotate_left; focus (intro w hSw; (try dsimp only at hSw); go_simp; try with_reducible rfl))
          (try simp only [List.getElem_toArray, List.getElem_cons_succ, List.getElem_cons_zero, Act.put, List.setIfInBounds_toArray, List.set_cons_zero, List.set_cons_succ])
          (refine wpAnyH_take (i := 2) (v := ?_) rfl (by kernel_rfl) (by kernel_rfl) (by kernel_rfl) (fun _ _ _ h => h) (Or.inl ⟨by rfl, ?_⟩) (by assumption) ?_; rotate_left; focus (intro w hSw; (try dsimp only at hSw); go_simp; try with_reducible rfl))
          (try simp only [List.getElem_toArray, List.getElem_cons_succ, List.getElem_cons_zero, Act.put, List.setIfInBounds_toArray, List.set_cons_zero, List.set_cons_succ])
          (refine wpAnyH_take (i := 3) (v := ?_) rfl (by kernel_rfl) (by kernel_rfl) (by kernel_rfl) (fun _ _ _ h => h) (Or.inl ⟨by rfl, ?_⟩) (by assumption) ?_; rotate_left; focus (intro w hSw; (try dsimp only at hSw); go_simp; try with_reducible rfl))
          (try simp only [List.getElem_toArray, List.getElem_cons_succ, List.getElem_cons_zero, Act.put, List.setIfInBounds_toArray, List.set_cons_zero, List.set_cons_succ])
          (refine wpAnyH_take (i := 4) (v := ?_) rfl (by kernel_rfl) (by kernel_rfl) (by kernel_rfl) (fun _ _ _ h => h) (Or.inl ⟨by rfl, ?_⟩) (by assumption) ?_; rotate_left; focus (intro w hSw; (try dsimp only at hSw); go_simp; try with_reducible rfl))
          (try simp only [List.getElem_toArray, List.getElem_cons_succ, List.getElem_cons_zero, Act.put, List.setIfInBounds_toArray, List.set_cons_zero, List.set_cons_succ])
          (refine wpAnyH_take (i := 5) (v := ?_) rfl (by kernel_rfl) (by kernel_rfl) (by kernel_rfl) (fun _ _ _ h => h) (Or.inl ⟨by rfl, ?_⟩) (by assumption) ?_; rotate_left; focus (intro w hSw; (try dsimp only at hSw); go_simp; try with_reducible rfl))
          (try simp only [List.getElem_toArray, List.getElem_cons_succ, List.getElem_cons_zero, Act.put, List.setIfInBounds_toArray, List.set_cons_zero, List.set_cons_succ])
          (refine wpAnyH_take (i := 6) (v := ?_) rfl (by kernel_rfl) (by kernel_rfl) (by kernel_rfl) (fun _ _ _ h => h) (Or.inl ⟨by rfl, ?_⟩) (by assumption) ?_; rotate_left; focus (intro w hSw; (try dsimp only at hSw); go_simp; try with_reducible rfl))
          (try simp only [List.getElem_toArray, List.getElem_cons_succ, List.getElem_cons_zero, Act.put, List.setIfInBounds_toArray, List.set_cons_zero, List.set_cons_succ])
          (refine wpAnyH_take (i := 7) (v := ?_) rfl (by kernel_rfl) (by kernel_rfl) (by kernel_rfl) (fun _ _ _ h => h) (Or.inl ⟨by rfl, ?_⟩) (by assumption) ?_; rotate_left; focus (intro w hSw; (try dsimp only at hSw); go_simp; try with_reducible rfl))
          (try simp only [List.getElem_toArray, List.getElem_cons_succ, List.getElem_cons_zero, Act.put, List.setIfInBounds_toArray, List.set_cons_zero, List.set_cons_succ])
          (refine wpAnyH_take (i := 10) (v := ?_) rfl (by kernel_rfl) (by kernel_rfl) (by kernel_rfl) (fun _ _ _ h => h) (Or.inl ⟨by rfl, ?_⟩) (by assumption) ?_; rotate_left; focus (intro w hSw; (try dsimp only at hSw); go_simp; try with_reducible rfl))
          (try simp only [List.getElem_toArray, List.getElem_cons_succ, List.getElem_cons_zero, Act.put, List.setIfInBounds_toArray, List.set_cons_zero, List.set_cons_succ])
          (refine wpAnyH_take (i := 11) (v := ?_) rfl (by kernel_rfl) (by kernel_rfl) (by kernel_rfl) (fun _ _ _ h => h) (Or.inl ⟨by rfl, ?_⟩) (by assumption) ?_; rotate_left; focus (intro w hSw; (try dsimp only at hSw); go_simp; try with_reducible rfl))
          (try simp only [List.getElem_toArray, List.getElem_cons_succ, List.getElem_cons_zero, Act.put, List.setIfInBounds_toArray, List.set_cons_zero, List.set_cons_succ])
          (refine wpAnyH_take (i := 12) (v := ?_) rfl (by kernel_rfl) (by kernel_rfl) (by kernel_rfl) (fun _ _ _ h => h) (Or.inl ⟨by rfl, ?_⟩) (by assumption) ?_; rotate_left; focus (intro w hSw; (try dsimp only at hSw); go_simp; try with_reducible rfl))
          (try simp only [List.getElem_toArray, List.getElem_cons_succ, List.getElem_cons_zero, Act.put, List.setIfInBounds_toArray, List.set_cons_zero, List.set_cons_succ])
          (refine wpAnyH_take (i := 13) (v := ?_) rfl (by kernel_rfl) (by kernel_rfl) (by kernel_rfl) (fun _ _ _ h => h) (Or.inl ⟨by rfl, ?_⟩) (by assumption) ?_; rotate_left; focus (intro w hSw; (try dsimp only at hSw); go_simp; try with_reducible rfl))
          (try simp only [List.getElem_toArray, List.getElem_cons_succ, List.getElem_cons_zero, Act.put, List.setIfInBounds_toArray, List.set_cons_zero, List.set_cons_succ])
          (refine wpAnyH_take (i := 14) (v := ?_) rfl (by kernel_rfl) (by kernel_rfl) (by kernel_rfl) (fun _ _ _ h => h) (Or.inl ⟨by rfl, ?_⟩) (by assumption) ?_; rotate_left; focus (intro w hSw; (try dsimp only at hSw); go_simp; try with_reducible rfl))
          (try simp only [List.getElem_toArray, List.getElem_cons_succ, List.getElem_cons_zero, Act.put, List.setIfInBounds_toArray, List.set_cons_zero, List.set_cons_succ])
          refine wpAnyH_ready (rs := [8]) (by kernel_rfl) (by simp) ?_
          refine AllReadyH.cons rfl (fun K hK => ?_) AllReadyH.nil
          go_simp
          skip
          refine hK.out _ _ (by first | exact ⟨cE9, cG9⟩ | exact ⟨cEA, cGA⟩ | assumption) (fun hHeld => ?_)
          clear hK K
          (try simp only [List.getElem_toArray, List.getElem_cons_succ, List.getElem_cons_zero, Act.put, List.setIfInBounds_toArray, List.set_cons_zero, List.set_cons_succ])
          refine wpAnyH_ready (rs := [9]) (by kernel_rfl) (by simp) ?_
          refine AllReadyH.cons rfl (fun K hK => ?_) AllReadyH.nil
          refine step_append_new (g := hg) (n := list.length) (xs := ints list) HLC.out (by simp [ints]) (.tmp 54) (.tmp 56) (Box.new w9 3 (.int .i64 (k : Int))).cell rfl (by omega) ⟨rfl, rfl, rfl, rfl⟩ ?_; intro vj w5 oj grj; obtain ⟨gj, cj, rfl, oj'⟩ := HOJ.out _ _ _ oj; have bj := HBA.out.trans (grown_below9 grj HBA.out.size (fun g h => by cases h)); have c5 : w5.cell? ⟨be, 0, none⟩ = some (.func (.func 63) #[] #[.pointer (some ⟨bo, 0, none⟩), .pointer (some ⟨bm, 0, none⟩), .pointer (some ⟨bc, 0, none⟩), .pointer (some ⟨bs, 0, none⟩), .pointer (some ⟨bd, 0, none⟩), .pointer (some ⟨be, 0, none⟩)]) ∧ w5.cell? ⟨g, 0, none⟩ = some (.slice ao o.length co) := ⟨(hcap9.e.far bj).cell, (ta9.far bj).cell0⟩
          refine hK.out _ _ (by first | exact ⟨cE9, cG9⟩ | exact ⟨cEA, cGA⟩ | assumption) (fun hHeld => ?_)
          clear hK K
          (try simp only [List.getElem_toArray, List.getElem_cons_succ, List.getElem_cons_zero, Act.put, List.setIfInBounds_toArray, List.set_cons_zero, List.set_cons_succ])
          refine wpAnyH_ready (rs := [15]) (by kernel_rfl) (by simp) ?_
          refine AllReadyH.cons rfl (fun K hK => ?_) AllReadyH.nil
          go_simp
          (with_reducible refine (HREC.out gj cj _ (by exact bj) (by exact oj')).mono ?_); rintro e w6 ⟨v6, vs6, rfl, bo6, o6, rows6, f6, at6⟩; have ho5 := row_below ho9 bj; have hbo5 := hbo9.far bj; have c6 : w6.cell? ⟨be, 0, none⟩ = some (.func (.func 63) #[] #[.pointer (some ⟨bo, 0, none⟩), .pointer (some ⟨bm, 0, none⟩), .pointer (some ⟨bc, 0, none⟩), .pointer (some ⟨bs, 0, none⟩), .pointer (some ⟨bd, 0, none⟩), .pointer (some ⟨be, 0, none⟩)]) ∧ w6.cell? ⟨g, 0, none⟩ = some (.slice ao o.length co) := ⟨((hcap9.far bj).f2 hbo5 ho5 f6 hvc' hvs').e.cell, ((ta9.far bj).f2 f6 hgbo hgv).cell0⟩; go_wp2_with fail
          refine hK.out _ _ (by first | exact ⟨cE9, cG9⟩ | exact ⟨cEA, cGA⟩ | assumption) (fun hHeld => ?_)
          clear hK K
          (try simp only [List.getElem_toArray, List.getElem_cons_succ, List.getElem_cons_zero, Act.put, List.setIfInBounds_toArray, List.set_cons_zero, List.set_cons_succ])
          refine wpAnyH_done (by kernel_rfl) ?_ _
          first | refine NoPanic.normal ?_ | skip
          have fr5 : Frame2 bo v.ownBlock w w5 := fr9.trans (v1 := v) (Frame2.of_below bj) (.inl rfl)
          clear hHeld c5 c6 cE9 cG9 cEA cGA x1
          go_wp2
          go_roundw
          case rel => exact ⟨k + 1, v6, vs6, by omega, by go_num, bo6, o6, rows6, fr5.trans (v1 := v') f6 HAT.out, next_trans HAT.out at6 fr5.size⟩
          case measure => simp [intOf]; omega
      · obtain rfl : k = l.length := by omega
        go_wp2
        refine bodyPost_ret (v := .tuple #[]) (by simp [results, go_sem]) rfl ?_
        exact ⟨v', vs', rfl, hbo', ho', hrows', hfr, hat6⟩
end Go.Proofs.YtekidodfcanjaaaGreatDoor
