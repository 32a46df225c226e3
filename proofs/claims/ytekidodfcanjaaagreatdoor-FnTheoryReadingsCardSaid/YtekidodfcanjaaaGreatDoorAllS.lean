/-
  The reference's list of all readings.
-/
import Derived.Test.YtekidodfcanjaaaGreatDoorReadsPl
import Derived.Test.YtekidodfcanjaaaGreatDoorCountS
import Derived.Test.YtekidodfcanjaaaGreatDoorAtS
import Derived.Test.YtekidodfcanjaaaGreatDoorDupS
import Derived.Test.YtekidodfcanjaaaGreatDoorHeldA
namespace Go.Proofs.YtekidodfcanjaaaGreatDoor
open Go.RowKit
set_option linter.unusedVariables false
set_option linter.unusedSimpArgs false
set_option maxRecDepth 100000

theorem grown_trans {a b c : World} {v v1 : Value} (h1 : a.grownBy b v.ownBlock) (h2 : b.grownBy c v1.ownBlock) (h3 : v1.ownBlock = v.ownBlock ∨ ∃ g, v1.ownBlock = some g ∧ a.heap.size ≤ g) : a.grownBy c v.ownBlock := by
  refine ⟨h2.os.trans h1.os, h2.tape.trans h1.tape, h2.output.trans h1.output, Nat.le_trans h1.size h2.size, fun k hk hne => ?_⟩
  refine (h2.block k (Nat.lt_of_lt_of_le hk h1.size) (fun e => ?_)).trans (h1.block k hk hne)
  rcases h3 with h | ⟨g, h, hg⟩
  · exact hne (by rw [e, h])
  · rw [h] at e
    injection e
    omega
theorem grown_below {a b : World} {row : Option Nat} (h : Below a.heap.size a b) : a.grownBy b row := ⟨h.os, h.tape, h.output, h.size, fun k hk _ => h.block k hk⟩
theorem next_trans {n m : Nat} {v v1 v2 : Value} (h1 : v1.ownBlock = v.ownBlock ∨ ∃ g, v1.ownBlock = some g ∧ n ≤ g) (h2 : v2.ownBlock = v1.ownBlock ∨ ∃ g, v2.ownBlock = some g ∧ m ≤ g) (hnm : n ≤ m) : v2.ownBlock = v.ownBlock ∨ ∃ g, v2.ownBlock = some g ∧ n ≤ g := by
  rcases h2 with h | ⟨g, h, hg⟩
  · rw [h]; exact h1
  · exact .inr ⟨g, h, by omega⟩
theorem grown_below9 {B : Nat} {a b : World} {row : Option Nat} (h : a.grownBy b row) (hB : B ≤ a.heap.size) (hr : ∀ g, row = some g → B ≤ g) : Below B a b :=
  ⟨h.os, h.tape, h.output, h.size, fun k hk => h.block k (by omega) (fun e => by have := hr k e.symm; omega)⟩
theorem cntRow_at {l : List EntD} (hE : ∀ c ∈ l, c.1 ≠ []) {zs : List Int} {j : Nat} (hj : j ≤ zs.length) : (cntRow l zs zs.length)[j]? = some ((numR l (zs.drop j) : Nat) : Int) := by
  have h := cntT_num hE zs zs.length (Nat.le_refl _) j hj
  rw [Nat.sub_self, Nat.zero_add] at h
  have hl := cntT_length l zs zs.length
  unfold cntRow
  rw [Nat.sub_self, List.replicate_zero, List.nil_append, List.getElem?_map, List.getElem?_eq_getElem (by omega)]
  rw [List.getD_eq_getElem?_getD, List.getElem?_eq_getElem (by omega)] at h
  simp only [Option.getD_some] at h
  rw [Option.map_some, h]
  rfl
theorem row_grown {w w' : World} {lo n : Nat} {v u : Value} {xs : List Value} {m : Nat} {ys : List Value} (h : w.ownsRow 0 3 1 u n xs) (ho : w.ownsRow lo 26 1 v m ys) (hg : w.grownBy w' v.ownBlock) : w'.ownsRow 0 3 1 u n xs :=
  h.kept hg (apart_or h ho (by decide))

/-- A list of rows that has grown. -/
def ReadRes (lo : Nat) (v : Value) (rows : List (List Int)) (w : World) (e : Ending) (w' : World) : Prop :=
  ∃ v' vs', e = .returned v' ∧ w'.ownsRow lo 26 1 v' rows.length vs' ∧ RowsAt w' lo vs' rows ∧ w.grownBy w' v.ownBlock ∧ (v'.ownBlock = v.ownBlock ∨ ∃ g, v'.ownBlock = some g ∧ w.heap.size ≤ g)

/-- The rows after k entries. -/
def curR (l : List EntD) (suf head : List Int) (out : List (List Int)) (most k : Nat) : List (List Int) := takeM out (rowsOf head (readK l suf k)) most
section
variable {l : List EntD} {suf head : List Int} {out : List (List Int)} {most k : Nat} {c : EntD}
theorem curR_zero : curR l suf head out most 0 = out := by simp [curR, readK, rowsOf_nil, takeM_nil]
theorem curR_no (hc : l[k]? = some c) (hb : beginsB suf c.1 = false) : curR l suf head out most (k + 1) = curR l suf head out most k := by simp only [curR]; rw [readK_no hc hb]
theorem curR_yes (hc : l[k]? = some c) (hb : beginsB suf c.1 = true) : curR l suf head out most (k + 1) = takeM (curR l suf head out most k) (rowsOf (head ++ [(k : Int)]) (readD l (suf.drop c.1.length))) most := by
  simp only [curR]
  rw [readK_yes hc hb, rowsOf_app, rowsOf_cons, takeM_app]
theorem curR_none (hc : l[k]? = some c) (hb : beginsB suf c.1 = true) (h : readD l (suf.drop c.1.length) = []) : curR l suf head out most (k + 1) = curR l suf head out most k := by
  rw [curR_yes hc hb, h, rowsOf_nil, takeM_nil]
theorem curR_len (h : out.length ≤ most) : (curR l suf head out most k).length ≤ most := takeM_len h _
theorem curR_all (hE : ∀ c ∈ l, c.1 ≠ []) (hz : suf ≠ []) : curR l suf head out most l.length = takeM out (rowsOf head (readD l suf)) most := by
  simp only [curR]
  rw [readD_all hE hz]
theorem curR_stop (h : most ≤ (curR l suf head out most k).length) : ∀ n, curR l suf head out most (k + n) = curR l suf head out most k
  | 0 => rfl
  | n + 1 => by
    have ih := curR_stop h n
    have e : curR l suf head out most (k + (n + 1)) = takeM (curR l suf head out most (k + n)) (rowsOf head (match l[k + n]? with
      | some c => if beginsB suf c.1 then (readD l (suf.drop c.1.length)).map ((k + n) :: ·) else []
      | none => [])) most := by
      simp only [curR]
      rw [show k + (n + 1) = (k + n) + 1 by omega, readK, rowsOf_app, takeM_app]
      rfl
    rw [e, ih, takeM_full h]
end

def ReadSpec (lo most : Nat) (A B C : Option Addr) (cap cb cc : Nat) (l : List EntD) (zs : List Int) (at_ : Nat) : Prop :=
  ∀ (head : List Int) (H : Option Addr) (ch : Nat) (v : Value) (vs : List Value) (out : List (List Int)) (w : World),
    lo ≤ w.heap.size → DictR w lo A l → Reads w lo 1 B zs.length (ints zs) → Reads w lo 1 C (zs.length + 1) (ints (cntRow l zs zs.length)) →
    w.ownsRow 0 3 1 (.slice H head.length ch) head.length (ints head) → w.ownsRow lo 26 1 v out.length vs → RowsAt w lo vs out → out.length < most → head.length ≤ at_ →
    Calls Tryz.prog 68 #[.agg #[.slice A l.length cap], .slice B zs.length cb, .int .i64 (at_ : Int), .slice H head.length ch, .slice C (zs.length + 1) cc, .int .i64 (most : Int), v] w (ReadRes lo v (takeM out (rowsOf head (readD l (zs.drop at_))) most) w)

set_option maxHeartbeats 8000000 in
theorem spec_read_step (lo most : Nat) (A B C : Option Addr) (cap cb cc : Nat) (l : List EntD) (zs : List Int) (hv : dictB l = true) (h60 : zs.length ≤ 60) (hcb : zs.length ≤ cb) (hcm : cb ≤ maxLen) (hm50 : most ≤ 50) (at_ : Nat) (hat : at_ ≤ zs.length)
    (IH : ∀ a', at_ < a' → a' ≤ zs.length → ReadSpec lo most A B C cap cb cc l zs a') : ReadSpec lo most A B C cap cb cc l zs at_ := by
  intro head H ch v vs out w hlo hr hz hc hh ho hrows hlt hhl
  obtain ⟨W1, hW1⟩ : ∃ W1, W1 = w.alloc (.cells #[.slice A l.length cap] 31) := ⟨_, rfl⟩
  have hb1 : Below w.heap.size w W1 := by rw [hW1]; exact (Below.refl _ _).alloc (Nat.le_refl _) _
  have bP1 : Box W1 w.heap.size 31 (.slice A l.length cap) := by rw [hW1]; exact Box.new w _ _
  have hs1 : W1.heap.size = w.heap.size + 1 := by rw [hW1]; simp
  have hh1 := row_below hh hb1
  have ho1 := row_below ho hb1
  have rows1 := hrows.below hb1
  have HV := Lib.hid hv
  have h40 := dict_len hv
  have HI := Lib.hid IH
  unfold maxLen at hcm
  clear IH hv
  by_cases heq : at_ = zs.length
  · have HR := Lib.hid (show takeM out (rowsOf head (readD l (zs.drop at_))) most = out ++ [head] by rw [heq, List.drop_length, readD_nil, rowsOf_one, takeM_one hlt])
    rw [HR.out]
    clear HR HI
    subst heq
    have e1 : ((zs.length : Int) == (zs.length : Int)) = true := by simp
    have ba := (Below.refl W1.heap.size W1).alloc (Nat.le_refl _) (.cells #[] 3)
    have own0 : (W1.alloc (.cells #[] 3)).ownsRow W1.heap.size 3 1 (.slice (some ⟨W1.heap.size, 0, none⟩) 0 0) 0 [] := World.ownsRow_made _ _ _ (Nat.le_refl _) (by simp) rfl
    have hzx : W1.heap.size ≤ (W1.alloc (.cells #[] 3)).heap.size := by simp
    have hrd := Reads.of_own (row_below hh1 ba)
    have h1 : ∀ u ∈ ints head, u.oneCell' = true := fun u hu => by obtain ⟨z, _, rfl⟩ := List.mem_map.1 hu; rfl
    have H1 := Lib.hid h1
    have HLT := Lib.hid (show ∀ x ∈ vs, ∀ g, x.ownBlock = some g → g < W1.heap.size from fun x hx g hg => (rows1.lt x hx g hg).2)
    have HS1 := Lib.hid hs1
    clear h1 hr hz hc hh ho hrows hs1
    go_enter Tryz.func68, Tryz.ntmps68
    go_upto_region 1 with (fail)
    rw [← hW1]
    clear hW1
    go_wp2_with (first | (at_builtin; refine wpList_append_src own0 hzx hrd H1.out (.tmp 22) (.tmp 23) 26 Tryz.underlying26 info_int (by omega) (by unfold maxLen; omega) ⟨rfl, rfl, rfl, rfl, rfl, by decide⟩ ?_; intro v2 w2 own2 b2; simp only [Nat.zero_add, List.nil_append] at own2; have B2 := ba.trans b2; have ho2 := row_below ho1 B2; have rows2 := rows1.below B2; obtain ⟨A2, k2, rfl, -, -, -⟩ := (Own.of_row own2).slice) | (at_builtin; refine wpList_append_oneA ho2 (by have := B2.size; have := HS1.out; omega) (.tmp 21) (.tmp 25) 41 Tryz.underlying41 infos_int (by omega) (by unfold maxLen; omega) ⟨rfl, rfl, rfl, rfl, rfl, rfl⟩ rfl ?_; intro v3 w3 own3 gr3 at3))
    go_ret
    have B2w := hb1.trans (B2.mono hb1.size)
    refine ⟨v3, _, rfl, by rw [List.length_append]; exact own3, rows_put ho2 rows2 own2 (by have := HS1.out; omega) HLT.out gr3, grown_trans (v1 := v) (grown_below B2w) gr3 (.inl rfl), ?_⟩
    rcases at3 with h | ⟨g, h, hg⟩
    · exact .inl h
    · exact .inr ⟨g, h, by have := B2w.size; omega⟩
  · have hlt2 : at_ < zs.length := by omega
    have e1 : ((at_ : Int) == (zs.length : Int)) = false := by simp; omega
    have hsuf : zs.drop at_ ≠ [] := fun h => by have := congrArg List.length h; simp at this; omega
    have HA := Lib.hid (curR_all (l := l) (suf := zs.drop at_) (head := head) (out := out) (most := most) (dict_ne HV.out) hsuf)
    have HDN := Lib.hid (dict_ne HV.out)
    have HST := Lib.hid (fun k (h : most ≤ (curR l (zs.drop at_) head out most k).length) n => curR_stop h n)
    have own1 : W1.ownsRow lo 26 1 v (curR l (zs.drop at_) head out most 0).length vs := by rw [curR_zero]; exact ho1
    have row1 : RowsAt W1 lo vs (curR l (zs.drop at_) head out most 0) := by rw [curR_zero]; exact rows1
    have gr1 : w.grownBy W1 v.ownBlock := grown_below hb1
    rw [← HA.out]
    clear hs1 hh1 ho1 rows1 hsuf
    go_enter Tryz.func68, Tryz.ntmps68
    go_upto_region 1 with (fail)
    rw [← hW1]
    clear hW1
    go_wp2
    go_loopw [6, 15] (fun v' j wr => ∃ (k : Nat) (vs' : List Value), k ≤ l.length ∧ j = .int .i64 k ∧ wr.ownsRow lo 26 1 v' (curR l (zs.drop at_) head out most k).length vs' ∧ RowsAt wr lo vs' (curR l (zs.drop at_) head out most k) ∧ w.grownBy wr v.ownBlock ∧ (v'.ownBlock = v.ownBlock ∨ ∃ g, v'.ownBlock = some g ∧ w.heap.size ≤ g) ∧ Box wr w.heap.size 31 (.slice A l.length cap)) (fun _ j _ => l.length - (intOf j).toNat)
    case atStart => exact ⟨0, vs, Nat.zero_le _, rfl, own1, row1, gr1, .inl rfl, bP1⟩
    case round =>
      obtain ⟨k, vs', hk, rfl, ho', hrows', hgr, hat6, bP⟩ := hrel
      have bel : Below lo w wr := grown_below9 hgr hlo (fun g hg => (ho.lt g hg).1)
      have cP := bP.cell
      have hcl := curR_len (l := l) (suf := zs.drop at_) (head := head) (k := k) (Nat.le_of_lt hlt)
      have HAT := Lib.hid hat6
      clear own1 row1 gr1 bP1 hat6
      by_cases hkl : k < l.length
      · by_cases hmo : (curR l (zs.drop at_) head out most k).length < most
        · obtain ⟨Av, kv, rfl, -, -, -⟩ := (Own.of_row ho').slice
          obtain ⟨b, off, rfl, hb0, hcc⟩ := (hr.below bel) (by omega)
          obtain ⟨bz, oz, rfl, hz0, -⟩ := (hz.below bel).2 (by omega)
          obtain ⟨bc, oc, rfl, hc0, hce⟩ := (hc.below bel).2 (by omega)
          obtain ⟨⟨o, t⟩, hx⟩ := some_at l hkl
          obtain ⟨ao, co, c1, -, r1, hco, hcom⟩ := DictR.at_ hcc hx
          have hol := dict_out HV.out hx
          simp only at hol
          have hlw : lo ≤ wr.heap.size := Nat.le_trans hlo hgr.size
          have i2 : (0 : Int) ≤ (k : Int) := by omega
          have i3 : (k : Int) < (l.length : Int) := by omega
          have i0 : (0 : Int) ≤ (at_ : Int) := by omega
          have i4 : (at_ : Int) ≤ (cb : Int) := by omega
          have i5 : at_ ≤ zs.length := by omega
          have i6 : ((curR l (zs.drop at_) head out most k).length : Int) < (most : Int) := by omega
          have hqc : ¬ cb = at_ := by omega
          have hdl : (zs.drop at_).length = zs.length - at_ := by simp
          have hp1 : (⟨w.heap.size, 0, none⟩ : Addr).block < wr.heap.size := bP.lt
          have hp2 : (⟨b, off + k * 2, none⟩ : Addr).block < wr.heap.size := by show b < _; omega
          have HB := Lib.hid (show ∀ W, Below wr.heap.size wr W → Calls Tryz.prog 54 #[.slice (some ⟨bz, oz + at_, none⟩) (zs.length - at_) (cb - at_), .slice ao o.length co] W fun e w' => e = .returned (.bool (beginsB (zs.drop at_) o)) ∧ Below W.heap.size W w' from fun W hW => by
            have h := spec_l4Begins (some ⟨bz, oz + at_, none⟩) ao (cb - at_) co (zs.drop at_) o W (((((hz.below bel).back at_).more hlw).below hW).more hW.size) (((r1.more hlw).below hW).more hW.size) (by rw [hdl]; omega) (by omega) (by rw [hdl]; omega) (by unfold maxLen; omega)
            rw [hdl] at h
            exact h)
          have HX := Lib.hid hx
          cases hbg : beginsB (zs.drop at_) o
          · have HBG := Lib.hid hbg
            have HNO := Lib.hid (curR_no (head := head) (out := out) (most := most) HX.out hbg)
            clear hbg hx hcc r1 hce
            go_wp2
            have S0 : wr.cell? ⟨w.heap.size, 0, none⟩ = some (.slice (some ⟨b, off, none⟩) l.length cap) ∧ wr.cell? ⟨b, off + k * 2, none⟩ = some (.slice ao o.length co) ∧ Below wr.heap.size wr wr := ⟨by assumption, by assumption, Below.refl _ _⟩
            first | refine wp_region_noPanic ?_ | skip
            refine wp_region_held_drew (S := fun w' => w'.cell? ⟨w.heap.size, 0, none⟩ = some (.slice (some ⟨b, off, none⟩) l.length cap) ∧ w'.cell? ⟨b, off + k * 2, none⟩ = some (.slice ao o.length co) ∧ Below wr.heap.size wr w') (by kernel_rfl) (by first | exact S0 | exact held2_drew S0 | assumption | exact held2_step hp1 hp2 S0 (by assumption) | exact held2_step hp1 hp2 (by assumption) (by assumption) | exact held2_drew (by assumption)) (fun hHeld => ?_)
            (refine wpAnyH_take (i := 0) (v := ?_) rfl (by kernel_rfl) (by kernel_rfl) (by kernel_rfl) (fun _ _ _ h => h) (Or.inl ⟨by rfl, ?_⟩) (by assumption) ?_; rotate_left; focus (intro w hSw; (try dsimp only at hSw); go_simp; try with_reducible rfl))
            (try simp only [List.getElem_toArray, List.getElem_cons_succ, List.getElem_cons_zero, Act.put, List.setIfInBounds_toArray, List.set_cons_zero, List.set_cons_succ])
            (refine wpAnyH_take (i := 1) (v := ?_) rfl (by kernel_rfl) (by kernel_rfl) (by kernel_rfl) (fun _ _ _ h => h) (Or.inl ⟨by rfl, ?_⟩) (by assumption) ?_; rotate_left; focus (intro w hSw; (try dsimp only at hSw); go_simp; try with_reducible rfl))
            (try simp only [List.getElem_toArray, List.getElem_cons_succ, List.getElem_cons_zero, Act.put, List.setIfInBounds_toArray, List.set_cons_zero, List.set_cons_succ])
            (refine wpAnyH_take (i := 2) (v := ?_) rfl (by kernel_rfl) (by kernel_rfl) (by kernel_rfl) (fun _ _ _ h => h) (Or.inl ⟨by rfl, ?_⟩) (by assumption) ?_; rotate_left; focus (intro w hSw; (try dsimp only at hSw); go_simp; try with_reducible rfl))
            (try simp only [List.getElem_toArray, List.getElem_cons_succ, List.getElem_cons_zero, Act.put, List.setIfInBounds_toArray, List.set_cons_zero, List.set_cons_succ])
            (refine wpAnyH_take (i := 3) (v := ?_) rfl (by kernel_rfl) (by kernel_rfl) (by kernel_rfl) (fun _ _ _ h => h) (Or.inl ⟨by rfl, ?_⟩) (by assumption) ?_; rotate_left; focus (intro w hSw; (try dsimp only at hSw); go_simp; try with_reducible rfl))
            (try simp only [List.getElem_toArray, List.getElem_cons_succ, List.getElem_cons_zero, Act.put, List.setIfInBounds_toArray, List.set_cons_zero, List.set_cons_succ])
            (refine wpAnyH_take (i := 4) (v := ?_) rfl (by kernel_rfl) (by kernel_rfl) (by kernel_rfl) (fun _ _ _ h => h) (Or.inl ⟨by rfl, ?_⟩) (by assumption) ?_; rotate_left; focus (intro w hSw; (try dsimp only at hSw); go_simp; try with_reducible rfl))
            (try simp only [List.getElem_toArray, List.getElem_cons_succ, List.getElem_cons_zero, Act.put, List.setIfInBounds_toArray, List.set_cons_zero, List.set_cons_succ])
            (refine wpAnyH_take (i := 5) (v := ?_) rfl (by kernel_rfl) (by kernel_rfl) (by kernel_rfl) (fun _ _ _ h => h) (Or.inl ⟨by rfl, ?_⟩) (by assumption) ?_; rotate_left; focus (intro w hSw; (try dsimp only at hSw); go_simp; try with_reducible rfl))
            (try simp only [List.getElem_toArray, List.getElem_cons_succ, List.getElem_cons_zero, Act.put, List.setIfInBounds_toArray, List.set_cons_zero, List.set_cons_succ])
            (refine wpAnyH_take (i := 6) (v := ?_) rfl (by kernel_rfl) (by kernel_rfl) (by kernel_rfl) (fun _ _ _ h => h) (Or.inl ⟨by rfl, ?_⟩) (by assumption) ?_; rotate_left; focus (intro w hSw; (try dsimp only at hSw); go_simp; try with_reducible rfl))
            (try simp only [List.getElem_toArray, List.getElem_cons_succ, List.getElem_cons_zero, Act.put, List.setIfInBounds_toArray, List.set_cons_zero, List.set_cons_succ])
            (refine wpAnyH_take (i := 7) (v := ?_) rfl (by kernel_rfl) (by kernel_rfl) (by kernel_rfl) (fun _ _ _ h => h) (Or.inl ⟨by rfl, ?_⟩) (by assumption) ?_; rotate_left; focus (intro w hSw; (try dsimp only at hSw); go_simp; try with_reducible rfl))
            (try simp only [List.getElem_toArray, List.getElem_cons_succ, List.getElem_cons_zero, Act.put, List.setIfInBounds_toArray, List.set_cons_zero, List.set_cons_succ])
            (refine wpAnyH_take (i := 8) (v := ?_) rfl (by kernel_rfl) (by kernel_rfl) (by kernel_rfl) (fun _ _ _ h => h) (Or.inl ⟨by rfl, ?_⟩) (by assumption) ?_; rotate_left; focus (intro w hSw; (try dsimp only at hSw); go_simp; try with_reducible rfl))
            (try simp only [List.getElem_toArray, List.getElem_cons_succ, List.getElem_cons_zero, Act.put, List.setIfInBounds_toArray, List.set_cons_zero, List.set_cons_succ])
            refine wpAnyH_ready (rs := [9]) (by kernel_rfl) (by simp) ?_
            refine AllReadyH.cons rfl (fun K hK => ?_) AllReadyH.nil
            go_simp
            (with_reducible refine (HB.out _ (held2_below (by assumption))).mono ?_); rw [HBG.out]; rintro e w9 ⟨rfl, b9⟩; go_wp2_with fail
            refine hK.out _ _ (by first | exact S0 | exact held2_drew S0 | assumption | exact held2_step hp1 hp2 S0 (by assumption) | exact held2_step hp1 hp2 (by assumption) (by assumption) | exact held2_drew (by assumption)) (fun hHeld => ?_)
            clear hK K
            (try simp only [List.getElem_toArray, List.getElem_cons_succ, List.getElem_cons_zero, Act.put, List.setIfInBounds_toArray, List.set_cons_zero, List.set_cons_succ])
            (refine wpAnyH_take (i := 10) (v := ?_) rfl (by kernel_rfl) (by kernel_rfl) (by kernel_rfl) (fun _ _ _ h => h) (Or.inl ⟨by rfl, ?_⟩) (by assumption) ?_; rotate_left; focus (intro w hSw; (try dsimp only at hSw); go_simp; try with_reducible rfl))
            (try simp only [List.getElem_toArray, List.getElem_cons_succ, List.getElem_cons_zero, Act.put, List.setIfInBounds_toArray, List.set_cons_zero, List.set_cons_succ])
            refine wpAnyH_take (i := 11) rfl (by kernel_rfl) (by kernel_rfl) (by kernel_rfl) (fun _ _ _ h => h) (Or.inr ⟨by kernel_rfl, rfl⟩) (by assumption) ?_
            (try simp only [List.getElem_toArray, List.getElem_cons_succ, List.getElem_cons_zero, Act.put, List.setIfInBounds_toArray, List.set_cons_zero, List.set_cons_succ])
            refine wpAnyH_take (i := 12) rfl (by kernel_rfl) (by kernel_rfl) (by kernel_rfl) (fun _ _ _ h => h) (Or.inr ⟨by kernel_rfl, rfl⟩) (by assumption) ?_
            (try simp only [List.getElem_toArray, List.getElem_cons_succ, List.getElem_cons_zero, Act.put, List.setIfInBounds_toArray, List.set_cons_zero, List.set_cons_succ])
            refine wpAnyH_take (i := 13) rfl (by kernel_rfl) (by kernel_rfl) (by kernel_rfl) (fun _ _ _ h => h) (Or.inr ⟨by kernel_rfl, rfl⟩) (by assumption) ?_
            (try simp only [List.getElem_toArray, List.getElem_cons_succ, List.getElem_cons_zero, Act.put, List.setIfInBounds_toArray, List.set_cons_zero, List.set_cons_succ])
            refine wpAnyH_take (i := 14) rfl (by kernel_rfl) (by kernel_rfl) (by kernel_rfl) (fun _ _ _ h => h) (Or.inr ⟨by kernel_rfl, rfl⟩) (by assumption) ?_
            (try simp only [List.getElem_toArray, List.getElem_cons_succ, List.getElem_cons_zero, Act.put, List.setIfInBounds_toArray, List.set_cons_zero, List.set_cons_succ])
            refine wpAnyH_take (i := 15) rfl (by kernel_rfl) (by kernel_rfl) (by kernel_rfl) (fun _ _ _ h => h) (Or.inr ⟨by kernel_rfl, rfl⟩) (by assumption) ?_
            (try simp only [List.getElem_toArray, List.getElem_cons_succ, List.getElem_cons_zero, Act.put, List.setIfInBounds_toArray, List.set_cons_zero, List.set_cons_succ])
            refine wpAnyH_take (i := 16) rfl (by kernel_rfl) (by kernel_rfl) (by kernel_rfl) (fun _ _ _ h => h) (Or.inr ⟨by kernel_rfl, rfl⟩) (by assumption) ?_
            (try simp only [List.getElem_toArray, List.getElem_cons_succ, List.getElem_cons_zero, Act.put, List.setIfInBounds_toArray, List.set_cons_zero, List.set_cons_succ])
            refine wpAnyH_take (i := 17) rfl (by kernel_rfl) (by kernel_rfl) (by kernel_rfl) (fun _ _ _ h => h) (Or.inr ⟨by kernel_rfl, rfl⟩) (by assumption) ?_
            (try simp only [List.getElem_toArray, List.getElem_cons_succ, List.getElem_cons_zero, Act.put, List.setIfInBounds_toArray, List.set_cons_zero, List.set_cons_succ])
            (refine wpAnyH_take (i := 18) (v := ?_) rfl (by kernel_rfl) (by kernel_rfl) (by kernel_rfl) (fun _ _ _ h => h) (Or.inl ⟨by rfl, ?_⟩) (by assumption) ?_; rotate_left; focus (intro w hSw; (try dsimp only at hSw); go_simp; try with_reducible rfl))
            (try simp only [List.getElem_toArray, List.getElem_cons_succ, List.getElem_cons_zero, Act.put, List.setIfInBounds_toArray, List.set_cons_zero, List.set_cons_succ])
            refine wpAnyH_done (by kernel_rfl) ?_ _
            first | refine NoPanic.normal ?_ | skip
            have SZ : w9.cell? ⟨w.heap.size, 0, none⟩ = some (.slice (some ⟨b, off, none⟩) l.length cap) ∧ w9.cell? ⟨b, off + k * 2, none⟩ = some (.slice ao o.length co) ∧ Below wr.heap.size wr w9 := by assumption
            have bz9 := held2_below SZ
            clear S0 SZ hHeld
            go_wp2
            go_roundw
            case rel => exact ⟨k + 1, vs', by omega, by go_num, by rw [HNO.out]; exact row_below ho' bz9, by rw [HNO.out]; exact hrows'.below bz9, grown_trans hgr (grown_below bz9) HAT.out, HAT.out, bP.far bz9⟩
            case measure => simp [intOf]; omega
          · have HBG := Lib.hid hbg
            have hle := begins_le hbg
            rw [hdl] at hle
            have hcnt := hce (at_ + o.length) _ (ints_at _ (cntRow_at HDN.out (by omega)))
            have HRN := Lib.hid (fun h => num_none (l := l) (zs := zs.drop (at_ + o.length)) h)
            have hnl : numR l (zs.drop (at_ + o.length)) ≤ 1000001 := Nat.min_le_left _ _
            obtain ⟨cn, hcn⟩ : ∃ cn, cn = numR l (zs.drop (at_ + o.length)) := ⟨_, rfl⟩
            rw [← hcn] at hcnt HRN hnl
            rw [← List.drop_drop] at HRN
            have HY := Lib.hid (curR_yes (head := head) (out := out) (most := most) HX.out hbg)
            have HN0 := Lib.hid (fun h => curR_none (head := head) (out := out) (most := most) HX.out hbg h)
            have hp3 : (⟨bc, oc + (at_ + o.length), none⟩ : Addr).block < wr.heap.size := by show bc < _; omega
            have x1 : IntKind.i64.wrap ((at_ : Int) + (o.length : Int)) = (at_ : Int) + (o.length : Int) := IntWalk.i64_in _ (by omega)
            have x2 : (0 : Int) ≤ (at_ : Int) + (o.length : Int) := by omega
            have x3 : ((at_ : Int) + (o.length : Int)).toNat = at_ + o.length := by omega
            have x4 : (at_ : Int) + (o.length : Int) < (zs.length : Int) + 1 := by omega
            simp only at HY HN0
            clear hbg hx hcc hce hcn
            by_cases hc0' : cn = 0
            · have HNO := Lib.hid (HN0.out (HRN.out hc0'))
              have x5 : ¬ (0 : Int) < (cn : Int) := by omega
              have x6 : decide (0 < cn) = false := by simp; omega
              clear hc0' r1
              go_wp2
              have S0 : wr.cell? ⟨w.heap.size, 0, none⟩ = some (.slice (some ⟨b, off, none⟩) l.length cap) ∧ wr.cell? ⟨b, off + k * 2, none⟩ = some (.slice ao o.length co) ∧ wr.cell? ⟨bc, oc + (at_ + o.length), none⟩ = some (.int .i64 (cn : Int)) ∧ Below wr.heap.size wr wr := ⟨by assumption, by assumption, by assumption, Below.refl _ _⟩
              first | refine wp_region_noPanic ?_ | skip
              refine wp_region_held_drew (S := fun w' => w'.cell? ⟨w.heap.size, 0, none⟩ = some (.slice (some ⟨b, off, none⟩) l.length cap) ∧ w'.cell? ⟨b, off + k * 2, none⟩ = some (.slice ao o.length co) ∧ w'.cell? ⟨bc, oc + (at_ + o.length), none⟩ = some (.int .i64 (cn : Int)) ∧ Below wr.heap.size wr w') (by kernel_rfl) (by first | exact S0 | exact held3_drew S0 | assumption | exact held3_step hp1 hp2 hp3 S0 (by assumption) | exact held3_step hp1 hp2 hp3 (by assumption) (by assumption) | exact held3_drew (by assumption)) (fun hHeld => ?_)
              (refine wpAnyH_take (i := 0) (v := ?_) rfl (by kernel_rfl) (by kernel_rfl) (by kernel_rfl) (fun _ _ _ h => h) (Or.inl ⟨by rfl, ?_⟩) (by assumption) ?_; rotate_left; focus (intro w hSw; (try dsimp only at hSw); go_simp; try with_reducible rfl))
              (try simp only [List.getElem_toArray, List.getElem_cons_succ, List.getElem_cons_zero, Act.put, List.setIfInBounds_toArray, List.set_cons_zero, List.set_cons_succ])
              (refine wpAnyH_take (i := 1) (v := ?_) rfl (by kernel_rfl) (by kernel_rfl) (by kernel_rfl) (fun _ _ _ h => h) (Or.inl ⟨by rfl, ?_⟩) (by assumption) ?_; rotate_left; focus (intro w hSw; (try dsimp only at hSw); go_simp; try with_reducible rfl))
              (try simp only [List.getElem_toArray, List.getElem_cons_succ, List.getElem_cons_zero, Act.put, List.setIfInBounds_toArray, List.set_cons_zero, List.set_cons_succ])
              (refine wpAnyH_take (i := 2) (v := ?_) rfl (by kernel_rfl) (by kernel_rfl) (by kernel_rfl) (fun _ _ _ h => h) (Or.inl ⟨by rfl, ?_⟩) (by assumption) ?_; rotate_left; focus (intro w hSw; (try dsimp only at hSw); go_simp; try with_reducible rfl))
              (try simp only [List.getElem_toArray, List.getElem_cons_succ, List.getElem_cons_zero, Act.put, List.setIfInBounds_toArray, List.set_cons_zero, List.set_cons_succ])
              (refine wpAnyH_take (i := 3) (v := ?_) rfl (by kernel_rfl) (by kernel_rfl) (by kernel_rfl) (fun _ _ _ h => h) (Or.inl ⟨by rfl, ?_⟩) (by assumption) ?_; rotate_left; focus (intro w hSw; (try dsimp only at hSw); go_simp; try with_reducible rfl))
              (try simp only [List.getElem_toArray, List.getElem_cons_succ, List.getElem_cons_zero, Act.put, List.setIfInBounds_toArray, List.set_cons_zero, List.set_cons_succ])
              (refine wpAnyH_take (i := 4) (v := ?_) rfl (by kernel_rfl) (by kernel_rfl) (by kernel_rfl) (fun _ _ _ h => h) (Or.inl ⟨by rfl, ?_⟩) (by assumption) ?_; rotate_left; focus (intro w hSw; (try dsimp only at hSw); go_simp; try with_reducible rfl))
              (try simp only [List.getElem_toArray, List.getElem_cons_succ, List.getElem_cons_zero, Act.put, List.setIfInBounds_toArray, List.set_cons_zero, List.set_cons_succ])
              (refine wpAnyH_take (i := 5) (v := ?_) rfl (by kernel_rfl) (by kernel_rfl) (by kernel_rfl) (fun _ _ _ h => h) (Or.inl ⟨by rfl, ?_⟩) (by assumption) ?_; rotate_left; focus (intro w hSw; (try dsimp only at hSw); go_simp; try with_reducible rfl))
              (try simp only [List.getElem_toArray, List.getElem_cons_succ, List.getElem_cons_zero, Act.put, List.setIfInBounds_toArray, List.set_cons_zero, List.set_cons_succ])
              (refine wpAnyH_take (i := 6) (v := ?_) rfl (by kernel_rfl) (by kernel_rfl) (by kernel_rfl) (fun _ _ _ h => h) (Or.inl ⟨by rfl, ?_⟩) (by assumption) ?_; rotate_left; focus (intro w hSw; (try dsimp only at hSw); go_simp; try with_reducible rfl))
              (try simp only [List.getElem_toArray, List.getElem_cons_succ, List.getElem_cons_zero, Act.put, List.setIfInBounds_toArray, List.set_cons_zero, List.set_cons_succ])
              (refine wpAnyH_take (i := 7) (v := ?_) rfl (by kernel_rfl) (by kernel_rfl) (by kernel_rfl) (fun _ _ _ h => h) (Or.inl ⟨by rfl, ?_⟩) (by assumption) ?_; rotate_left; focus (intro w hSw; (try dsimp only at hSw); go_simp; try with_reducible rfl))
              (try simp only [List.getElem_toArray, List.getElem_cons_succ, List.getElem_cons_zero, Act.put, List.setIfInBounds_toArray, List.set_cons_zero, List.set_cons_succ])
              (refine wpAnyH_take (i := 8) (v := ?_) rfl (by kernel_rfl) (by kernel_rfl) (by kernel_rfl) (fun _ _ _ h => h) (Or.inl ⟨by rfl, ?_⟩) (by assumption) ?_; rotate_left; focus (intro w hSw; (try dsimp only at hSw); go_simp; try with_reducible rfl))
              (try simp only [List.getElem_toArray, List.getElem_cons_succ, List.getElem_cons_zero, Act.put, List.setIfInBounds_toArray, List.set_cons_zero, List.set_cons_succ])
              refine wpAnyH_ready (rs := [9]) (by kernel_rfl) (by simp) ?_
              refine AllReadyH.cons rfl (fun K hK => ?_) AllReadyH.nil
              go_simp
              (with_reducible refine (HB.out _ (held3_below (by assumption))).mono ?_); rw [HBG.out]; rintro e w9 ⟨rfl, b9⟩; go_wp2_with fail
              refine hK.out _ _ (by first | exact S0 | exact held3_drew S0 | assumption | exact held3_step hp1 hp2 hp3 S0 (by assumption) | exact held3_step hp1 hp2 hp3 (by assumption) (by assumption) | exact held3_drew (by assumption)) (fun hHeld => ?_)
              clear hK K
              (try simp only [List.getElem_toArray, List.getElem_cons_succ, List.getElem_cons_zero, Act.put, List.setIfInBounds_toArray, List.set_cons_zero, List.set_cons_succ])
              (refine wpAnyH_take (i := 10) (v := ?_) rfl (by kernel_rfl) (by kernel_rfl) (by kernel_rfl) (fun _ _ _ h => h) (Or.inl ⟨by rfl, ?_⟩) (by assumption) ?_; rotate_left; focus (intro w hSw; (try dsimp only at hSw); go_simp; try with_reducible rfl))
              (try simp only [List.getElem_toArray, List.getElem_cons_succ, List.getElem_cons_zero, Act.put, List.setIfInBounds_toArray, List.set_cons_zero, List.set_cons_succ])
              (refine wpAnyH_take (i := 11) (v := ?_) rfl (by kernel_rfl) (by kernel_rfl) (by kernel_rfl) (fun _ _ _ h => h) (Or.inl ⟨by rfl, ?_⟩) (by assumption) ?_; rotate_left; focus (intro w hSw; (try dsimp only at hSw); go_simp; try with_reducible rfl))
              (try simp only [List.getElem_toArray, List.getElem_cons_succ, List.getElem_cons_zero, Act.put, List.setIfInBounds_toArray, List.set_cons_zero, List.set_cons_succ])
              (refine wpAnyH_take (i := 12) (v := ?_) rfl (by kernel_rfl) (by kernel_rfl) (by kernel_rfl) (fun _ _ _ h => h) (Or.inl ⟨by rfl, ?_⟩) (by assumption) ?_; rotate_left; focus (intro w hSw; (try dsimp only at hSw); go_simp; try with_reducible rfl))
              (try simp only [List.getElem_toArray, List.getElem_cons_succ, List.getElem_cons_zero, Act.put, List.setIfInBounds_toArray, List.set_cons_zero, List.set_cons_succ])
              (refine wpAnyH_take (i := 13) (v := ?_) rfl (by kernel_rfl) (by kernel_rfl) (by kernel_rfl) (fun _ _ _ h => h) (Or.inl ⟨by rfl, ?_⟩) (by assumption) ?_; rotate_left; focus (intro w hSw; (try dsimp only at hSw); go_simp; try with_reducible rfl))
              (try simp only [List.getElem_toArray, List.getElem_cons_succ, List.getElem_cons_zero, Act.put, List.setIfInBounds_toArray, List.set_cons_zero, List.set_cons_succ])
              (refine wpAnyH_take (i := 14) (v := ?_) rfl (by kernel_rfl) (by kernel_rfl) (by kernel_rfl) (fun _ _ _ h => h) (Or.inl ⟨by rfl, ?_⟩) (by assumption) ?_; rotate_left; focus (intro w hSw; (try dsimp only at hSw); go_simp; try with_reducible rfl))
              (try simp only [List.getElem_toArray, List.getElem_cons_succ, List.getElem_cons_zero, Act.put, List.setIfInBounds_toArray, List.set_cons_zero, List.set_cons_succ])
              (refine wpAnyH_take (i := 15) (v := ?_) rfl (by kernel_rfl) (by kernel_rfl) (by kernel_rfl) (fun _ _ _ h => h) (Or.inl ⟨by rfl, ?_⟩) (by assumption) ?_; rotate_left; focus (intro w hSw; (try dsimp only at hSw); go_simp; try with_reducible rfl))
              (try simp only [List.getElem_toArray, List.getElem_cons_succ, List.getElem_cons_zero, Act.put, List.setIfInBounds_toArray, List.set_cons_zero, List.set_cons_succ])
              (refine wpAnyH_take (i := 16) (v := ?_) rfl (by kernel_rfl) (by kernel_rfl) (by kernel_rfl) (fun _ _ _ h => h) (Or.inl ⟨by rfl, ?_⟩) (by assumption) ?_; rotate_left; focus (intro w hSw; (try dsimp only at hSw); go_simp; try with_reducible rfl))
              (try simp only [List.getElem_toArray, List.getElem_cons_succ, List.getElem_cons_zero, Act.put, List.setIfInBounds_toArray, List.set_cons_zero, List.set_cons_succ])
              (refine wpAnyH_take (i := 17) (v := ?_) rfl (by kernel_rfl) (by kernel_rfl) (by kernel_rfl) (fun _ _ _ h => h) (Or.inl ⟨by rfl, ?_⟩) (by assumption) ?_; rotate_left; focus (intro w hSw; (try dsimp only at hSw); go_simp; try with_reducible rfl))
              (try simp only [List.getElem_toArray, List.getElem_cons_succ, List.getElem_cons_zero, Act.put, List.setIfInBounds_toArray, List.set_cons_zero, List.set_cons_succ])
              (refine wpAnyH_take (i := 18) (v := ?_) rfl (by kernel_rfl) (by kernel_rfl) (by kernel_rfl) (fun _ _ _ h => h) (Or.inl ⟨by rfl, ?_⟩) (by assumption) ?_; rotate_left; focus (intro w hSw; (try dsimp only at hSw); go_simp; try with_reducible rfl))
              (try simp only [List.getElem_toArray, List.getElem_cons_succ, List.getElem_cons_zero, Act.put, List.setIfInBounds_toArray, List.set_cons_zero, List.set_cons_succ])
              refine wpAnyH_done (by kernel_rfl) ?_ _
              first | refine NoPanic.normal ?_ | skip
              have SZ : w9.cell? ⟨w.heap.size, 0, none⟩ = some (.slice (some ⟨b, off, none⟩) l.length cap) ∧ w9.cell? ⟨b, off + k * 2, none⟩ = some (.slice ao o.length co) ∧ w9.cell? ⟨bc, oc + (at_ + o.length), none⟩ = some (.int .i64 (cn : Int)) ∧ Below wr.heap.size wr w9 := by assumption
              have bz9 := held3_below SZ
              clear S0 SZ hHeld x1
              go_wp2
              go_roundw
              case rel => exact ⟨k + 1, vs', by omega, by go_num, by rw [HNO.out]; exact row_below ho' bz9, by rw [HNO.out]; exact hrows'.below bz9, grown_trans hgr (grown_below bz9) HAT.out, HAT.out, bP.far bz9⟩
              case measure => simp [intOf]; omega
            · have x5 : (0 : Int) < (cn : Int) := by omega
              have x6 : decide (0 < cn) = true := by simp; omega
              clear hc0'
              go_wp2
              have S0 : wr.cell? ⟨w.heap.size, 0, none⟩ = some (.slice (some ⟨b, off, none⟩) l.length cap) ∧ wr.cell? ⟨b, off + k * 2, none⟩ = some (.slice ao o.length co) ∧ wr.cell? ⟨bc, oc + (at_ + o.length), none⟩ = some (.int .i64 (cn : Int)) ∧ Below wr.heap.size wr wr := ⟨by assumption, by assumption, by assumption, Below.refl _ _⟩
              first | refine wp_region_noPanic ?_ | skip
              refine wp_region_held_drew (S := fun w' => w'.cell? ⟨w.heap.size, 0, none⟩ = some (.slice (some ⟨b, off, none⟩) l.length cap) ∧ w'.cell? ⟨b, off + k * 2, none⟩ = some (.slice ao o.length co) ∧ w'.cell? ⟨bc, oc + (at_ + o.length), none⟩ = some (.int .i64 (cn : Int)) ∧ Below wr.heap.size wr w') (by kernel_rfl) (by first | exact S0 | exact held3_drew S0 | assumption | exact held3_step hp1 hp2 hp3 S0 (by assumption) | exact held3_step hp1 hp2 hp3 (by assumption) (by assumption) | exact held3_drew (by assumption)) (fun hHeld => ?_)
              (refine wpAnyH_take (i := 0) (v := ?_) rfl (by kernel_rfl) (by kernel_rfl) (by kernel_rfl) (fun _ _ _ h => h) (Or.inl ⟨by rfl, ?_⟩) (by assumption) ?_; rotate_left; focus (intro w hSw; (try dsimp only at hSw); go_simp; try with_reducible rfl))
              (try simp only [List.getElem_toArray, List.getElem_cons_succ, List.getElem_cons_zero, Act.put, List.setIfInBounds_toArray, List.set_cons_zero, List.set_cons_succ])
              (refine wpAnyH_take (i := 1) (v := ?_) rfl (by kernel_rfl) (by kernel_rfl) (by kernel_rfl) (fun _ _ _ h => h) (Or.inl ⟨by rfl, ?_⟩) (by assumption) ?_; rotate_left; focus (intro w hSw; (try dsimp only at hSw); go_simp; try with_reducible rfl))
              (try simp only [List.getElem_toArray, List.getElem_cons_succ, List.getElem_cons_zero, Act.put, List.setIfInBounds_toArray, List.set_cons_zero, List.set_cons_succ])
              (refine wpAnyH_take (i := 2) (v := ?_) rfl (by kernel_rfl) (by kernel_rfl) (by kernel_rfl) (fun _ _ _ h => h) (Or.inl ⟨by rfl, ?_⟩) (by assumption) ?_; rotate_left; focus (intro w hSw; (try dsimp only at hSw); go_simp; try with_reducible rfl))
              (try simp only [List.getElem_toArray, List.getElem_cons_succ, List.getElem_cons_zero, Act.put, List.setIfInBounds_toArray, List.set_cons_zero, List.set_cons_succ])
              (refine wpAnyH_take (i := 3) (v := ?_) rfl (by kernel_rfl) (by kernel_rfl) (by kernel_rfl) (fun _ _ _ h => h) (Or.inl ⟨by rfl, ?_⟩) (by assumption) ?_; rotate_left; focus (intro w hSw; (try dsimp only at hSw); go_simp; try with_reducible rfl))
              (try simp only [List.getElem_toArray, List.getElem_cons_succ, List.getElem_cons_zero, Act.put, List.setIfInBounds_toArray, List.set_cons_zero, List.set_cons_succ])
              (refine wpAnyH_take (i := 4) (v := ?_) rfl (by kernel_rfl) (by kernel_rfl) (by kernel_rfl) (fun _ _ _ h => h) (Or.inl ⟨by rfl, ?_⟩) (by assumption) ?_; rotate_left; focus (intro w hSw; (try dsimp only at hSw); go_simp; try with_reducible rfl))
              (try simp only [List.getElem_toArray, List.getElem_cons_succ, List.getElem_cons_zero, Act.put, List.setIfInBounds_toArray, List.set_cons_zero, List.set_cons_succ])
              (refine wpAnyH_take (i := 5) (v := ?_) rfl (by kernel_rfl) (by kernel_rfl) (by kernel_rfl) (fun _ _ _ h => h) (Or.inl ⟨by rfl, ?_⟩) (by assumption) ?_; rotate_left; focus (intro w hSw; (try dsimp only at hSw); go_simp; try with_reducible rfl))
              (try simp only [List.getElem_toArray, List.getElem_cons_succ, List.getElem_cons_zero, Act.put, List.setIfInBounds_toArray, List.set_cons_zero, List.set_cons_succ])
              (refine wpAnyH_take (i := 6) (v := ?_) rfl (by kernel_rfl) (by kernel_rfl) (by kernel_rfl) (fun _ _ _ h => h) (Or.inl ⟨by rfl, ?_⟩) (by assumption) ?_; rotate_left; focus (intro w hSw; (try dsimp only at hSw); go_simp; try with_reducible rfl))
              (try simp only [List.getElem_toArray, List.getElem_cons_succ, List.getElem_cons_zero, Act.put, List.setIfInBounds_toArray, List.set_cons_zero, List.set_cons_succ])
              (refine wpAnyH_take (i := 7) (v := ?_) rfl (by kernel_rfl) (by kernel_rfl) (by kernel_rfl) (fun _ _ _ h => h) (Or.inl ⟨by rfl, ?_⟩) (by assumption) ?_; rotate_left; focus (intro w hSw; (try dsimp only at hSw); go_simp; try with_reducible rfl))
              (try simp only [List.getElem_toArray, List.getElem_cons_succ, List.getElem_cons_zero, Act.put, List.setIfInBounds_toArray, List.set_cons_zero, List.set_cons_succ])
              (refine wpAnyH_take (i := 8) (v := ?_) rfl (by kernel_rfl) (by kernel_rfl) (by kernel_rfl) (fun _ _ _ h => h) (Or.inl ⟨by rfl, ?_⟩) (by assumption) ?_; rotate_left; focus (intro w hSw; (try dsimp only at hSw); go_simp; try with_reducible rfl))
              (try simp only [List.getElem_toArray, List.getElem_cons_succ, List.getElem_cons_zero, Act.put, List.setIfInBounds_toArray, List.set_cons_zero, List.set_cons_succ])
              refine wpAnyH_ready (rs := [9]) (by kernel_rfl) (by simp) ?_
              refine AllReadyH.cons rfl (fun K hK => ?_) AllReadyH.nil
              go_simp
              (with_reducible refine (HB.out _ (held3_below (by assumption))).mono ?_); rw [HBG.out]; rintro e w9 ⟨rfl, b9⟩; go_wp2_with fail
              refine hK.out _ _ (by first | exact S0 | exact held3_drew S0 | assumption | exact held3_step hp1 hp2 hp3 S0 (by assumption) | exact held3_step hp1 hp2 hp3 (by assumption) (by assumption) | exact held3_drew (by assumption)) (fun hHeld => ?_)
              clear hK K
              (try simp only [List.getElem_toArray, List.getElem_cons_succ, List.getElem_cons_zero, Act.put, List.setIfInBounds_toArray, List.set_cons_zero, List.set_cons_succ])
              (refine wpAnyH_take (i := 10) (v := ?_) rfl (by kernel_rfl) (by kernel_rfl) (by kernel_rfl) (fun _ _ _ h => h) (Or.inl ⟨by rfl, ?_⟩) (by assumption) ?_; rotate_left; focus (intro w hSw; (try dsimp only at hSw); go_simp; try with_reducible rfl))
              (try simp only [List.getElem_toArray, List.getElem_cons_succ, List.getElem_cons_zero, Act.put, List.setIfInBounds_toArray, List.set_cons_zero, List.set_cons_succ])
              (refine wpAnyH_take (i := 11) (v := ?_) rfl (by kernel_rfl) (by kernel_rfl) (by kernel_rfl) (fun _ _ _ h => h) (Or.inl ⟨by rfl, ?_⟩) (by assumption) ?_; rotate_left; focus (intro w hSw; (try dsimp only at hSw); go_simp; try with_reducible rfl))
              (try simp only [List.getElem_toArray, List.getElem_cons_succ, List.getElem_cons_zero, Act.put, List.setIfInBounds_toArray, List.set_cons_zero, List.set_cons_succ])
              (refine wpAnyH_take (i := 12) (v := ?_) rfl (by kernel_rfl) (by kernel_rfl) (by kernel_rfl) (fun _ _ _ h => h) (Or.inl ⟨by rfl, ?_⟩) (by assumption) ?_; rotate_left; focus (intro w hSw; (try dsimp only at hSw); go_simp; try with_reducible rfl))
              (try simp only [List.getElem_toArray, List.getElem_cons_succ, List.getElem_cons_zero, Act.put, List.setIfInBounds_toArray, List.set_cons_zero, List.set_cons_succ])
              (refine wpAnyH_take (i := 13) (v := ?_) rfl (by kernel_rfl) (by kernel_rfl) (by kernel_rfl) (fun _ _ _ h => h) (Or.inl ⟨by rfl, ?_⟩) (by assumption) ?_; rotate_left; focus (intro w hSw; (try dsimp only at hSw); go_simp; try with_reducible rfl))
              (try simp only [List.getElem_toArray, List.getElem_cons_succ, List.getElem_cons_zero, Act.put, List.setIfInBounds_toArray, List.set_cons_zero, List.set_cons_succ])
              (refine wpAnyH_take (i := 14) (v := ?_) rfl (by kernel_rfl) (by kernel_rfl) (by kernel_rfl) (fun _ _ _ h => h) (Or.inl ⟨by rfl, ?_⟩) (by assumption) ?_; rotate_left; focus (intro w hSw; (try dsimp only at hSw); go_simp; try with_reducible rfl))
              (try simp only [List.getElem_toArray, List.getElem_cons_succ, List.getElem_cons_zero, Act.put, List.setIfInBounds_toArray, List.set_cons_zero, List.set_cons_succ])
              (refine wpAnyH_take (i := 15) (v := ?_) rfl (by kernel_rfl) (by kernel_rfl) (by kernel_rfl) (fun _ _ _ h => h) (Or.inl ⟨by rfl, ?_⟩) (by assumption) ?_; rotate_left; focus (intro w hSw; (try dsimp only at hSw); go_simp; try with_reducible rfl))
              (try simp only [List.getElem_toArray, List.getElem_cons_succ, List.getElem_cons_zero, Act.put, List.setIfInBounds_toArray, List.set_cons_zero, List.set_cons_succ])
              (refine wpAnyH_take (i := 16) (v := ?_) rfl (by kernel_rfl) (by kernel_rfl) (by kernel_rfl) (fun _ _ _ h => h) (Or.inl ⟨by rfl, ?_⟩) (by assumption) ?_; rotate_left; focus (intro w hSw; (try dsimp only at hSw); go_simp; try with_reducible rfl))
              (try simp only [List.getElem_toArray, List.getElem_cons_succ, List.getElem_cons_zero, Act.put, List.setIfInBounds_toArray, List.set_cons_zero, List.set_cons_succ])
              (refine wpAnyH_take (i := 17) (v := ?_) rfl (by kernel_rfl) (by kernel_rfl) (by kernel_rfl) (fun _ _ _ h => h) (Or.inl ⟨by rfl, ?_⟩) (by assumption) ?_; rotate_left; focus (intro w hSw; (try dsimp only at hSw); go_simp; try with_reducible rfl))
              (try simp only [List.getElem_toArray, List.getElem_cons_succ, List.getElem_cons_zero, Act.put, List.setIfInBounds_toArray, List.set_cons_zero, List.set_cons_succ])
              (refine wpAnyH_take (i := 18) (v := ?_) rfl (by kernel_rfl) (by kernel_rfl) (by kernel_rfl) (fun _ _ _ h => h) (Or.inl ⟨by rfl, ?_⟩) (by assumption) ?_; rotate_left; focus (intro w hSw; (try dsimp only at hSw); go_simp; try with_reducible rfl))
              (try simp only [List.getElem_toArray, List.getElem_cons_succ, List.getElem_cons_zero, Act.put, List.setIfInBounds_toArray, List.set_cons_zero, List.set_cons_succ])
              refine wpAnyH_done (by kernel_rfl) ?_ _
              first | refine NoPanic.normal ?_ | skip
              have SZ : w9.cell? ⟨w.heap.size, 0, none⟩ = some (.slice (some ⟨b, off, none⟩) l.length cap) ∧ w9.cell? ⟨b, off + k * 2, none⟩ = some (.slice ao o.length co) ∧ w9.cell? ⟨bc, oc + (at_ + o.length), none⟩ = some (.int .i64 (cn : Int)) ∧ Below wr.heap.size wr w9 := by assumption
              have bz9 := held3_below SZ
              clear S0 SZ hHeld c1 cP
              have bP9 := bP.far bz9
              have ho9 := row_below ho' bz9
              have rows9 := hrows'.below bz9
              have gr9 := grown_trans hgr (grown_below bz9) HAT.out
              have bel9 : Below lo w w9 := grown_below9 gr9 hlo (fun g hg => (ho.lt g hg).1)
              have hh9 := hh.kept gr9 (apart_or hh ho (by decide))
              have cP9 := bP9.cell
              have hl9 : lo ≤ w9.heap.size := Nat.le_trans hlw bz9.size
              obtain ⟨hk', hhk⟩ : ∃ hk', hk' = head ++ [(k : Int)] := ⟨_, rfl⟩
              have hkl' : hk'.length = head.length + 1 := by rw [hhk]; simp
              have ba : Below w9.heap.size w9 (w9.alloc (.cells #[.int .i64 (k : Int)] 3)).drew := ((Below.refl _ _).alloc (Nat.le_refl _) _).drew
              have cA := (bP9.far ba).cell
              have one : Reads (w9.alloc (.cells #[.int .i64 (k : Int)] 3)).drew (w9.alloc (.cells #[.int .i64 (k : Int)] 3)).drew.heap.size 1 (some ⟨w9.heap.size, 0, none⟩) [(k : Int)].length (ints [(k : Int)]) := Reads.of_own (World.ownsRow_lit (base := w9.heap.size) (e := 3) (size := 1) w9 #[.int .i64 (k : Int)] 1 (Nat.le_refl _) (by unfold maxLen; omega) rfl)
              have HJ := Lib.hid (show Calls Tryz.prog 52 #[.slice H head.length ch, .slice (some ⟨w9.heap.size, 0, none⟩) 1 1] (w9.alloc (.cells #[.int .i64 (k : Int)] 3)).drew (fun e w' => ∃ vj, e = .returned vj ∧ w'.ownsRow 0 3 1 vj hk'.length (ints hk') ∧ Below w9.heap.size w9 w') from by
                refine (spec_l22Join H _ ch 1 head [(k : Int)] _ (Reads.of_own (row_below hh9 ba)) one (by omega) (by simp)).mono ?_
                rintro e w' ⟨vj, rfl, oj, bj⟩
                rw [← hhk] at oj
                exact ⟨vj, rfl, oj.1.base (Nat.zero_le _), ba.trans (bj.mono ba.size)⟩)
              have HREC := Lib.hid (show ∀ aj cj w5, Below w9.heap.size w9 w5 → w5.ownsRow 0 3 1 (.slice aj hk'.length cj) hk'.length (ints hk') →
                  Calls Tryz.prog 68 #[.agg #[.slice (some ⟨b, off, none⟩) l.length cap], .slice (some ⟨bz, oz, none⟩) zs.length cb, .int .i64 ((at_ : Int) + (o.length : Int)), .slice aj hk'.length cj, .slice (some ⟨bc, oc, none⟩) (zs.length + 1) cc, .int .i64 (most : Int), .slice Av (curR l (zs.drop at_) head out most k).length kv] w5 (ReadRes lo (.slice Av (curR l (zs.drop at_) head out most k).length kv) (curR l (zs.drop at_) head out most (k + 1)) w5) from fun aj cj w5 h5 o5 => by
                have bel5 := bel9.trans (h5.mono hl9)
                have h := HI.out (at_ + o.length) (by omega) (by omega) hk' aj cj (.slice Av (curR l (zs.drop at_) head out most k).length kv) vs' (curR l (zs.drop at_) head out most k) w5 (Nat.le_trans hl9 h5.size) (hr.below bel5) (hz.below bel5) (hc.below bel5) o5 (row_below ho9 h5) (rows9.below h5) hmo (by omega)
                rw [Int.natCast_add, ← List.drop_drop, hhk, ← HY.out, ← hhk] at h
                exact h)
              clear hhk hkl' one ba
              go_wp2
              first | refine wp_region_noPanic ?_ | skip
              refine wp_region_held_drew (S := fun w' => w'.cell? ⟨w.heap.size, 0, none⟩ = some (.slice (some ⟨b, off, none⟩) l.length cap)) (by kernel_rfl) (by first | exact cP9 | exact cA | assumption) (fun hHeld => ?_)
              (refine wpAnyH_take (i := 0) (v := ?_) rfl (by kernel_rfl) (by kernel_rfl) (by kernel_rfl) (fun _ _ _ h => h) (Or.inl ⟨by rfl, ?_⟩) (by assumption) ?_; rotate_left; focus (intro w hSw; (try dsimp only at hSw); go_simp; try with_reducible rfl))
              (try simp only [List.getElem_toArray, List.getElem_cons_succ, List.getElem_cons_zero, Act.put, List.setIfInBounds_toArray, List.set_cons_zero, List.set_cons_succ])
              (refine wpAnyH_take (i := 1) (v := ?_) rfl (by kernel_rfl) (by kernel_rfl) (by kernel_rfl) (fun _ _ _ h => h) (Or.inl ⟨by rfl, ?_⟩) (by assumption) ?_; rotate_left; focus (intro w hSw; (try dsimp only at hSw); go_simp; try with_reducible rfl))
              (try simp only [List.getElem_toArray, List.getElem_cons_succ, List.getElem_cons_zero, Act.put, List.setIfInBounds_toArray, List.set_cons_zero, List.set_cons_succ])
              (refine wpAnyH_take (i := 2) (v := ?_) rfl (by kernel_rfl) (by kernel_rfl) (by kernel_rfl) (fun _ _ _ h => h) (Or.inl ⟨by rfl, ?_⟩) (by assumption) ?_; rotate_left; focus (intro w hSw; (try dsimp only at hSw); go_simp; try with_reducible rfl))
              (try simp only [List.getElem_toArray, List.getElem_cons_succ, List.getElem_cons_zero, Act.put, List.setIfInBounds_toArray, List.set_cons_zero, List.set_cons_succ])
              (refine wpAnyH_take (i := 3) (v := ?_) rfl (by kernel_rfl) (by kernel_rfl) (by kernel_rfl) (fun _ _ _ h => h) (Or.inl ⟨by rfl, ?_⟩) (by assumption) ?_; rotate_left; focus (intro w hSw; (try dsimp only at hSw); go_simp; try with_reducible rfl))
              (try simp only [List.getElem_toArray, List.getElem_cons_succ, List.getElem_cons_zero, Act.put, List.setIfInBounds_toArray, List.set_cons_zero, List.set_cons_succ])
              (refine wpAnyH_take (i := 4) (v := ?_) rfl (by kernel_rfl) (by kernel_rfl) (by kernel_rfl) (fun _ _ _ h => h) (Or.inl ⟨by rfl, ?_⟩) (by assumption) ?_; rotate_left; focus (intro w hSw; (try dsimp only at hSw); go_simp; try with_reducible rfl))
              (try simp only [List.getElem_toArray, List.getElem_cons_succ, List.getElem_cons_zero, Act.put, List.setIfInBounds_toArray, List.set_cons_zero, List.set_cons_succ])
              (refine wpAnyH_take (i := 5) (v := ?_) rfl (by kernel_rfl) (by kernel_rfl) (by kernel_rfl) (fun _ _ _ h => h) (Or.inl ⟨by rfl, ?_⟩) (by assumption) ?_; rotate_left; focus (intro w hSw; (try dsimp only at hSw); go_simp; try with_reducible rfl))
              (try simp only [List.getElem_toArray, List.getElem_cons_succ, List.getElem_cons_zero, Act.put, List.setIfInBounds_toArray, List.set_cons_zero, List.set_cons_succ])
              (refine wpAnyH_take (i := 6) (v := ?_) rfl (by kernel_rfl) (by kernel_rfl) (by kernel_rfl) (fun _ _ _ h => h) (Or.inl ⟨by rfl, ?_⟩) (by assumption) ?_; rotate_left; focus (intro w hSw; (try dsimp only at hSw); go_simp; try with_reducible rfl))
              (try simp only [List.getElem_toArray, List.getElem_cons_succ, List.getElem_cons_zero, Act.put, List.setIfInBounds_toArray, List.set_cons_zero, List.set_cons_succ])
              (refine wpAnyH_take (i := 9) (v := ?_) rfl (by kernel_rfl) (by kernel_rfl) (by kernel_rfl) (fun _ _ _ h => h) (Or.inl ⟨by rfl, ?_⟩) (by assumption) ?_; rotate_left; focus (intro w hSw; (try dsimp only at hSw); go_simp; try with_reducible rfl))
              (try simp only [List.getElem_toArray, List.getElem_cons_succ, List.getElem_cons_zero, Act.put, List.setIfInBounds_toArray, List.set_cons_zero, List.set_cons_succ])
              (refine wpAnyH_take (i := 10) (v := ?_) rfl (by kernel_rfl) (by kernel_rfl) (by kernel_rfl) (fun _ _ _ h => h) (Or.inl ⟨by rfl, ?_⟩) (by assumption) ?_; rotate_left; focus (intro w hSw; (try dsimp only at hSw); go_simp; try with_reducible rfl))
              (try simp only [List.getElem_toArray, List.getElem_cons_succ, List.getElem_cons_zero, Act.put, List.setIfInBounds_toArray, List.set_cons_zero, List.set_cons_succ])
              (refine wpAnyH_take (i := 11) (v := ?_) rfl (by kernel_rfl) (by kernel_rfl) (by kernel_rfl) (fun _ _ _ h => h) (Or.inl ⟨by rfl, ?_⟩) (by assumption) ?_; rotate_left; focus (intro w hSw; (try dsimp only at hSw); go_simp; try with_reducible rfl))
              (try simp only [List.getElem_toArray, List.getElem_cons_succ, List.getElem_cons_zero, Act.put, List.setIfInBounds_toArray, List.set_cons_zero, List.set_cons_succ])
              refine wpAnyH_ready (rs := [7]) (by kernel_rfl) (by simp) ?_
              refine AllReadyH.cons rfl (fun K hK => ?_) AllReadyH.nil
              go_simp
              skip
              refine hK.out _ _ (by first | exact cP9 | exact cA | assumption) (fun hHeld => ?_)
              clear hK K
              (try simp only [List.getElem_toArray, List.getElem_cons_succ, List.getElem_cons_zero, Act.put, List.setIfInBounds_toArray, List.set_cons_zero, List.set_cons_succ])
              refine wpAnyH_ready (rs := [8]) (by kernel_rfl) (by simp) ?_
              refine AllReadyH.cons rfl (fun K hK => ?_) AllReadyH.nil
              go_simp
              (with_reducible refine HJ.out.mono ?_); rintro e w5 ⟨vj, rfl, oj, bj⟩; obtain ⟨aj, cj, rfl, -, -, -⟩ := (Own.of_row oj).slice; have c5 := (bP9.far bj).cell; go_wp2_with fail
              refine hK.out _ _ (by first | exact cP9 | exact cA | assumption) (fun hHeld => ?_)
              clear hK K
              (try simp only [List.getElem_toArray, List.getElem_cons_succ, List.getElem_cons_zero, Act.put, List.setIfInBounds_toArray, List.set_cons_zero, List.set_cons_succ])
              refine wpAnyH_ready (rs := [12]) (by kernel_rfl) (by simp) ?_
              refine AllReadyH.cons rfl (fun K hK => ?_) AllReadyH.nil
              go_simp
              (with_reducible refine (HREC.out aj cj _ (by exact bj) (by exact oj)).mono ?_); rintro e w6 ⟨v6, vs6, rfl, o6, rows6, gr6, at6⟩; have ho5 := row_below ho9 bj; have bP5 := bP9.far bj; have bP6 := bP5.grown gr6 (bP5.ne_own ho5 (by decide)); have c6 := bP6.cell; go_wp2_with fail
              refine hK.out _ _ (by first | exact cP9 | exact cA | assumption) (fun hHeld => ?_)
              clear hK K
              (try simp only [List.getElem_toArray, List.getElem_cons_succ, List.getElem_cons_zero, Act.put, List.setIfInBounds_toArray, List.set_cons_zero, List.set_cons_succ])
              (refine wpAnyH_take (i := 13) (v := ?_) rfl (by kernel_rfl) (by kernel_rfl) (by kernel_rfl) (fun _ _ _ h => h) (Or.inl ⟨by rfl, ?_⟩) (by assumption) ?_; rotate_left; focus (intro w hSw; (try dsimp only at hSw); go_simp; try with_reducible rfl))
              (try simp only [List.getElem_toArray, List.getElem_cons_succ, List.getElem_cons_zero, Act.put, List.setIfInBounds_toArray, List.set_cons_zero, List.set_cons_succ])
              refine wpAnyH_done (by kernel_rfl) ?_ _
              first | refine NoPanic.normal ?_ | skip
              have gr5 := grown_trans gr9 (grown_below bj) HAT.out
              clear hHeld c5 c6 cP9 cA x1
              go_wp2
              go_roundw
              case rel => exact ⟨k + 1, vs6, by omega, by go_num, o6, rows6, grown_trans gr5 gr6 HAT.out, next_trans HAT.out at6 gr5.size, bP6⟩
              case measure => simp [intOf]; omega
        · have HF := Lib.hid (show curR l (zs.drop at_) head out most l.length = curR l (zs.drop at_) head out most k by have h := HST.out k (by omega) (l.length - k); rwa [show k + (l.length - k) = l.length by omega] at h)
          have i3 : (k : Int) < (l.length : Int) := by omega
          have i6 : ¬ ((curR l (zs.drop at_) head out most k).length : Int) < (most : Int) := by omega
          obtain ⟨Av, kv, rfl, -, -, -⟩ := (Own.of_row ho').slice
          go_wp2
          go_ret
          exact ⟨_, vs', rfl, by rw [HF.out]; exact ho', by rw [HF.out]; exact hrows', hgr, HAT.out⟩
      · obtain rfl : k = l.length := by omega
        go_wp2
        go_ret
        exact ⟨_, vs', rfl, ho', hrows', hgr, HAT.out⟩

theorem spec_l22Read (lo most : Nat) (A B C : Option Addr) (cap cb cc : Nat) (l : List EntD) (zs : List Int) (hv : dictB l = true) (h60 : zs.length ≤ 60) (hcb : zs.length ≤ cb) (hcm : cb ≤ maxLen) (hm50 : most ≤ 50) :
    ∀ (n at_ : Nat), zs.length - at_ ≤ n → at_ ≤ zs.length → ReadSpec lo most A B C cap cb cc l zs at_
  | 0, at_, hn, hat => spec_read_step lo most A B C cap cb cc l zs hv h60 hcb hcm hm50 at_ hat (fun a' h1 h2 => by omega)
  | n + 1, at_, hn, hat => spec_read_step lo most A B C cap cb cc l zs hv h60 hcb hcm hm50 at_ hat (fun a' h1 h2 => spec_l22Read lo most A B C cap cb cc l zs hv h60 hcb hcm hm50 n a' (by omega) h2)

theorem all_zero {l : List EntD} {zs : List Int} : allR l zs 0 = [] := takeM_full (by simp) _
theorem all_none {l : List EntD} {zs : List Int} {m : Nat} (h : readD l zs = []) : allR l zs m = [] := by simp [allR, h, rowsOf, takeM]
theorem rows_empty {l : List EntD} {zs : List Int} {most : Int} {w w' : World} {lo g : Nat} (hb : allB l zs most = true) (h0 : allR l zs most.toNat = []) (hown : w'.ownsRow lo 26 1 (.slice (some ⟨g, 0, none⟩) 0 0) 0 []) (hlo : w.heap.size ≤ lo) (h : Below w.heap.size w w') : RowsRes (allB l zs most) (allD l zs most) w (.returned (.tuple #[.slice (some ⟨g, 0, none⟩) 0 0, .bool true])) w' := by
  rw [allD_yes hb, h0]
  exact rows_yes hb hown (RowsAt.nil _ _) hlo h
set_option maxHeartbeats 4000000 in
theorem spec_AllReadings (A B : Option Addr) (cap cb : Nat) (l : List EntD) (zs : List Int) (most : Int) (w : World) (hr : DictR w w.heap.size A l) (hn : l.length ≤ 1048576) (hs : ShortD l) (hz : Reads w w.heap.size 1 B zs.length (ints zs)) (hzn : zs.length ≤ 1048576) (hcb : zs.length ≤ cb) (hcm : cb ≤ maxLen) :
    Calls Tryz.prog 33 #[.agg #[.slice A l.length cap], .slice B zs.length cb, .int .i64 most] w (RowsRes (allB l zs most) (allD l zs most) w) := by
  obtain ⟨W1, hW1⟩ : ∃ W1, W1 = w.alloc (.cells #[.slice A l.length cap] 31) := ⟨_, rfl⟩
  have hb1 : Below w.heap.size w W1 := by rw [hW1]; exact (Below.refl _ _).alloc (Nat.le_refl _) _
  have bP : Box W1 w.heap.size 31 (.slice A l.length cap) := by rw [hW1]; exact Box.new w _ _
  have HS := Lib.hid hs
  have cP := bP.cell
  clear hs
  cases hv : dictB l
  · have HV := Lib.hid hv
    have HR := Lib.hid (show allB l zs most = false by simp [allB, hv])
    rw [allD_no HR.out]
    clear hv
    go_enter Tryz.func33, Tryz.ntmps33
    go_wp2_with fail
    rw [← hW1]
    clear hW1
    refine (spec_l6Good A cap l _ ((hr.below hb1).more hb1.size) hn HS.out).mono ?_
    rw [HV.out]
    rintro e w3 ⟨rfl, b3⟩
    go_wp2
    go_ret2
    exact rows_no HR.out (hb1.trans (b3.mono hb1.size))
  have HV := Lib.hid hv
  cases hst : strokesB zs
  · have HT := Lib.hid hst
    have HR := Lib.hid (show allB l zs most = false by simp [allB, hst])
    rw [allD_no HR.out]
    clear hv hst
    go_enter Tryz.func33, Tryz.ntmps33
    go_wp2_with fail
    rw [← hW1]
    clear hW1
    refine (spec_l6Good A cap l _ ((hr.below hb1).more hb1.size) hn HS.out).mono ?_
    rw [HV.out]
    rintro e w3 ⟨rfl, b3⟩
    have B3 := hb1.trans (b3.mono hb1.size)
    go_wp2_with fail
    refine (spec_l7Strokes B cb zs _ ((hz.below B3).more B3.size) hzn).mono ?_
    rw [HT.out]
    rintro e w4 ⟨rfl, rfl⟩
    go_wp2
    go_ret2
    exact rows_no HR.out B3
  have HT := Lib.hid hst
  have h60 := strokes_len hst
  cases hin : inB most 0 50
  · have HN := Lib.hid hin
    have HR := Lib.hid (show allB l zs most = false by simp [allB, hin])
    rw [allD_no HR.out]
    clear hv hst hin
    go_enter Tryz.func33, Tryz.ntmps33
    go_wp2_with fail
    rw [← hW1]
    clear hW1
    refine (spec_l6Good A cap l _ ((hr.below hb1).more hb1.size) hn HS.out).mono ?_
    rw [HV.out]
    rintro e w3 ⟨rfl, b3⟩
    have B3 := hb1.trans (b3.mono hb1.size)
    go_wp2_with fail
    refine (spec_l7Strokes B cb zs _ ((hz.below B3).more B3.size) hzn).mono ?_
    rw [HT.out]
    rintro e w4 ⟨rfl, rfl⟩
    go_wp2_with fail
    refine (spec_l1In most 0 50 _).mono ?_
    rw [HN.out]
    rintro e w4 ⟨rfl, rfl⟩
    go_wp2
    go_ret2
    exact rows_no HR.out B3
  have HN := Lib.hid hin
  have HR := Lib.hid (show allB l zs most = true by simp [allB, hv, hst, hin])
  have HE := Lib.hid (dict_ne hv)
  obtain ⟨hm0, hm50⟩ := inB_iff.1 hin
  obtain ⟨mo, rfl⟩ := Int.eq_ofNat_of_zero_le hm0
  clear hv hst hin
  by_cases hmz : mo = 0
  · subst hmz
    have HN0 := Lib.hid (show inB (0 : Int) 0 50 = true by decide)
    go_enter Tryz.func33, Tryz.ntmps33
    go_wp2_with fail
    rw [← hW1]
    clear hW1
    refine (spec_l6Good A cap l _ ((hr.below hb1).more hb1.size) hn HS.out).mono ?_
    rw [HV.out]
    rintro e w3 ⟨rfl, b3⟩
    have B3 := hb1.trans (b3.mono hb1.size)
    go_wp2_with fail
    refine (spec_l7Strokes B cb zs _ ((hz.below B3).more B3.size) hzn).mono ?_
    rw [HT.out]
    rintro e w4 ⟨rfl, rfl⟩
    go_wp2_with fail
    refine (spec_l1In _ 0 50 _).mono ?_
    rw [HN0.out]
    rintro e w4 ⟨rfl, rfl⟩
    have B4 := B3.alloc B3.size (.cells #[] 26)
    have own0 : (w3.alloc (.cells #[] 26)).ownsRow w.heap.size 26 1 (.slice (some ⟨w3.heap.size, 0, none⟩) 0 0) 0 [] := World.ownsRow_made _ _ _ B3.size (by simp) rfl
    go_wp2
    go_ret2
    exact rows_empty HR.out all_zero own0 (Nat.le_refl _) B4
  have e0 : ((mo : Int) == 0) = false := by simp; omega
  have e0' : ¬ mo = 0 := hmz
  go_enter Tryz.func33, Tryz.ntmps33
  go_wp2_with fail
  rw [← hW1]
  clear hW1
  refine (spec_l6Good A cap l _ ((hr.below hb1).more hb1.size) hn HS.out).mono ?_
  rw [HV.out]
  rintro e w3 ⟨rfl, b3⟩
  have B3 := hb1.trans (b3.mono hb1.size)
  have cP3 := (bP.far b3).cell
  have bP3 := bP.far b3
  clear cP
  go_wp2_with fail
  refine (spec_l7Strokes B cb zs _ ((hz.below B3).more B3.size) hzn).mono ?_
  rw [HT.out]
  rintro e w4 ⟨rfl, rfl⟩
  go_wp2_with fail
  refine (spec_l1In _ 0 50 _).mono ?_
  rw [HN.out]
  rintro e w4 ⟨rfl, rfl⟩
  go_wp2_with fail
  refine (spec_l22Counts A B cap cb l zs _ ((hr.below B3).more B3.size) HV.out ((hz.below B3).more B3.size) h60 hcb hcm).mono ?_
  rintro e w5 ⟨g, rfl, o5, b5⟩
  have B5 := B3.trans (b5.mono B3.size)
  have bP5 := bP3.far b5
  have cP5 := bP5.cell
  have c5 := (o5.1.cellAt 0 (by omega)).trans (ints_at _ (cntRow_at HE.out (Nat.zero_le _)))
  rw [List.drop_zero] at c5
  have x0 : (0 : Int) < (zs.length : Int) + 1 := by omega
  have hnl : numR l zs ≤ 1000001 := Nat.min_le_left _ _
  have HNN := Lib.hid (fun h => num_none (l := l) (zs := zs) h)
  obtain ⟨cn, hcn⟩ : ∃ cn, cn = numR l zs := ⟨_, rfl⟩
  rw [← hcn] at c5 HNN hnl
  clear hcn cP3
  by_cases hc0 : cn = 0
  · have HZ := Lib.hid (all_none (m := mo) (HNN.out hc0))
    subst hc0
    have B6 := B5.alloc B5.size (.cells #[] 26)
    have own0 : (w5.alloc (.cells #[] 26)).ownsRow w.heap.size 26 1 (.slice (some ⟨w5.heap.size, 0, none⟩) 0 0) 0 [] := World.ownsRow_made _ _ _ B5.size (by simp) rfl
    go_wp2
    go_ret2
    exact rows_empty HR.out HZ.out own0 (Nat.le_refl _) B6
  · have e2 : ((cn : Int) == 0) = false := by simp; omega
    have e2' : ¬ cn = 0 := hc0
    have ba := (Below.refl w5.heap.size w5).alloc (Nat.le_refl _) (.cells #[] 3)
    have hhead : (w5.alloc (.cells #[] 3)).ownsRow 0 3 1 (.slice (some ⟨w5.heap.size, 0, none⟩) 0 0) 0 [] := World.ownsRow_made _ _ _ (Nat.zero_le _) (by simp) rfl
    have BA := B5.trans (ba.mono B5.size)
    obtain ⟨wA, hwA⟩ : ∃ wA, wA = w5.alloc (.cells #[] 3) := ⟨_, rfl⟩
    have hsA : wA.heap.size = w5.heap.size + 1 := by rw [hwA]; simp
    rw [← hwA] at ba hhead BA
    have bb := (Below.refl wA.heap.size wA).alloc (Nat.le_refl _) (.cells #[] 26)
    have hout : (wA.alloc (.cells #[] 26)).ownsRow wA.heap.size 26 1 (.slice (some ⟨wA.heap.size, 0, none⟩) 0 0) 0 [] := World.ownsRow_made _ _ _ (Nat.le_refl _) (by simp) rfl
    have BB := BA.trans (bb.mono BA.size)
    have hcr : Reads wA wA.heap.size 1 (some ⟨g, 0, none⟩) (zs.length + 1) (ints (cntRow l zs zs.length)) := ((Reads.of_own o5.1).below ba).more ba.size
    have HRD := Lib.hid (show Calls Tryz.prog 68 #[.agg #[.slice A l.length cap], .slice B zs.length cb, .int .i64 0, .slice (some ⟨w5.heap.size, 0, none⟩) 0 0, .slice (some ⟨g, 0, none⟩) (zs.length + 1) (zs.length + 1), .int .i64 (mo : Int), .slice (some ⟨wA.heap.size, 0, none⟩) 0 0] (wA.alloc (.cells #[] 26)) (ReadRes wA.heap.size (.slice (some ⟨wA.heap.size, 0, none⟩) 0 0) (allR l zs mo) (wA.alloc (.cells #[] 26))) from by
      have h := spec_l22Read wA.heap.size mo A B (some ⟨g, 0, none⟩) cap cb (zs.length + 1) l zs HV.out h60 hcb hcm (by omega) zs.length 0 (by omega) (Nat.zero_le _) [] (some ⟨w5.heap.size, 0, none⟩) 0 (.slice (some ⟨wA.heap.size, 0, none⟩) 0 0) [] [] (wA.alloc (.cells #[] 26)) (by simp) ((hr.below BB).more (by have := BA.size; omega)) ((hz.below BB).more (by have := BA.size; omega)) (hcr.below bb) (row_below hhead bb) hout (RowsAt.nil _ _) (by simp; omega) (Nat.le_refl _)
      exact h)
    have hsz : w.heap.size ≤ wA.heap.size := BA.size
    clear ba hhead hout hcr bb
    go_wp2_with fail
    rw [← hwA]
    rw [← hsA] at *
    refine HRD.out.mono ?_
    rintro e w9 ⟨v9, vs9, rfl, o9, rows9, gr9, at9⟩
    have B9 : Below w.heap.size w w9 := BB.trans (grown_below9 gr9 BB.size (fun g hg => by simp [Value.ownBlock] at hg; omega))
    clear hwA
    go_wp2
    go_ret2
    rw [allD_yes HR.out]
    exact rows_yes HR.out o9 rows9 hsz B9
end Go.Proofs.YtekidodfcanjaaaGreatDoor
