/-
  The keys of a stroke and the usage of all keys, as plain functions. No program is named here.
-/
import Derived.Test.YtfgfbnmcihjfmaaBase
namespace Go.Proofs.Ytfgfbnmcihjfmaa
set_option linter.unusedVariables false

def bitB (s : Int) (k : Nat) : Bool := bits .and .i64 (s / 2 ^ k) 1 == 1
def keysTo (s : Int) (k : Nat) : List Int := ((List.range k).filter (bitB s)).map fun (j : Nat) => (j : Int)
def keysL (s : Int) : List Int := keysTo s 23
theorem keysTo_succ_yes {s : Int} {k : Nat} (h : bitB s k = true) : keysTo s (k + 1) = keysTo s k ++ [(k : Int)] := by simp [keysTo, List.range_succ, List.filter_append, h]
theorem keysTo_succ_no {s : Int} {k : Nat} (h : bitB s k = false) : keysTo s (k + 1) = keysTo s k := by simp [keysTo, List.range_succ, List.filter_append, h]
theorem keysTo_le (s : Int) (k : Nat) : (keysTo s k).length ≤ k := by
  have h := List.length_filter_le (bitB s) (List.range k)
  simpa [keysTo] using h
theorem keysL_le (s : Int) : (keysL s).length ≤ 23 := keysTo_le s 23
theorem keysL_at {s x : Int} {j : Nat} (h : (keysL s)[j]? = some x) : 0 ≤ x ∧ x < 23 := by
  have hm := List.mem_of_getElem? h
  simp only [keysL, keysTo, List.mem_map, List.mem_filter, List.mem_range] at hm
  obtain ⟨k, hk, rfl⟩ := hm
  omega

def bump (u : List Int) (k : Int) : List Int := u.set k.toNat ((u[k.toNat]?.getD 0) + 1)
def bumps (u : List Int) (ks : List Int) : List Int := ks.foldl bump u
theorem bump_length (u : List Int) (k : Int) : (bump u k).length = u.length := by simp [bump]
theorem bumps_length (ks : List Int) : ∀ u : List Int, (bumps u ks).length = u.length := by
  induction ks with
  | nil => intro u; rfl
  | cons k ks ih => intro u; exact (ih (bump u k)).trans (bump_length u k)
theorem bumps_take_succ {u ks : List Int} {j : Nat} {k : Int} (h : ks[j]? = some k) : bumps u (ks.take (j + 1)) = bump (bumps u (ks.take j)) k := by
  rw [List.take_add_one, h]
  simp [bumps]
def Bd (u : List Int) (B : Int) : Prop := ∀ x ∈ u, 0 ≤ x ∧ x ≤ B
theorem Bd.at_ {u : List Int} {B : Int} (h : Bd u B) {k : Nat} {x : Int} (hx : u[k]? = some x) : 0 ≤ x ∧ x ≤ B := h x (List.mem_of_getElem? hx)
theorem bump_bd {u : List Int} {B : Int} (h : Bd u B) (h0 : 0 ≤ B) (k : Int) : Bd (bump u k) (B + 1) := by
  intro x hx
  rcases List.mem_or_eq_of_mem_set hx with h1 | rfl
  · have := h x h1; omega
  · cases hu : u[k.toNat]? with
    | none => simp; omega
    | some y => have := h.at_ hu; simp; omega
theorem bumps_bd (ks : List Int) : ∀ (u : List Int) (B : Int), 0 ≤ B → Bd u B → Bd (bumps u ks) (B + ks.length) := by
  induction ks with
  | nil => intro u B _ h; simpa [bumps] using h
  | cons k ks ih =>
    intro u B h0 h x hx
    have := ih (bump u k) (B + 1) (by omega) (bump_bd h h0 k) x hx
    simp only [List.length_cons]
    omega

def usageFrom (u : List Int) (zs : List Int) : List Int := zs.foldl (fun u s => bumps u (keysL s)) u
def usageL (zs : List Int) : List Int := usageFrom (List.replicate 23 0) zs
theorem usageFrom_snoc (u zs : List Int) (s : Int) : usageFrom u (zs ++ [s]) = bumps (usageFrom u zs) (keysL s) := by simp [usageFrom]
theorem usage_take_succ {zs : List Int} {i : Nat} {s : Int} (h : zs[i]? = some s) : usageL (zs.take (i + 1)) = bumps (usageL (zs.take i)) (keysL s) := by
  rw [List.take_add_one, h]
  exact usageFrom_snoc _ _ _
theorem usageFrom_length (zs : List Int) : ∀ u : List Int, (usageFrom u zs).length = u.length := by
  induction zs with
  | nil => intro u; rfl
  | cons s zs ih => intro u; exact (ih _).trans (bumps_length _ _)
theorem usageL_length (zs : List Int) : (usageL zs).length = 23 := by simp [usageL, usageFrom_length]
theorem usageFrom_bd (zs : List Int) : ∀ (u : List Int) (B : Int), 0 ≤ B → Bd u B → Bd (usageFrom u zs) (B + 23 * zs.length) := by
  induction zs with
  | nil => intro u B _ h; simpa [usageFrom] using h
  | cons s zs ih =>
    intro u B h0 h x hx
    have hk := keysL_le s
    have := ih (bumps u (keysL s)) (B + (keysL s).length) (by omega) (bumps_bd _ _ _ h0 h) x hx
    simp only [List.length_cons]
    omega
theorem usageL_bd (zs : List Int) : Bd (usageL zs) (23 * zs.length) := by
  have := usageFrom_bd zs (List.replicate 23 0) 0 (by omega) (by intro x hx; simp at hx; omega)
  simpa [usageL] using this
theorem sum_snoc (l : List Int) {k : Nat} {x : Int} (h : l[k]? = some x) : (l.take (k + 1)).sum = (l.take k).sum + x := by
  rw [List.take_add_one, h]
  simp
theorem sum_bd (l : List Int) {B : Int} (hB : 0 ≤ B) (h : Bd l B) : 0 ≤ l.sum ∧ l.sum ≤ B * l.length := by
  induction l with
  | nil => simp
  | cons x l ih =>
    have h1 := ih fun y hy => h y (List.mem_cons_of_mem _ hy)
    have h2 := h x List.mem_cons_self
    simp only [List.sum_cons, List.length_cons]
    have : B * ((l.length + 1 : Nat) : Int) = B * l.length + B := by rw [Int.natCast_add, Int.mul_add]; simp
    omega
theorem bd_take {l : List Int} {B : Int} (h : Bd l B) (k : Nat) : Bd (l.take k) B := fun x hx => h x (List.mem_of_mem_take hx)
theorem bd_drop {l : List Int} {B : Int} (h : Bd l B) (k : Nat) : Bd (l.drop k) B := fun x hx => h x (List.mem_of_mem_drop hx)
theorem sum_take_bd (l : List Int) {B : Int} (hB : 0 ≤ B) (h : Bd l B) (k : Nat) : 0 ≤ (l.take k).sum ∧ (l.take k).sum ≤ B * l.length := by
  have h1 := sum_bd (l.take k) hB (bd_take h k)
  have h2 : B * ((l.take k).length : Int) ≤ B * (l.length : Int) := Int.mul_le_mul_of_nonneg_left (by rw [List.length_take]; omega) hB
  omega
def leftL (u : List Int) : List Int := u.take 8
def midL (u : List Int) : List Int := (u.drop 8).take 5
def rightL (u : List Int) : List Int := u.drop 13
end Go.Proofs.Ytfgfbnmcihjfmaa
