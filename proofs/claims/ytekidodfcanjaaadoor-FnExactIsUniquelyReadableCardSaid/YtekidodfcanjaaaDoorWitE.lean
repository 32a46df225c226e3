/-
  Whether a state's rest has been met: slices.ContainsFunc over the list of the rests met.
-/
import Derived.Test.YtekidodfcanjaaaDoorWitD
namespace Go.Proofs.YtekidodfcanjaaaDoor
open Go.RowKit
set_option linter.unusedVariables false
set_option linter.unusedSimpArgs false
set_option maxRecDepth 100000

/-- The list of rows at A reads as rows. -/
def ListR (w : World) (A : Option Addr) (rows : List (List Int)) : Prop := 0 < rows.length → ∃ b off, A = some ⟨b, off, none⟩ ∧ ∀ (k : Nat) r, rows[k]? = some r → ∃ (a : Option Addr) (c : Nat), w.cell? ⟨b, off + k, none⟩ = some (.slice a r.length c) ∧ Reads w w.heap.size 1 a r.length (ints r)
set_option maxHeartbeats 2000000 in
theorem IndexFunc_rows (A R : Option Addr) (cap cr g : Nat) (rows : List (List Int)) (r : List Int) (u : Value) (w : World) (hl : ListR w A rows) (hr : Reads w w.heap.size 1 R r.length (ints r)) (hg : Two w g 58 u (.slice R r.length cr)) (hm : r.length ≤ 1048576) (hn : rows.length ≤ 1048576) (hs : ∀ x ∈ rows, x.length ≤ 1048576) :
    Calls Tryd.prog 43 #[.slice A rows.length cap, .func (.func 32) #[] #[.pointer (some ⟨g, 0, none⟩)]] w fun e w' => (∃ z : Int, e = .returned (.int .i64 z) ∧ (0 ≤ z ↔ r ∈ rows)) ∧ ∃ q, w' = w.drewN q := by
  have hin : ∀ args W, (callFunc 32 args).run Tryd.prog W = .ok (.enter 32 args) W := fun args W => run_enter Tryd.func32 (by kernel_rfl) rfl args W
  have HL := Lib.hid hl
  have HS := Lib.hid hs
  have HA1 := Lib.hid (fun (a : Option Addr) (c q : Nat) (p : List Int) (hp : Reads w w.heap.size 1 a p.length (ints p)) (hpn : p.length ≤ 1048576) => ambig1_calls a R c cr g p r u (w.drewN q) (show Reads (w.drewN q) (w.drewN q).heap.size 1 a p.length (ints p) from hp) (show Reads (w.drewN q) (w.drewN q).heap.size 1 R r.length (ints r) from hr) (show Two (w.drewN q) g 58 u (.slice R r.length cr) from hg) hpn hm)
  clear hl hs hr hg
  go_enter Tryd.func43, Tryd.ntmps43
  go_wp2
  go_loopw [8] (fun i wr => ∃ k : Nat, k ≤ rows.length ∧ i = .int .i64 k ∧ (∀ (j : Nat) d, j < k → rows[j]? = some d → d ≠ r) ∧ ∃ q, wr = w.drewN q) (fun i _ => rows.length - (intOf i).toNat)
  case atStart => exact ⟨0, Nat.zero_le _, rfl, fun j _ hj => absurd hj (Nat.not_lt_zero _), 0, rfl⟩
  case round =>
    obtain ⟨k, hk, rfl, hall, q, rfl⟩ := hrel
    have HA := Lib.hid hall
    clear hall
    by_cases hlt : k < rows.length
    · obtain ⟨b, off, rfl, hc⟩ := HL.out (by omega)
      obtain ⟨p, hy⟩ := some_at rows hlt
      obtain ⟨ap, cp, d1, r1⟩ := hc k p hy
      have HF1 := Lib.hid (HA1.out ap cp q p r1 (HS.out p (List.mem_of_getElem? hy)))
      have HY := Lib.hid hy
      have d1' : (w.drewN q).cell? ⟨b, off + k, none⟩ = some (.slice ap p.length cp) := d1
      have i0 : (0 : Int) ≤ (k : Int) := by omega
      have i1 : (k : Int) < (rows.length : Int) := by omega
      clear hy hc r1
      by_cases he : p = r
      · have HE := Lib.hid (decide_eq_true he)
        have HM := Lib.hid (show r ∈ rows by rw [← he]; exact List.mem_of_getElem? HY.out)
        clear he
        go_wp2_with fail
        refine HF1.out.mono ?_
        rw [HE.out]
        rintro e w1 ⟨rfl, q1, rfl⟩
        go_wp2
        go_ret
        exact ⟨⟨(k : Int), rfl, fun _ => HM.out, fun _ => by omega⟩, q + q1, rfl⟩
      · have HE := Lib.hid (decide_eq_false he)
        have HN := Lib.hid he
        clear he
        go_wp2_with fail
        refine HF1.out.mono ?_
        rw [HE.out]
        rintro e w1 ⟨rfl, q1, rfl⟩
        go_wp2
        go_roundw
        case rel => exact ⟨k + 1, by omega, by go_num, fun j d hj hd => by
          rcases Nat.lt_or_ge j k with h | h
          · exact HA.out j d h hd
          · obtain rfl : j = k := by omega
            rw [HY.out] at hd
            obtain rfl := Option.some.inj hd
            exact HN.out, q + q1, rfl⟩
        case measure => simp [intOf]; omega
    · obtain rfl : k = rows.length := by omega
      have HF := Lib.hid (show ¬ r ∈ rows from fun h => by
        obtain ⟨j, hj, e⟩ := List.mem_iff_getElem.1 h
        exact HA.out j _ hj (List.getElem?_eq_getElem hj) e)
      clear hin
      go_wp2
      go_ret
      exact ⟨⟨-1, rfl, fun h => absurd h (by omega), fun h => absurd h HF.out⟩, q, rfl⟩
end Go.Proofs.YtekidodfcanjaaaDoor
