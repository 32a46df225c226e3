/-
  The ends of outlines: a search meets no more than so many. Plain values; no program is named here.
-/
import Derived.Test.YtekidodfcanjaaaDoorDictPl
namespace Go.Proofs.YtekidodfcanjaaaDoor
set_option linter.unusedVariables false

theorem nodup_len {α : Type} [DecidableEq α] : ∀ (a b : List α), a.Nodup → (∀ x ∈ a, x ∈ b) → a.length ≤ b.length
  | [], b, _, _ => Nat.zero_le _
  | x :: a, b, hn, h => by
    have hn' := List.nodup_cons.1 hn
    have hx := h x (by simp)
    have h1 := nodup_len a (b.erase x) hn'.2 (fun y hy => (List.mem_erase_of_ne (fun e => hn'.1 (by rw [← e]; exact hy))).2 (h y (by simp [hy])))
    rw [List.length_erase_of_mem hx] at h1
    have := List.length_pos_of_mem hx
    simp only [List.length_cons]
    omega
def tailsL (E : List (List Int)) : List (List Int) := E.flatMap fun o => (List.range (o.length + 1)).map o.drop
theorem tails_len : ∀ (E : List (List Int)), (∀ o ∈ E, o.length ≤ 6) → (tailsL E).length ≤ 7 * E.length
  | [], _ => by simp [tailsL]
  | o :: E, h => by
    have h1 := tails_len E (fun x hx => h x (by simp [hx]))
    have h2 := h o (by simp)
    unfold tailsL at h1 ⊢
    rw [List.flatMap_cons, List.length_append]
    simp only [List.length_map, List.length_range, List.length_cons]
    omega
theorem reach_tails {E : List (List Int)} {r a : List Int} (h : Reach E r a) : r ∈ tailsL E := by
  obtain ⟨o, ho, k, hk, rfl⟩ := reach_tail h
  exact List.mem_flatMap.2 ⟨o, ho, List.mem_map.2 ⟨k, List.mem_range.2 (by omega), rfl⟩⟩
/-- Ends that are read once more, each met once: not more than 280. -/
theorem rests_len {E : List (List Int)} (hE : E.length ≤ 40) (ho : ∀ o ∈ E, o.length ≤ 6) {rs : List (List Int)} (hn : rs.Nodup) (hr : ∀ r ∈ rs, ∃ a, Reach E r a) : rs.length ≤ 280 := by
  have h1 := nodup_len rs (tailsL E) hn (fun r h => by obtain ⟨a, ha⟩ := hr r h; exact reach_tails ha)
  have h2 := tails_len E ho
  omega
theorem rest_len {E : List (List Int)} (ho : ∀ o ∈ E, o.length ≤ 6) {r a : List Int} (h : Reach E r a) : r.length ≤ 6 := by
  obtain ⟨o, hoE, k, hk, rfl⟩ := reach_tail h
  have := ho o hoE
  simp
  omega
end Go.Proofs.YtekidodfcanjaaaDoor
