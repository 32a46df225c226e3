/-
  The contracts of the reference's and the program's NormalizeWord: both return the normalized form of the word.
-/
import Derived.Test.YthokekgdiebhjaaDoorNormPl
import Derived.Test.YthokekgdiebhjaaDoorRows
namespace Go.Proofs.YthokekgdiebhjaaDoor
open Go.RowKit
set_option linter.unusedVariables false

def normS (s : ByteArray) : ByteArray := ⟨(norm s.data.toList).toArray⟩

theorem info_u8 : (Tryd.prog.info? 5).map (fun i => (i.zero, i.size, i.bytes)) = some (some (.int .u8 0), 1, 1) := by kernel_rfl

set_option maxHeartbeats 1000000 in
set_option maxRecDepth 100000 in
theorem spec_NormalizeWord (s : ByteArray) (w : World) (hs : s.size ≤ 1048576) :
    Calls Tryd.prog 31 #[.string s] w fun e w' => e = .returned (.string (normS s)) ∧ Below w.heap.size w w' := by
  go_enter Tryd.func31, Tryd.ntmps31
  go_wp2
  go_loopw [3, 4] (fun v i wr => ∃ k : Nat, k ≤ s.size ∧ i = .int .i64 k ∧ wr.ownsRow w.heap.size 5 1 v (norm (s.data.toList.take k)).length (bytesV (norm (s.data.toList.take k))) ∧ Below w.heap.size w wr)
    (fun _ i _ => s.size - (intOf i).toNat)
  case atStart => exact ⟨0, Nat.zero_le _, rfl, World.ownsRow_made _ _ _ (Nat.le_refl _) (by simp) rfl, (Below.refl _ _).alloc (Nat.le_refl _) _⟩
  case round =>
    obtain ⟨k, hk, rfl, hown, hb⟩ := hrel
    have hn := norm_take_le s k
    have hsz := hb.size
    by_cases hlt : k < s.size
    · go_wp2_with (first
        | (at_builtin; refine wpList_append_one hown hsz (.tmp 31) (.tmp 33) 22 Tryd.underlying22 info_u8 (by omega) (by unfold maxLen; omega) ⟨rfl, rfl, rfl, rfl, rfl, rfl⟩ (by simp) ?_; intro v1 w1 hown1 hb1 _)
        | (at_builtin; refine wpList_append_one hown hsz (.tmp 42) (.tmp 46) 22 Tryd.underlying22 info_u8 (by omega) (by unfold maxLen; omega) ⟨rfl, rfl, rfl, rfl, rfl, rfl⟩ (by simp) ?_; intro v1 w1 hown1 hb1 _))
      all_goals
        go_roundw
        case rel => first
          | (refine ⟨k + 1, by omega, by go_num, ?_, hb⟩; rw [norm_none s k hlt (by omega) (by omega)]; exact hown)
          | (refine ⟨k + 1, by omega, by go_num, ?_, hb.trans hb1⟩; have h := norm_same s k hlt (by omega); rw [h.1, h.2]; exact hown1)
          | (refine ⟨k + 1, by omega, by go_num, ?_, hb.trans hb1⟩; have h := norm_up s k hlt (by omega) (by omega); rw [h.1, h.2]; first | (rw [show ((s[k].toNat : Int) + 32) = (s[k].toNat : Int) + 97 - 65 by omega]; exact hown1) | (rw [show ((s[k].toNat : Int) + 32) = (s[k].toNat : Int) - 65 + 97 by omega]; exact hown1))
        case measure => simp [intOf]; omega
    · have hcv := run_string_of_own (P := Tryd.prog) (src := 22) (dst := 9) hown rfl Tryd.underlying22 Tryd.underlying5 Tryd.underlying9
      go_wp2
      go_ret
      exact ⟨by rw [List.take_of_length_le (by simp; omega)]; rfl, hb⟩

set_option maxHeartbeats 1000000 in
set_option maxRecDepth 100000 in
theorem impl_NormalizeWord (s : ByteArray) (w : World) (hs : s.size ≤ 1048576) :
    Calls Tryd.prog 10 #[.string s] w fun e w' => e = .returned (.string (normS s)) ∧ Below w.heap.size w w' := by
  go_enter Tryd.func10, Tryd.ntmps10
  go_wp2
  go_loopw [3, 9] (fun v i wr => ∃ k : Nat, k ≤ s.size ∧ i = .int .i64 k ∧ wr.ownsRow w.heap.size 5 1 v (norm (s.data.toList.take k)).length (bytesV (norm (s.data.toList.take k))) ∧ Below w.heap.size w wr)
    (fun _ i _ => s.size - (intOf i).toNat)
  case atStart => exact ⟨0, Nat.zero_le _, rfl, World.ownsRow_made _ _ _ (Nat.le_refl _) (by simp) rfl, (Below.refl _ _).alloc (Nat.le_refl _) _⟩
  case round =>
    obtain ⟨k, hk, rfl, hown, hb⟩ := hrel
    have hn := norm_take_le s k
    have hsz := hb.size
    by_cases hlt : k < s.size
    · go_wp2_with (first
        | (at_builtin; refine wpList_append_one hown hsz (.tmp 22) (.tmp 26) 22 Tryd.underlying22 info_u8 (by omega) (by unfold maxLen; omega) ⟨rfl, rfl, rfl, rfl, rfl, rfl⟩ (by simp) ?_; intro v1 w1 hown1 hb1 _)
        | (at_builtin; refine wpList_append_one hown hsz (.tmp 43) (.tmp 45) 22 Tryd.underlying22 info_u8 (by omega) (by unfold maxLen; omega) ⟨rfl, rfl, rfl, rfl, rfl, rfl⟩ (by simp) ?_; intro v1 w1 hown1 hb1 _))
      all_goals
        go_roundw
        case rel => first
          | (refine ⟨k + 1, by omega, by go_num, ?_, hb⟩; rw [norm_none s k hlt (by omega) (by omega)]; exact hown)
          | (refine ⟨k + 1, by omega, by go_num, ?_, hb.trans hb1⟩; have h := norm_same s k hlt (by omega); rw [h.1, h.2]; exact hown1)
          | (refine ⟨k + 1, by omega, by go_num, ?_, hb.trans hb1⟩; have h := norm_up s k hlt (by omega) (by omega); rw [h.1, h.2]; first | (rw [show ((s[k].toNat : Int) + 32) = (s[k].toNat : Int) + 97 - 65 by omega]; exact hown1) | (rw [show ((s[k].toNat : Int) + 32) = (s[k].toNat : Int) - 65 + 97 by omega]; exact hown1))
        case measure => simp [intOf]; omega
    · have hcv := run_string_of_own (P := Tryd.prog) (src := 22) (dst := 9) hown rfl Tryd.underlying22 Tryd.underlying5 Tryd.underlying9
      go_wp2
      go_ret
      exact ⟨by rw [List.take_of_length_le (by simp; omega)]; rfl, hb⟩

end Go.Proofs.YthokekgdiebhjaaDoor
