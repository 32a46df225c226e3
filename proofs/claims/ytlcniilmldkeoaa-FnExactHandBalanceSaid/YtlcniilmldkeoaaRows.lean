/-
  No cell of these rows narrows 'for every input' (looked for: loops, veiled, ifaces, maps, wideKeys, modest, calm, conditions, laid).
  DERIVED. THE GIVEN ROWS OF THIS SEAT. 4 by the template 'for every input the law returns true; each argument reads behind the call as it read before'; 0 by the template 'total and deterministic' (their statements: YtlcniilmldkeoaaTotals.lean).
  GIVEN WITH THE SEED: the statements are not yours to turn. If you find one false, say at which input.
  Laid BY PROGRAM, IN A SANDBOX (cutbox-rows.mjs): the forced cells as the released guide's own fill.sh prints them over the translation ea370d8b124a239e… (all of the seat's roots in one cut). By AI agents, Wed Nov 11 2026. No macro, syntax, notation, axiom, sorry.
-/
import Derived.Test.YtlcniilmldkeoaaChecked
import GoSem.Claim
import GoSem.ClaimJoined
import GoSem.ClaimMapViews
import Derived.JoinedTies
import Derived.KernelRfl
namespace Go.Proofs.Ytlcniilmldkeoaa
/- THE CELL 'sum', in the pinned program and in every row, IS THE sha256 OF THE DUMP (.gsa) THAT YtlcniilmldkeoaaProg.lean LOADS. Nothing in Lean hashes anything: it is a label: what it is worth is what the hold of that sum in a sandbox is worth. -/
noncomputable def Try.pinned : Pinned := { name := "ytlcniilmldkeoaa", sum := "ea370d8b124a239eaa6202e247757e37c7f9d5006c4f21fc7243838df2f97c3c", checked := Try.checked }
namespace Rows
def none {H : Type} : Left H := { results := [], args := [] }

/-- 'laws.FnExactWordsPerMinute': WHATEVER THE INPUT: true; the input reads as it did. -/
def fnExactWordsPerMinuteSpec : ChangeSpec := { name := "fnExactWordsPerMinute", fn := fun _ => fun
  | [d1, d2] => { results := [.lit (.bool true)], args := [d1, d2] }
  | _ => none }
def fnExactWordsPerMinuteRow : OpenClaim := { program := "ytlcniilmldkeoaa", sum := "ea370d8b124a239eaa6202e247757e37c7f9d5006c4f21fc7243838df2f97c3c", func := "loop.example/g00882/laws.FnExactWordsPerMinute", spec := "fnExactWordsPerMinute", apart := false }
def FnExactWordsPerMinuteSaid : Prop := fnExactWordsPerMinuteRow.holds Try.pinned (OpenSpec.ofChange fnExactWordsPerMinuteSpec)

/-- ITS FALSE NEIGHBOUR: 'it returns false'. Refute it at one input. -/
def fnExactWordsPerMinuteWrong : ChangeSpec := { name := "fnExactWordsPerMinute", fn := fun _ => fun
  | [d1, d2] => { results := [.lit (.bool false)], args := [d1, d2] }
  | _ => none }
def FnExactWordsPerMinuteWrongFalsely : Prop := fnExactWordsPerMinuteRow.holds Try.pinned (OpenSpec.ofChange fnExactWordsPerMinuteWrong)

/-- 'laws.FnExactNormalizeWord': WHATEVER THE INPUT: true; the input reads as it did. -/
def fnExactNormalizeWordSpec : ChangeSpec := { name := "fnExactNormalizeWord", fn := fun _ => fun
  | [d] => { results := [.lit (.bool true)], args := [d] }
  | _ => none }
def fnExactNormalizeWordRow : OpenClaim := { program := "ytlcniilmldkeoaa", sum := "ea370d8b124a239eaa6202e247757e37c7f9d5006c4f21fc7243838df2f97c3c", func := "loop.example/g00882/laws.FnExactNormalizeWord", spec := "fnExactNormalizeWord", apart := false }
def FnExactNormalizeWordSaid : Prop := fnExactNormalizeWordRow.holds Try.pinned (OpenSpec.ofChange fnExactNormalizeWordSpec)

/-- ITS FALSE NEIGHBOUR: 'it returns false'. Refute it at one input. -/
def fnExactNormalizeWordWrong : ChangeSpec := { name := "fnExactNormalizeWord", fn := fun _ => fun
  | [d] => { results := [.lit (.bool false)], args := [d] }
  | _ => none }
def FnExactNormalizeWordWrongFalsely : Prop := fnExactNormalizeWordRow.holds Try.pinned (OpenSpec.ofChange fnExactNormalizeWordWrong)

/-- 'laws.FnExactKeyUsage': WHATEVER THE INPUT: true; the input reads as it did. -/
def fnExactKeyUsageSpec : ChangeSpec := { name := "fnExactKeyUsage", fn := fun _ => fun
  | [d] => { results := [.lit (.bool true)], args := [d] }
  | _ => none }
def fnExactKeyUsageRow : OpenClaim := { program := "ytlcniilmldkeoaa", sum := "ea370d8b124a239eaa6202e247757e37c7f9d5006c4f21fc7243838df2f97c3c", func := "loop.example/g00882/laws.FnExactKeyUsage", spec := "fnExactKeyUsage", unfollowed := true, recurses := true, apart := false }
def FnExactKeyUsageSaid : Prop := fnExactKeyUsageRow.holds Try.pinned (OpenSpec.ofChange fnExactKeyUsageSpec)

/-- ITS FALSE NEIGHBOUR: 'it returns false'. Refute it at one input. -/
def fnExactKeyUsageWrong : ChangeSpec := { name := "fnExactKeyUsage", fn := fun _ => fun
  | [d] => { results := [.lit (.bool false)], args := [d] }
  | _ => none }
def FnExactKeyUsageWrongFalsely : Prop := fnExactKeyUsageRow.holds Try.pinned (OpenSpec.ofChange fnExactKeyUsageWrong)

/-- 'laws.FnExactHandBalance': WHATEVER THE INPUT: true; the input reads as it did. -/
def fnExactHandBalanceSpec : ChangeSpec := { name := "fnExactHandBalance", fn := fun _ => fun
  | [d] => { results := [.lit (.bool true)], args := [d] }
  | _ => none }
def fnExactHandBalanceRow : OpenClaim := { program := "ytlcniilmldkeoaa", sum := "ea370d8b124a239eaa6202e247757e37c7f9d5006c4f21fc7243838df2f97c3c", func := "loop.example/g00882/laws.FnExactHandBalance", spec := "fnExactHandBalance", unfollowed := true, recurses := true, apart := false }
def FnExactHandBalanceSaid : Prop := fnExactHandBalanceRow.holds Try.pinned (OpenSpec.ofChange fnExactHandBalanceSpec)

/-- ITS FALSE NEIGHBOUR: 'it returns false'. Refute it at one input. -/
def fnExactHandBalanceWrong : ChangeSpec := { name := "fnExactHandBalance", fn := fun _ => fun
  | [d] => { results := [.lit (.bool false)], args := [d] }
  | _ => none }
def FnExactHandBalanceWrongFalsely : Prop := fnExactHandBalanceRow.holds Try.pinned (OpenSpec.ofChange fnExactHandBalanceWrong)

/- THE SECOND FORM. 'bulk': how many values and letters a reading holds, each counted each time it is reached (what is shared counts as often as it is met; a slice's spare places count too). A statement '..UptoSaid' is the law's where the arguments, and the package variables that the reading takes, are together of bulk at most 1048576: NARROWER than '..Said'. Prove '..Said' where nothing that the law and all that it calls make is longer than what came in: it says more and counts as full. Else prove '..UptoSaid'. A law counts once. -/
mutual
def uptoBulk {H : Type} : DataW H → Nat
  | .lit (.string bytes) => bytes.length + 1
  | .lit _ => 1
  | .nil => 1
  | .ptr d => uptoBulk d + 1
  | .slice elems spare => uptoBulkAll elems + uptoBulkAll spare + 1
  | .agg parts => uptoBulkAll parts + 1
  | .iface _ d => uptoBulk d + 1
  | .map entries => uptoBulkEntries entries + 1
  | .held _ => 1
def uptoBulkAll {H : Type} : List (DataW H) → Nat
  | [] => 0
  | d :: r => uptoBulk d + uptoBulkAll r
def uptoBulkEntries {H : Type} : List (Lit × DataW H) → Nat
  | [] => 0
  | x :: r => uptoBulkEntry x + uptoBulkEntries r
def uptoBulkEntry {H : Type} : Lit × DataW H → Nat
  | (.string bytes, d) => bytes.length + uptoBulk d + 1
  | (_, d) => uptoBulk d + 1
 end
def uptoSmall : (H : Type) → List (DataW H) → Bool := fun _ ds => decide (uptoBulkAll ds ≤ 1048576)
def OpenSpec.upto (s : _root_.Go.ChangeSpec) : _root_.Go.OpenSpec := { _root_.Go.OpenSpec.ofChange s with cond := some uptoSmall }

/-- 'laws.FnExactWordsPerMinute', WHERE WHAT IT READS IS OF BULK AT MOST 1048576: true; the input reads as it did. -/
def fnExactWordsPerMinuteUptoRow : OpenClaim := { program := "ytlcniilmldkeoaa", sum := "ea370d8b124a239eaa6202e247757e37c7f9d5006c4f21fc7243838df2f97c3c", func := "loop.example/g00882/laws.FnExactWordsPerMinute", spec := "fnExactWordsPerMinute", apart := false, narrowed := true }
def FnExactWordsPerMinuteUptoSaid : Prop := fnExactWordsPerMinuteUptoRow.holds Try.pinned (OpenSpec.upto fnExactWordsPerMinuteSpec)

/-- 'laws.FnExactNormalizeWord', WHERE WHAT IT READS IS OF BULK AT MOST 1048576: true; the input reads as it did. -/
def fnExactNormalizeWordUptoRow : OpenClaim := { program := "ytlcniilmldkeoaa", sum := "ea370d8b124a239eaa6202e247757e37c7f9d5006c4f21fc7243838df2f97c3c", func := "loop.example/g00882/laws.FnExactNormalizeWord", spec := "fnExactNormalizeWord", apart := false, narrowed := true }
def FnExactNormalizeWordUptoSaid : Prop := fnExactNormalizeWordUptoRow.holds Try.pinned (OpenSpec.upto fnExactNormalizeWordSpec)

/-- 'laws.FnExactKeyUsage', WHERE WHAT IT READS IS OF BULK AT MOST 1048576: true; the input reads as it did. -/
def fnExactKeyUsageUptoRow : OpenClaim := { program := "ytlcniilmldkeoaa", sum := "ea370d8b124a239eaa6202e247757e37c7f9d5006c4f21fc7243838df2f97c3c", func := "loop.example/g00882/laws.FnExactKeyUsage", spec := "fnExactKeyUsage", unfollowed := true, recurses := true, apart := false, narrowed := true }
def FnExactKeyUsageUptoSaid : Prop := fnExactKeyUsageUptoRow.holds Try.pinned (OpenSpec.upto fnExactKeyUsageSpec)

/-- 'laws.FnExactHandBalance', WHERE WHAT IT READS IS OF BULK AT MOST 1048576: true; the input reads as it did. -/
def fnExactHandBalanceUptoRow : OpenClaim := { program := "ytlcniilmldkeoaa", sum := "ea370d8b124a239eaa6202e247757e37c7f9d5006c4f21fc7243838df2f97c3c", func := "loop.example/g00882/laws.FnExactHandBalance", spec := "fnExactHandBalance", unfollowed := true, recurses := true, apart := false, narrowed := true }
def FnExactHandBalanceUptoSaid : Prop := fnExactHandBalanceUptoRow.holds Try.pinned (OpenSpec.upto fnExactHandBalanceSpec)

end Rows
end Go.Proofs.Ytlcniilmldkeoaa
