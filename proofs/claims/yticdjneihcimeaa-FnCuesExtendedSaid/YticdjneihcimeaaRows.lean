/-
  No cell of these rows narrows 'for every input' (looked for: loops, veiled, ifaces, maps, wideKeys, modest, calm, conditions, laid).
  DERIVED. THE GIVEN ROWS OF THIS SEAT. 10 by the template 'for every input the law returns true; each argument reads behind the call as it read before'; 0 by the template 'total and deterministic' (their statements: YticdjneihcimeaaTotals.lean).
  GIVEN WITH THE SEED: the statements are not yours to turn. If you find one false, say at which input.
  Laid BY PROGRAM, IN A SANDBOX (cutbox-rows.mjs): the forced cells as the released guide's own fill.sh prints them over the translation 9bc8b73e36838183… (all of the seat's roots in one cut). By AI agents, Wed Nov 11 2026. No macro, syntax, notation, axiom, sorry.
-/
import Derived.Test.YticdjneihcimeaaChecked
import GoSem.Claim
import GoSem.ClaimJoined
import GoSem.ClaimMapViews
import Derived.JoinedTies
import Derived.KernelRfl
namespace Go.Proofs.Yticdjneihcimeaa
/- THE CELL 'sum', in the pinned program and in every row, IS THE sha256 OF THE DUMP (.gsa) THAT YticdjneihcimeaaProg.lean LOADS. Nothing in Lean hashes anything: it is a label: what it is worth is what the hold of that sum in a sandbox is worth. -/
noncomputable def Try.pinned : Pinned := { name := "yticdjneihcimeaa", sum := "9bc8b73e3683818342c8d78276ed6e324850852ee1b79c513e280374265fc6dd", checked := Try.checked }
namespace Rows
def none {H : Type} : Left H := { results := [], args := [] }

/-- 'laws.FnExactIsValidCues': WHATEVER THE INPUT: true; the input reads as it did. -/
def fnExactIsValidCuesSpec : ChangeSpec := { name := "fnExactIsValidCues", fn := fun _ => fun
  | [d] => { results := [.lit (.bool true)], args := [d] }
  | _ => none }
def fnExactIsValidCuesRow : OpenClaim := { program := "yticdjneihcimeaa", sum := "9bc8b73e3683818342c8d78276ed6e324850852ee1b79c513e280374265fc6dd", func := "loop.example/g00882/laws.FnExactIsValidCues", spec := "fnExactIsValidCues", apart := false }
def FnExactIsValidCuesSaid : Prop := fnExactIsValidCuesRow.holds Try.pinned (OpenSpec.ofChange fnExactIsValidCuesSpec)

/-- ITS FALSE NEIGHBOUR: 'it returns false'. Refute it at one input. -/
def fnExactIsValidCuesWrong : ChangeSpec := { name := "fnExactIsValidCues", fn := fun _ => fun
  | [d] => { results := [.lit (.bool false)], args := [d] }
  | _ => none }
def FnExactIsValidCuesWrongFalsely : Prop := fnExactIsValidCuesRow.holds Try.pinned (OpenSpec.ofChange fnExactIsValidCuesWrong)

/-- 'laws.FnExactActiveCue': WHATEVER THE INPUT: true; the input reads as it did. -/
def fnExactActiveCueSpec : ChangeSpec := { name := "fnExactActiveCue", fn := fun _ => fun
  | [d1, d2] => { results := [.lit (.bool true)], args := [d1, d2] }
  | _ => none }
def fnExactActiveCueRow : OpenClaim := { program := "yticdjneihcimeaa", sum := "9bc8b73e3683818342c8d78276ed6e324850852ee1b79c513e280374265fc6dd", func := "loop.example/g00882/laws.FnExactActiveCue", spec := "fnExactActiveCue", apart := false }
def FnExactActiveCueSaid : Prop := fnExactActiveCueRow.holds Try.pinned (OpenSpec.ofChange fnExactActiveCueSpec)

/-- ITS FALSE NEIGHBOUR: 'it returns false'. Refute it at one input. -/
def fnExactActiveCueWrong : ChangeSpec := { name := "fnExactActiveCue", fn := fun _ => fun
  | [d1, d2] => { results := [.lit (.bool false)], args := [d1, d2] }
  | _ => none }
def FnExactActiveCueWrongFalsely : Prop := fnExactActiveCueRow.holds Try.pinned (OpenSpec.ofChange fnExactActiveCueWrong)

/-- 'laws.FnCuesMerged': WHATEVER THE INPUT: true; the input reads as it did. -/
def fnCuesMergedSpec : ChangeSpec := { name := "fnCuesMerged", fn := fun _ => fun
  | [d] => { results := [.lit (.bool true)], args := [d] }
  | _ => none }
def fnCuesMergedRow : OpenClaim := { program := "yticdjneihcimeaa", sum := "9bc8b73e3683818342c8d78276ed6e324850852ee1b79c513e280374265fc6dd", func := "loop.example/g00882/laws.FnCuesMerged", spec := "fnCuesMerged", apart := false }
def FnCuesMergedSaid : Prop := fnCuesMergedRow.holds Try.pinned (OpenSpec.ofChange fnCuesMergedSpec)

/-- ITS FALSE NEIGHBOUR: 'it returns false'. Refute it at one input. -/
def fnCuesMergedWrong : ChangeSpec := { name := "fnCuesMerged", fn := fun _ => fun
  | [d] => { results := [.lit (.bool false)], args := [d] }
  | _ => none }
def FnCuesMergedWrongFalsely : Prop := fnCuesMergedRow.holds Try.pinned (OpenSpec.ofChange fnCuesMergedWrong)

/-- 'laws.FnExactMergeCues': WHATEVER THE INPUT: true; the input reads as it did. -/
def fnExactMergeCuesSpec : ChangeSpec := { name := "fnExactMergeCues", fn := fun _ => fun
  | [d1, d2] => { results := [.lit (.bool true)], args := [d1, d2] }
  | _ => none }
def fnExactMergeCuesRow : OpenClaim := { program := "yticdjneihcimeaa", sum := "9bc8b73e3683818342c8d78276ed6e324850852ee1b79c513e280374265fc6dd", func := "loop.example/g00882/laws.FnExactMergeCues", spec := "fnExactMergeCues", apart := false }
def FnExactMergeCuesSaid : Prop := fnExactMergeCuesRow.holds Try.pinned (OpenSpec.ofChange fnExactMergeCuesSpec)

/-- ITS FALSE NEIGHBOUR: 'it returns false'. Refute it at one input. -/
def fnExactMergeCuesWrong : ChangeSpec := { name := "fnExactMergeCues", fn := fun _ => fun
  | [d1, d2] => { results := [.lit (.bool false)], args := [d1, d2] }
  | _ => none }
def FnExactMergeCuesWrongFalsely : Prop := fnExactMergeCuesRow.holds Try.pinned (OpenSpec.ofChange fnExactMergeCuesWrong)

/-- 'laws.FnCuesActive': WHATEVER THE INPUT: true; the input reads as it did. -/
def fnCuesActiveSpec : ChangeSpec := { name := "fnCuesActive", fn := fun _ => fun
  | [d] => { results := [.lit (.bool true)], args := [d] }
  | _ => none }
def fnCuesActiveRow : OpenClaim := { program := "yticdjneihcimeaa", sum := "9bc8b73e3683818342c8d78276ed6e324850852ee1b79c513e280374265fc6dd", func := "loop.example/g00882/laws.FnCuesActive", spec := "fnCuesActive", unfollowed := true, recurses := true, apart := false }
def FnCuesActiveSaid : Prop := fnCuesActiveRow.holds Try.pinned (OpenSpec.ofChange fnCuesActiveSpec)

/-- ITS FALSE NEIGHBOUR: 'it returns false'. Refute it at one input. -/
def fnCuesActiveWrong : ChangeSpec := { name := "fnCuesActive", fn := fun _ => fun
  | [d] => { results := [.lit (.bool false)], args := [d] }
  | _ => none }
def FnCuesActiveWrongFalsely : Prop := fnCuesActiveRow.holds Try.pinned (OpenSpec.ofChange fnCuesActiveWrong)

/-- 'laws.FnExactScaleCues': WHATEVER THE INPUT: true; the input reads as it did. -/
def fnExactScaleCuesSpec : ChangeSpec := { name := "fnExactScaleCues", fn := fun _ => fun
  | [d1, d2, d3] => { results := [.lit (.bool true)], args := [d1, d2, d3] }
  | _ => none }
def fnExactScaleCuesRow : OpenClaim := { program := "yticdjneihcimeaa", sum := "9bc8b73e3683818342c8d78276ed6e324850852ee1b79c513e280374265fc6dd", func := "loop.example/g00882/laws.FnExactScaleCues", spec := "fnExactScaleCues", unfollowed := true, recurses := true, apart := false }
def FnExactScaleCuesSaid : Prop := fnExactScaleCuesRow.holds Try.pinned (OpenSpec.ofChange fnExactScaleCuesSpec)

/-- ITS FALSE NEIGHBOUR: 'it returns false'. Refute it at one input. -/
def fnExactScaleCuesWrong : ChangeSpec := { name := "fnExactScaleCues", fn := fun _ => fun
  | [d1, d2, d3] => { results := [.lit (.bool false)], args := [d1, d2, d3] }
  | _ => none }
def FnExactScaleCuesWrongFalsely : Prop := fnExactScaleCuesRow.holds Try.pinned (OpenSpec.ofChange fnExactScaleCuesWrong)

/-- 'laws.FnExactShiftCues': WHATEVER THE INPUT: true; the input reads as it did. -/
def fnExactShiftCuesSpec : ChangeSpec := { name := "fnExactShiftCues", fn := fun _ => fun
  | [d1, d2] => { results := [.lit (.bool true)], args := [d1, d2] }
  | _ => none }
def fnExactShiftCuesRow : OpenClaim := { program := "yticdjneihcimeaa", sum := "9bc8b73e3683818342c8d78276ed6e324850852ee1b79c513e280374265fc6dd", func := "loop.example/g00882/laws.FnExactShiftCues", spec := "fnExactShiftCues", unfollowed := true, recurses := true, apart := false }
def FnExactShiftCuesSaid : Prop := fnExactShiftCuesRow.holds Try.pinned (OpenSpec.ofChange fnExactShiftCuesSpec)

/-- ITS FALSE NEIGHBOUR: 'it returns false'. Refute it at one input. -/
def fnExactShiftCuesWrong : ChangeSpec := { name := "fnExactShiftCues", fn := fun _ => fun
  | [d1, d2] => { results := [.lit (.bool false)], args := [d1, d2] }
  | _ => none }
def FnExactShiftCuesWrongFalsely : Prop := fnExactShiftCuesRow.holds Try.pinned (OpenSpec.ofChange fnExactShiftCuesWrong)

/-- 'laws.FnCuesExtended': WHATEVER THE INPUT: true; the input reads as it did. -/
def fnCuesExtendedSpec : ChangeSpec := { name := "fnCuesExtended", fn := fun _ => fun
  | [d] => { results := [.lit (.bool true)], args := [d] }
  | _ => none }
def fnCuesExtendedRow : OpenClaim := { program := "yticdjneihcimeaa", sum := "9bc8b73e3683818342c8d78276ed6e324850852ee1b79c513e280374265fc6dd", func := "loop.example/g00882/laws.FnCuesExtended", spec := "fnCuesExtended", apart := false }
def FnCuesExtendedSaid : Prop := fnCuesExtendedRow.holds Try.pinned (OpenSpec.ofChange fnCuesExtendedSpec)

/-- ITS FALSE NEIGHBOUR: 'it returns false'. Refute it at one input. -/
def fnCuesExtendedWrong : ChangeSpec := { name := "fnCuesExtended", fn := fun _ => fun
  | [d] => { results := [.lit (.bool false)], args := [d] }
  | _ => none }
def FnCuesExtendedWrongFalsely : Prop := fnCuesExtendedRow.holds Try.pinned (OpenSpec.ofChange fnCuesExtendedWrong)

/-- 'laws.FnExactTooFast': WHATEVER THE INPUT: true; the input reads as it did. -/
def fnExactTooFastSpec : ChangeSpec := { name := "fnExactTooFast", fn := fun _ => fun
  | [d] => { results := [.lit (.bool true)], args := [d] }
  | _ => none }
def fnExactTooFastRow : OpenClaim := { program := "yticdjneihcimeaa", sum := "9bc8b73e3683818342c8d78276ed6e324850852ee1b79c513e280374265fc6dd", func := "loop.example/g00882/laws.FnExactTooFast", spec := "fnExactTooFast", apart := false }
def FnExactTooFastSaid : Prop := fnExactTooFastRow.holds Try.pinned (OpenSpec.ofChange fnExactTooFastSpec)

/-- ITS FALSE NEIGHBOUR: 'it returns false'. Refute it at one input. -/
def fnExactTooFastWrong : ChangeSpec := { name := "fnExactTooFast", fn := fun _ => fun
  | [d] => { results := [.lit (.bool false)], args := [d] }
  | _ => none }
def FnExactTooFastWrongFalsely : Prop := fnExactTooFastRow.holds Try.pinned (OpenSpec.ofChange fnExactTooFastWrong)

/-- 'laws.FnExactExtendCues': WHATEVER THE INPUT: true; the input reads as it did. -/
def fnExactExtendCuesSpec : ChangeSpec := { name := "fnExactExtendCues", fn := fun _ => fun
  | [d1, d2] => { results := [.lit (.bool true)], args := [d1, d2] }
  | _ => none }
def fnExactExtendCuesRow : OpenClaim := { program := "yticdjneihcimeaa", sum := "9bc8b73e3683818342c8d78276ed6e324850852ee1b79c513e280374265fc6dd", func := "loop.example/g00882/laws.FnExactExtendCues", spec := "fnExactExtendCues", apart := false }
def FnExactExtendCuesSaid : Prop := fnExactExtendCuesRow.holds Try.pinned (OpenSpec.ofChange fnExactExtendCuesSpec)

/-- ITS FALSE NEIGHBOUR: 'it returns false'. Refute it at one input. -/
def fnExactExtendCuesWrong : ChangeSpec := { name := "fnExactExtendCues", fn := fun _ => fun
  | [d1, d2] => { results := [.lit (.bool false)], args := [d1, d2] }
  | _ => none }
def FnExactExtendCuesWrongFalsely : Prop := fnExactExtendCuesRow.holds Try.pinned (OpenSpec.ofChange fnExactExtendCuesWrong)

/- THE SECOND FORM. 'bulk': how many values and letters a reading holds, each counted each time it is reached (what is shared counts as often as it is met; a slice's spare places count too). A statement '..UptoSaid' is the law's where the arguments, and the package variables that the reading takes, are together of bulk at most 1048576: NARROWER than '..Said'. Prove '..Said' where nothing that the law and all that it calls make is longer than what came in: it says more and counts as full. Else prove '..UptoSaid'. A law counts once. -/
mutual
def uptoBulk {H : Type} : DataW H → Nat
  | .lit (.string bytes) => bytes.length + 1
  | .lit _ => 1
  | .nil => 1
  | .ptr d => uptoBulk d + 1
  | .slice elems spare => uptoBulkAll elems + uptoBulkAll spare + 1
  | .agg parts => uptoBulkAll parts + 1
  | .iface _ d => uptoBulk d + 1
  | .map entries => uptoBulkEntries entries + 1
  | .held _ => 1
def uptoBulkAll {H : Type} : List (DataW H) → Nat
  | [] => 0
  | d :: r => uptoBulk d + uptoBulkAll r
def uptoBulkEntries {H : Type} : List (Lit × DataW H) → Nat
  | [] => 0
  | x :: r => uptoBulkEntry x + uptoBulkEntries r
def uptoBulkEntry {H : Type} : Lit × DataW H → Nat
  | (.string bytes, d) => bytes.length + uptoBulk d + 1
  | (_, d) => uptoBulk d + 1
 end
def uptoSmall : (H : Type) → List (DataW H) → Bool := fun _ ds => decide (uptoBulkAll ds ≤ 1048576)
def OpenSpec.upto (s : _root_.Go.ChangeSpec) : _root_.Go.OpenSpec := { _root_.Go.OpenSpec.ofChange s with cond := some uptoSmall }

/-- 'laws.FnExactIsValidCues', WHERE WHAT IT READS IS OF BULK AT MOST 1048576: true; the input reads as it did. -/
def fnExactIsValidCuesUptoRow : OpenClaim := { program := "yticdjneihcimeaa", sum := "9bc8b73e3683818342c8d78276ed6e324850852ee1b79c513e280374265fc6dd", func := "loop.example/g00882/laws.FnExactIsValidCues", spec := "fnExactIsValidCues", apart := false, narrowed := true }
def FnExactIsValidCuesUptoSaid : Prop := fnExactIsValidCuesUptoRow.holds Try.pinned (OpenSpec.upto fnExactIsValidCuesSpec)

/-- 'laws.FnExactActiveCue', WHERE WHAT IT READS IS OF BULK AT MOST 1048576: true; the input reads as it did. -/
def fnExactActiveCueUptoRow : OpenClaim := { program := "yticdjneihcimeaa", sum := "9bc8b73e3683818342c8d78276ed6e324850852ee1b79c513e280374265fc6dd", func := "loop.example/g00882/laws.FnExactActiveCue", spec := "fnExactActiveCue", apart := false, narrowed := true }
def FnExactActiveCueUptoSaid : Prop := fnExactActiveCueUptoRow.holds Try.pinned (OpenSpec.upto fnExactActiveCueSpec)

/-- 'laws.FnCuesMerged', WHERE WHAT IT READS IS OF BULK AT MOST 1048576: true; the input reads as it did. -/
def fnCuesMergedUptoRow : OpenClaim := { program := "yticdjneihcimeaa", sum := "9bc8b73e3683818342c8d78276ed6e324850852ee1b79c513e280374265fc6dd", func := "loop.example/g00882/laws.FnCuesMerged", spec := "fnCuesMerged", apart := false, narrowed := true }
def FnCuesMergedUptoSaid : Prop := fnCuesMergedUptoRow.holds Try.pinned (OpenSpec.upto fnCuesMergedSpec)

/-- 'laws.FnExactMergeCues', WHERE WHAT IT READS IS OF BULK AT MOST 1048576: true; the input reads as it did. -/
def fnExactMergeCuesUptoRow : OpenClaim := { program := "yticdjneihcimeaa", sum := "9bc8b73e3683818342c8d78276ed6e324850852ee1b79c513e280374265fc6dd", func := "loop.example/g00882/laws.FnExactMergeCues", spec := "fnExactMergeCues", apart := false, narrowed := true }
def FnExactMergeCuesUptoSaid : Prop := fnExactMergeCuesUptoRow.holds Try.pinned (OpenSpec.upto fnExactMergeCuesSpec)

/-- 'laws.FnCuesActive', WHERE WHAT IT READS IS OF BULK AT MOST 1048576: true; the input reads as it did. -/
def fnCuesActiveUptoRow : OpenClaim := { program := "yticdjneihcimeaa", sum := "9bc8b73e3683818342c8d78276ed6e324850852ee1b79c513e280374265fc6dd", func := "loop.example/g00882/laws.FnCuesActive", spec := "fnCuesActive", unfollowed := true, recurses := true, apart := false, narrowed := true }
def FnCuesActiveUptoSaid : Prop := fnCuesActiveUptoRow.holds Try.pinned (OpenSpec.upto fnCuesActiveSpec)

/-- 'laws.FnExactScaleCues', WHERE WHAT IT READS IS OF BULK AT MOST 1048576: true; the input reads as it did. -/
def fnExactScaleCuesUptoRow : OpenClaim := { program := "yticdjneihcimeaa", sum := "9bc8b73e3683818342c8d78276ed6e324850852ee1b79c513e280374265fc6dd", func := "loop.example/g00882/laws.FnExactScaleCues", spec := "fnExactScaleCues", unfollowed := true, recurses := true, apart := false, narrowed := true }
def FnExactScaleCuesUptoSaid : Prop := fnExactScaleCuesUptoRow.holds Try.pinned (OpenSpec.upto fnExactScaleCuesSpec)

/-- 'laws.FnExactShiftCues', WHERE WHAT IT READS IS OF BULK AT MOST 1048576: true; the input reads as it did. -/
def fnExactShiftCuesUptoRow : OpenClaim := { program := "yticdjneihcimeaa", sum := "9bc8b73e3683818342c8d78276ed6e324850852ee1b79c513e280374265fc6dd", func := "loop.example/g00882/laws.FnExactShiftCues", spec := "fnExactShiftCues", unfollowed := true, recurses := true, apart := false, narrowed := true }
def FnExactShiftCuesUptoSaid : Prop := fnExactShiftCuesUptoRow.holds Try.pinned (OpenSpec.upto fnExactShiftCuesSpec)

/-- 'laws.FnCuesExtended', WHERE WHAT IT READS IS OF BULK AT MOST 1048576: true; the input reads as it did. -/
def fnCuesExtendedUptoRow : OpenClaim := { program := "yticdjneihcimeaa", sum := "9bc8b73e3683818342c8d78276ed6e324850852ee1b79c513e280374265fc6dd", func := "loop.example/g00882/laws.FnCuesExtended", spec := "fnCuesExtended", apart := false, narrowed := true }
def FnCuesExtendedUptoSaid : Prop := fnCuesExtendedUptoRow.holds Try.pinned (OpenSpec.upto fnCuesExtendedSpec)

/-- 'laws.FnExactTooFast', WHERE WHAT IT READS IS OF BULK AT MOST 1048576: true; the input reads as it did. -/
def fnExactTooFastUptoRow : OpenClaim := { program := "yticdjneihcimeaa", sum := "9bc8b73e3683818342c8d78276ed6e324850852ee1b79c513e280374265fc6dd", func := "loop.example/g00882/laws.FnExactTooFast", spec := "fnExactTooFast", apart := false, narrowed := true }
def FnExactTooFastUptoSaid : Prop := fnExactTooFastUptoRow.holds Try.pinned (OpenSpec.upto fnExactTooFastSpec)

/-- 'laws.FnExactExtendCues', WHERE WHAT IT READS IS OF BULK AT MOST 1048576: true; the input reads as it did. -/
def fnExactExtendCuesUptoRow : OpenClaim := { program := "yticdjneihcimeaa", sum := "9bc8b73e3683818342c8d78276ed6e324850852ee1b79c513e280374265fc6dd", func := "loop.example/g00882/laws.FnExactExtendCues", spec := "fnExactExtendCues", apart := false, narrowed := true }
def FnExactExtendCuesUptoSaid : Prop := fnExactExtendCuesUptoRow.holds Try.pinned (OpenSpec.upto fnExactExtendCuesSpec)

end Rows
end Go.Proofs.Yticdjneihcimeaa
