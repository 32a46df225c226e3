/-
  NARROWER THAN 'FOR EVERY INPUT', by the rows' own cells (each row's printed sentence says how): FnExactAmbiguousStrokes: laid · FnTheoryConflicts: laid · FnTheoryAmbiguous: laid · FnTheoryReadings: laid · FnTheorySegments: laid.
  DERIVED. THE GIVEN ROWS OF THIS SEAT. 5 by the template 'for every input the law returns true; each argument reads behind the call as it read before'; 0 by the template 'total and deterministic' (their statements: YtekidodfcanjaaaGreatDoorTotals.lean).
  GIVEN WITH THE SEED: the statements are not yours to turn. If you find one false, say at which input.
  Laid BY PROGRAM, IN A SANDBOX (cutbox-rows.mjs): the forced cells as the released guide's own fill.sh prints them over the translation 536299c55afe225e… (all of the seat's roots in one cut). By AI agents, Wed Nov 11 2026. No macro, syntax, notation, axiom, sorry.
-/
import Derived.Test.YtekidodfcanjaaaGreatDoorChecked
import GoSem.PinnedTables
import GoSem.Claim
import GoSem.ClaimJoined
import GoSem.ClaimMapViews
import Derived.JoinedTies
import Derived.KernelRfl
namespace Go.Proofs.YtekidodfcanjaaaGreatDoor
/- THE CELL 'sum', in the pinned program and in every row, IS THE sha256 OF THE DUMP (.gsa) THAT YtekidodfcanjaaaGreatDoorProg.lean LOADS. Nothing in Lean hashes anything: it is a label: what it is worth is what the hold of that sum in a sandbox is worth. -/
noncomputable def Tryz.pinned : Pinned := { name := "ytekidodfcanjaaagreatdoor", sum := "536299c55afe225ebbcb9bad12f1e451ab477aab4662283a1507ec2139a73d6a", checked := Tryz.checked }
namespace Rows
def none {H : Type} : Left H := { results := [], args := [] }

/- WHAT THE LISTED PACKAGE-LEVEL VARIABLES READ AS WHEN THE CALL BEGINS. Each datum BY PROGRAM (the guide's laid-datum.mjs) off the statement by which the dump's own 'gosem.cut.vars' lays the variable. In a bare row this is a premise. The card (YtekidodfcanjaaaGreatDoorCards.lean) ties it to the program's text. -/
def laid_unicode_utf8_acceptRanges {H : Type} : DataW H := .agg [.agg [.lit (.int .u8 128), .lit (.int .u8 191)], .agg [.lit (.int .u8 160), .lit (.int .u8 191)], .agg [.lit (.int .u8 128), .lit (.int .u8 159)], .agg [.lit (.int .u8 144), .lit (.int .u8 191)], .agg [.lit (.int .u8 128), .lit (.int .u8 143)], .agg [.lit (.int .u8 0), .lit (.int .u8 0)], .agg [.lit (.int .u8 0), .lit (.int .u8 0)], .agg [.lit (.int .u8 0), .lit (.int .u8 0)], .agg [.lit (.int .u8 0), .lit (.int .u8 0)], .agg [.lit (.int .u8 0), .lit (.int .u8 0)], .agg [.lit (.int .u8 0), .lit (.int .u8 0)], .agg [.lit (.int .u8 0), .lit (.int .u8 0)], .agg [.lit (.int .u8 0), .lit (.int .u8 0)], .agg [.lit (.int .u8 0), .lit (.int .u8 0)], .agg [.lit (.int .u8 0), .lit (.int .u8 0)], .agg [.lit (.int .u8 0), .lit (.int .u8 0)]]
/-- One of Go's own tables, pinned by name: the form's constant. -/
def laid_unicode_utf8_first : DataW Unit := Go.Pinned.utf8First

/-- 'laws.FnExactAmbiguousStrokes': WHATEVER THE INPUT: true; the input reads as it did. -/
def fnExactAmbiguousStrokesSpec : ChangeSpec := { name := "fnExactAmbiguousStrokes", fn := fun _ => fun
  | [d] => { results := [.lit (.bool true)], args := [d] }
  | _ => none }
def fnExactAmbiguousStrokesRow : OpenClaim := { program := "ytekidodfcanjaaagreatdoor", sum := "536299c55afe225ebbcb9bad12f1e451ab477aab4662283a1507ec2139a73d6a", func := "loop.example/g00882/laws.FnExactAmbiguousStrokes", spec := "fnExactAmbiguousStrokes", inPlace := ["internal/bytealg.CountString", "internal/bytealg.IndexByteString", "internal/bytealg.IndexString"], unfollowed := true, recurses := true, named := ["unicode/utf8.first", "unicode/utf8.acceptRanges", "internal/bytealg.MaxLen"], apart := false, laid := [("unicode/utf8.acceptRanges", laid_unicode_utf8_acceptRanges), ("unicode/utf8.first", laid_unicode_utf8_first)] }
def FnExactAmbiguousStrokesSaid : Prop := fnExactAmbiguousStrokesRow.holds Tryz.pinned (OpenSpec.ofChange fnExactAmbiguousStrokesSpec)

/-- ITS FALSE NEIGHBOUR: 'it returns false'. Refute it at one input. -/
def fnExactAmbiguousStrokesWrong : ChangeSpec := { name := "fnExactAmbiguousStrokes", fn := fun _ => fun
  | [d] => { results := [.lit (.bool false)], args := [d] }
  | _ => none }
def FnExactAmbiguousStrokesWrongFalsely : Prop := fnExactAmbiguousStrokesRow.holds Tryz.pinned (OpenSpec.ofChange fnExactAmbiguousStrokesWrong)

/-- 'laws.FnTheoryConflicts': WHATEVER THE INPUT: true; the input reads as it did. -/
def fnTheoryConflictsSpec : ChangeSpec := { name := "fnTheoryConflicts", fn := fun _ => fun
  | [d] => { results := [.lit (.bool true)], args := [d] }
  | _ => none }
def fnTheoryConflictsRow : OpenClaim := { program := "ytekidodfcanjaaagreatdoor", sum := "536299c55afe225ebbcb9bad12f1e451ab477aab4662283a1507ec2139a73d6a", func := "loop.example/g00882/laws.FnTheoryConflicts", spec := "fnTheoryConflicts", inPlace := ["internal/bytealg.CountString", "internal/bytealg.IndexByteString", "internal/bytealg.IndexString"], unfollowed := true, recurses := true, named := ["unicode/utf8.first", "unicode/utf8.acceptRanges", "internal/bytealg.MaxLen"], apart := false, laid := [("unicode/utf8.acceptRanges", laid_unicode_utf8_acceptRanges), ("unicode/utf8.first", laid_unicode_utf8_first)] }
def FnTheoryConflictsSaid : Prop := fnTheoryConflictsRow.holds Tryz.pinned (OpenSpec.ofChange fnTheoryConflictsSpec)

/-- ITS FALSE NEIGHBOUR: 'it returns false'. Refute it at one input. -/
def fnTheoryConflictsWrong : ChangeSpec := { name := "fnTheoryConflicts", fn := fun _ => fun
  | [d] => { results := [.lit (.bool false)], args := [d] }
  | _ => none }
def FnTheoryConflictsWrongFalsely : Prop := fnTheoryConflictsRow.holds Tryz.pinned (OpenSpec.ofChange fnTheoryConflictsWrong)

/-- 'laws.FnTheoryAmbiguous': WHATEVER THE INPUT: true; the input reads as it did. -/
def fnTheoryAmbiguousSpec : ChangeSpec := { name := "fnTheoryAmbiguous", fn := fun _ => fun
  | [d] => { results := [.lit (.bool true)], args := [d] }
  | _ => none }
def fnTheoryAmbiguousRow : OpenClaim := { program := "ytekidodfcanjaaagreatdoor", sum := "536299c55afe225ebbcb9bad12f1e451ab477aab4662283a1507ec2139a73d6a", func := "loop.example/g00882/laws.FnTheoryAmbiguous", spec := "fnTheoryAmbiguous", inPlace := ["internal/bytealg.CountString", "internal/bytealg.IndexByteString", "internal/bytealg.IndexString"], unfollowed := true, recurses := true, named := ["unicode/utf8.first", "unicode/utf8.acceptRanges", "internal/bytealg.MaxLen"], apart := false, laid := [("unicode/utf8.acceptRanges", laid_unicode_utf8_acceptRanges), ("unicode/utf8.first", laid_unicode_utf8_first)] }
def FnTheoryAmbiguousSaid : Prop := fnTheoryAmbiguousRow.holds Tryz.pinned (OpenSpec.ofChange fnTheoryAmbiguousSpec)

/-- ITS FALSE NEIGHBOUR: 'it returns false'. Refute it at one input. -/
def fnTheoryAmbiguousWrong : ChangeSpec := { name := "fnTheoryAmbiguous", fn := fun _ => fun
  | [d] => { results := [.lit (.bool false)], args := [d] }
  | _ => none }
def FnTheoryAmbiguousWrongFalsely : Prop := fnTheoryAmbiguousRow.holds Tryz.pinned (OpenSpec.ofChange fnTheoryAmbiguousWrong)

/-- 'laws.FnTheoryReadings': WHATEVER THE INPUT: true; the input reads as it did. -/
def fnTheoryReadingsSpec : ChangeSpec := { name := "fnTheoryReadings", fn := fun _ => fun
  | [d] => { results := [.lit (.bool true)], args := [d] }
  | _ => none }
def fnTheoryReadingsRow : OpenClaim := { program := "ytekidodfcanjaaagreatdoor", sum := "536299c55afe225ebbcb9bad12f1e451ab477aab4662283a1507ec2139a73d6a", func := "loop.example/g00882/laws.FnTheoryReadings", spec := "fnTheoryReadings", inPlace := ["internal/bytealg.CountString", "internal/bytealg.IndexByteString", "internal/bytealg.IndexString"], unfollowed := true, recurses := true, named := ["unicode/utf8.first", "unicode/utf8.acceptRanges", "internal/bytealg.MaxLen"], apart := false, laid := [("unicode/utf8.acceptRanges", laid_unicode_utf8_acceptRanges), ("unicode/utf8.first", laid_unicode_utf8_first)] }
def FnTheoryReadingsSaid : Prop := fnTheoryReadingsRow.holds Tryz.pinned (OpenSpec.ofChange fnTheoryReadingsSpec)

/-- ITS FALSE NEIGHBOUR: 'it returns false'. Refute it at one input. -/
def fnTheoryReadingsWrong : ChangeSpec := { name := "fnTheoryReadings", fn := fun _ => fun
  | [d] => { results := [.lit (.bool false)], args := [d] }
  | _ => none }
def FnTheoryReadingsWrongFalsely : Prop := fnTheoryReadingsRow.holds Tryz.pinned (OpenSpec.ofChange fnTheoryReadingsWrong)

/-- 'laws.FnTheorySegments': WHATEVER THE INPUT: true; the input reads as it did. -/
def fnTheorySegmentsSpec : ChangeSpec := { name := "fnTheorySegments", fn := fun _ => fun
  | [d] => { results := [.lit (.bool true)], args := [d] }
  | _ => none }
def fnTheorySegmentsRow : OpenClaim := { program := "ytekidodfcanjaaagreatdoor", sum := "536299c55afe225ebbcb9bad12f1e451ab477aab4662283a1507ec2139a73d6a", func := "loop.example/g00882/laws.FnTheorySegments", spec := "fnTheorySegments", inPlace := ["internal/bytealg.CountString", "internal/bytealg.IndexByteString", "internal/bytealg.IndexString"], unfollowed := true, recurses := true, named := ["unicode/utf8.first", "unicode/utf8.acceptRanges", "internal/bytealg.MaxLen"], apart := false, laid := [("unicode/utf8.acceptRanges", laid_unicode_utf8_acceptRanges), ("unicode/utf8.first", laid_unicode_utf8_first)] }
def FnTheorySegmentsSaid : Prop := fnTheorySegmentsRow.holds Tryz.pinned (OpenSpec.ofChange fnTheorySegmentsSpec)

/-- ITS FALSE NEIGHBOUR: 'it returns false'. Refute it at one input. -/
def fnTheorySegmentsWrong : ChangeSpec := { name := "fnTheorySegments", fn := fun _ => fun
  | [d] => { results := [.lit (.bool false)], args := [d] }
  | _ => none }
def FnTheorySegmentsWrongFalsely : Prop := fnTheorySegmentsRow.holds Tryz.pinned (OpenSpec.ofChange fnTheorySegmentsWrong)

/- THE SECOND FORM. 'bulk': how many values and letters a reading holds, each counted each time it is reached (what is shared counts as often as it is met; a slice's spare places count too). A statement '..UptoSaid' is the law's where the arguments, and the package variables that the reading takes, are together of bulk at most 1048576: NARROWER than '..Said'. Prove '..Said' where nothing that the law and all that it calls make is longer than what came in: it says more and counts as full. Else prove '..UptoSaid'. A law counts once. -/
mutual
def uptoBulk {H : Type} : DataW H → Nat
  | .lit (.string bytes) => bytes.length + 1
  | .lit _ => 1
  | .nil => 1
  | .ptr d => uptoBulk d + 1
  | .slice elems spare => uptoBulkAll elems + uptoBulkAll spare + 1
  | .agg parts => uptoBulkAll parts + 1
  | .iface _ d => uptoBulk d + 1
  | .map entries => uptoBulkEntries entries + 1
  | .held _ => 1
def uptoBulkAll {H : Type} : List (DataW H) → Nat
  | [] => 0
  | d :: r => uptoBulk d + uptoBulkAll r
def uptoBulkEntries {H : Type} : List (Lit × DataW H) → Nat
  | [] => 0
  | x :: r => uptoBulkEntry x + uptoBulkEntries r
def uptoBulkEntry {H : Type} : Lit × DataW H → Nat
  | (.string bytes, d) => bytes.length + uptoBulk d + 1
  | (_, d) => uptoBulk d + 1
 end
def uptoSmall : (H : Type) → List (DataW H) → Bool := fun _ ds => decide (uptoBulkAll ds ≤ 1048576)
def OpenSpec.upto (s : _root_.Go.ChangeSpec) : _root_.Go.OpenSpec := { _root_.Go.OpenSpec.ofChange s with cond := some uptoSmall }

/-- 'laws.FnExactAmbiguousStrokes', WHERE WHAT IT READS IS OF BULK AT MOST 1048576: true; the input reads as it did. -/
def fnExactAmbiguousStrokesUptoRow : OpenClaim := { program := "ytekidodfcanjaaagreatdoor", sum := "536299c55afe225ebbcb9bad12f1e451ab477aab4662283a1507ec2139a73d6a", func := "loop.example/g00882/laws.FnExactAmbiguousStrokes", spec := "fnExactAmbiguousStrokes", inPlace := ["internal/bytealg.CountString", "internal/bytealg.IndexByteString", "internal/bytealg.IndexString"], unfollowed := true, recurses := true, named := ["unicode/utf8.first", "unicode/utf8.acceptRanges", "internal/bytealg.MaxLen"], apart := false, laid := [("unicode/utf8.acceptRanges", laid_unicode_utf8_acceptRanges), ("unicode/utf8.first", laid_unicode_utf8_first)], narrowed := true }
def FnExactAmbiguousStrokesUptoSaid : Prop := fnExactAmbiguousStrokesUptoRow.holds Tryz.pinned (OpenSpec.upto fnExactAmbiguousStrokesSpec)

/-- 'laws.FnTheoryConflicts', WHERE WHAT IT READS IS OF BULK AT MOST 1048576: true; the input reads as it did. -/
def fnTheoryConflictsUptoRow : OpenClaim := { program := "ytekidodfcanjaaagreatdoor", sum := "536299c55afe225ebbcb9bad12f1e451ab477aab4662283a1507ec2139a73d6a", func := "loop.example/g00882/laws.FnTheoryConflicts", spec := "fnTheoryConflicts", inPlace := ["internal/bytealg.CountString", "internal/bytealg.IndexByteString", "internal/bytealg.IndexString"], unfollowed := true, recurses := true, named := ["unicode/utf8.first", "unicode/utf8.acceptRanges", "internal/bytealg.MaxLen"], apart := false, laid := [("unicode/utf8.acceptRanges", laid_unicode_utf8_acceptRanges), ("unicode/utf8.first", laid_unicode_utf8_first)], narrowed := true }
def FnTheoryConflictsUptoSaid : Prop := fnTheoryConflictsUptoRow.holds Tryz.pinned (OpenSpec.upto fnTheoryConflictsSpec)

/-- 'laws.FnTheoryAmbiguous', WHERE WHAT IT READS IS OF BULK AT MOST 1048576: true; the input reads as it did. -/
def fnTheoryAmbiguousUptoRow : OpenClaim := { program := "ytekidodfcanjaaagreatdoor", sum := "536299c55afe225ebbcb9bad12f1e451ab477aab4662283a1507ec2139a73d6a", func := "loop.example/g00882/laws.FnTheoryAmbiguous", spec := "fnTheoryAmbiguous", inPlace := ["internal/bytealg.CountString", "internal/bytealg.IndexByteString", "internal/bytealg.IndexString"], unfollowed := true, recurses := true, named := ["unicode/utf8.first", "unicode/utf8.acceptRanges", "internal/bytealg.MaxLen"], apart := false, laid := [("unicode/utf8.acceptRanges", laid_unicode_utf8_acceptRanges), ("unicode/utf8.first", laid_unicode_utf8_first)], narrowed := true }
def FnTheoryAmbiguousUptoSaid : Prop := fnTheoryAmbiguousUptoRow.holds Tryz.pinned (OpenSpec.upto fnTheoryAmbiguousSpec)

/-- 'laws.FnTheoryReadings', WHERE WHAT IT READS IS OF BULK AT MOST 1048576: true; the input reads as it did. -/
def fnTheoryReadingsUptoRow : OpenClaim := { program := "ytekidodfcanjaaagreatdoor", sum := "536299c55afe225ebbcb9bad12f1e451ab477aab4662283a1507ec2139a73d6a", func := "loop.example/g00882/laws.FnTheoryReadings", spec := "fnTheoryReadings", inPlace := ["internal/bytealg.CountString", "internal/bytealg.IndexByteString", "internal/bytealg.IndexString"], unfollowed := true, recurses := true, named := ["unicode/utf8.first", "unicode/utf8.acceptRanges", "internal/bytealg.MaxLen"], apart := false, laid := [("unicode/utf8.acceptRanges", laid_unicode_utf8_acceptRanges), ("unicode/utf8.first", laid_unicode_utf8_first)], narrowed := true }
def FnTheoryReadingsUptoSaid : Prop := fnTheoryReadingsUptoRow.holds Tryz.pinned (OpenSpec.upto fnTheoryReadingsSpec)

/-- 'laws.FnTheorySegments', WHERE WHAT IT READS IS OF BULK AT MOST 1048576: true; the input reads as it did. -/
def fnTheorySegmentsUptoRow : OpenClaim := { program := "ytekidodfcanjaaagreatdoor", sum := "536299c55afe225ebbcb9bad12f1e451ab477aab4662283a1507ec2139a73d6a", func := "loop.example/g00882/laws.FnTheorySegments", spec := "fnTheorySegments", inPlace := ["internal/bytealg.CountString", "internal/bytealg.IndexByteString", "internal/bytealg.IndexString"], unfollowed := true, recurses := true, named := ["unicode/utf8.first", "unicode/utf8.acceptRanges", "internal/bytealg.MaxLen"], apart := false, laid := [("unicode/utf8.acceptRanges", laid_unicode_utf8_acceptRanges), ("unicode/utf8.first", laid_unicode_utf8_first)], narrowed := true }
def FnTheorySegmentsUptoSaid : Prop := fnTheorySegmentsUptoRow.holds Tryz.pinned (OpenSpec.upto fnTheorySegmentsSpec)

end Rows
end Go.Proofs.YtekidodfcanjaaaGreatDoor
