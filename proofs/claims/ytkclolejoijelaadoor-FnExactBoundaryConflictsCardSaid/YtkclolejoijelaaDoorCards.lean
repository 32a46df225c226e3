/-
  DERIVED. GIVEN WITH THE SEED: THE CARDS: each row of YtkclolejoijelaaDoorRows.lean that lists a variable, with what it lists TIED to the program's text (the seventh form; the later family's looks); each row that meets fmt, with fmt's text TOLD by the authors' own Lean function (tested against real Go, not proved from fmt's source: count such statements apart). THE CARD IS WHAT COUNTS. Prove the row's statement (the work); the ties are given (YtkclolejoijelaaDoorTie.lean); close each card by the builder's one call (the guide's Derived/Test/ToyasCard.lean, 'card_holds'). Laid BY PROGRAM, IN A SANDBOX (cutbox-door.mjs). By AI agents, Wed Nov 11 2026. No macro, syntax, notation, axiom, sorry.
-/
import Derived.Test.YtkclolejoijelaaDoorRows
import GoSem.ClaimSeven
namespace Go.Proofs.YtkclolejoijelaaDoor
namespace Rows

/-- THE TIED CARD OF 'laws.FnExactCountReadings'. -/
def fnExactCountReadingsCard : Claim7 := { stood := { row := fnExactCountReadingsRow, standIns := [], harness := (true, "ad78c302bd63f33e3e2dd2c169a054144a397f945e69433078f2583e27843036"), looks := false }, kinds := [], alts := [], laidByText := true, laidKinds := [.data, .pinned], laidTests := true, laidLooks := .later }
def FnExactCountReadingsCardSaid : Prop := Claim7.holds Tryd.pinned (.plain (OpenSpec.ofChange fnExactCountReadingsSpec)) fnExactCountReadingsCard

/-- THE TIED CARD OF 'laws.FnExactDuplicateTexts'. -/
def fnExactDuplicateTextsCard : Claim7 := { stood := { row := fnExactDuplicateTextsRow, standIns := [], harness := (true, "ad78c302bd63f33e3e2dd2c169a054144a397f945e69433078f2583e27843036"), looks := false }, kinds := [], alts := [], laidByText := true, laidKinds := [.data, .pinned], laidTests := true, laidLooks := .later }
def FnExactDuplicateTextsCardSaid : Prop := Claim7.holds Tryd.pinned (.plain (OpenSpec.ofChange fnExactDuplicateTextsSpec)) fnExactDuplicateTextsCard

/-- THE TIED CARD OF 'laws.FnExactPrefixPairs'. -/
def fnExactPrefixPairsCard : Claim7 := { stood := { row := fnExactPrefixPairsRow, standIns := [], harness := (true, "ad78c302bd63f33e3e2dd2c169a054144a397f945e69433078f2583e27843036"), looks := false }, kinds := [], alts := [], laidByText := true, laidKinds := [.data, .pinned], laidTests := true, laidLooks := .later }
def FnExactPrefixPairsCardSaid : Prop := Claim7.holds Tryd.pinned (.plain (OpenSpec.ofChange fnExactPrefixPairsSpec)) fnExactPrefixPairsCard

/-- THE TIED CARD OF 'laws.FnExactBoundaryConflicts'. -/
def fnExactBoundaryConflictsCard : Claim7 := { stood := { row := fnExactBoundaryConflictsRow, standIns := [], harness := (true, "ad78c302bd63f33e3e2dd2c169a054144a397f945e69433078f2583e27843036"), looks := false }, kinds := [], alts := [], laidByText := true, laidKinds := [.data, .pinned], laidTests := true, laidLooks := .later }
def FnExactBoundaryConflictsCardSaid : Prop := Claim7.holds Tryd.pinned (.plain (OpenSpec.ofChange fnExactBoundaryConflictsSpec)) fnExactBoundaryConflictsCard

/-- THE TIED CARD OF 'laws.FnExactIsUniquelyReadable'. -/
def fnExactIsUniquelyReadableCard : Claim7 := { stood := { row := fnExactIsUniquelyReadableRow, standIns := [], harness := (true, "ad78c302bd63f33e3e2dd2c169a054144a397f945e69433078f2583e27843036"), looks := false }, kinds := [], alts := [], laidByText := true, laidKinds := [.data, .pinned], laidTests := true, laidLooks := .later }
def FnExactIsUniquelyReadableCardSaid : Prop := Claim7.holds Tryd.pinned (.plain (OpenSpec.ofChange fnExactIsUniquelyReadableSpec)) fnExactIsUniquelyReadableCard

/-- THE SECOND FORM's CARD OF 'laws.FnExactCountReadings'. -/
def fnExactCountReadingsUptoCard : Claim7 := { stood := { row := fnExactCountReadingsUptoRow, standIns := [], harness := (true, "ad78c302bd63f33e3e2dd2c169a054144a397f945e69433078f2583e27843036"), looks := false }, kinds := [], alts := [], laidByText := true, laidKinds := [.data, .pinned], laidTests := true, laidLooks := .later }
def FnExactCountReadingsUptoCardSaid : Prop := Claim7.holds Tryd.pinned (.plain (OpenSpec.upto fnExactCountReadingsSpec)) fnExactCountReadingsUptoCard

/-- THE SECOND FORM's CARD OF 'laws.FnExactDuplicateTexts'. -/
def fnExactDuplicateTextsUptoCard : Claim7 := { stood := { row := fnExactDuplicateTextsUptoRow, standIns := [], harness := (true, "ad78c302bd63f33e3e2dd2c169a054144a397f945e69433078f2583e27843036"), looks := false }, kinds := [], alts := [], laidByText := true, laidKinds := [.data, .pinned], laidTests := true, laidLooks := .later }
def FnExactDuplicateTextsUptoCardSaid : Prop := Claim7.holds Tryd.pinned (.plain (OpenSpec.upto fnExactDuplicateTextsSpec)) fnExactDuplicateTextsUptoCard

/-- THE SECOND FORM's CARD OF 'laws.FnExactPrefixPairs'. -/
def fnExactPrefixPairsUptoCard : Claim7 := { stood := { row := fnExactPrefixPairsUptoRow, standIns := [], harness := (true, "ad78c302bd63f33e3e2dd2c169a054144a397f945e69433078f2583e27843036"), looks := false }, kinds := [], alts := [], laidByText := true, laidKinds := [.data, .pinned], laidTests := true, laidLooks := .later }
def FnExactPrefixPairsUptoCardSaid : Prop := Claim7.holds Tryd.pinned (.plain (OpenSpec.upto fnExactPrefixPairsSpec)) fnExactPrefixPairsUptoCard

/-- THE SECOND FORM's CARD OF 'laws.FnExactBoundaryConflicts'. -/
def fnExactBoundaryConflictsUptoCard : Claim7 := { stood := { row := fnExactBoundaryConflictsUptoRow, standIns := [], harness := (true, "ad78c302bd63f33e3e2dd2c169a054144a397f945e69433078f2583e27843036"), looks := false }, kinds := [], alts := [], laidByText := true, laidKinds := [.data, .pinned], laidTests := true, laidLooks := .later }
def FnExactBoundaryConflictsUptoCardSaid : Prop := Claim7.holds Tryd.pinned (.plain (OpenSpec.upto fnExactBoundaryConflictsSpec)) fnExactBoundaryConflictsUptoCard

/-- THE SECOND FORM's CARD OF 'laws.FnExactIsUniquelyReadable'. -/
def fnExactIsUniquelyReadableUptoCard : Claim7 := { stood := { row := fnExactIsUniquelyReadableUptoRow, standIns := [], harness := (true, "ad78c302bd63f33e3e2dd2c169a054144a397f945e69433078f2583e27843036"), looks := false }, kinds := [], alts := [], laidByText := true, laidKinds := [.data, .pinned], laidTests := true, laidLooks := .later }
def FnExactIsUniquelyReadableUptoCardSaid : Prop := Claim7.holds Tryd.pinned (.plain (OpenSpec.upto fnExactIsUniquelyReadableSpec)) fnExactIsUniquelyReadableUptoCard
end Rows
end Go.Proofs.YtkclolejoijelaaDoor
