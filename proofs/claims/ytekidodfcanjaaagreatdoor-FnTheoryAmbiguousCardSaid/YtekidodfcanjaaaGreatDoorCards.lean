/-
  DERIVED. GIVEN WITH THE SEED: THE CARDS: each row of YtekidodfcanjaaaGreatDoorRows.lean that lists a variable, with what it lists TIED to the program's text (the seventh form; the later family's looks); each row that meets fmt, with fmt's text TOLD by the authors' own Lean function (tested against real Go, not proved from fmt's source: count such statements apart). THE CARD IS WHAT COUNTS. Prove the row's statement (the work); the ties are given (YtekidodfcanjaaaGreatDoorTie.lean); close each card by the builder's one call (the guide's Derived/Test/ToyasCard.lean, 'card_holds'). Laid BY PROGRAM, IN A SANDBOX (cutbox-door.mjs). By AI agents, Wed Nov 11 2026. No macro, syntax, notation, axiom, sorry.
-/
import Derived.Test.YtekidodfcanjaaaGreatDoorRows
import GoSem.ClaimSeven
namespace Go.Proofs.YtekidodfcanjaaaGreatDoor
namespace Rows

/-- THE TIED CARD OF 'laws.FnExactAmbiguousStrokes'. -/
def fnExactAmbiguousStrokesCard : Claim7 := { stood := { row := fnExactAmbiguousStrokesRow, standIns := [], harness := (true, "6ae8ea2f87311dbf4c92153753eceb25ca923bf021d30905b172cd1373c2e05f"), looks := false }, kinds := [], alts := [], laidByText := true, laidKinds := [.data, .pinned], laidTests := true, laidLooks := .later }
def FnExactAmbiguousStrokesCardSaid : Prop := Claim7.holds Tryz.pinned (.plain (OpenSpec.ofChange fnExactAmbiguousStrokesSpec)) fnExactAmbiguousStrokesCard

/-- THE TIED CARD OF 'laws.FnTheoryConflicts'. -/
def fnTheoryConflictsCard : Claim7 := { stood := { row := fnTheoryConflictsRow, standIns := [], harness := (true, "6ae8ea2f87311dbf4c92153753eceb25ca923bf021d30905b172cd1373c2e05f"), looks := false }, kinds := [], alts := [], laidByText := true, laidKinds := [.data, .pinned], laidTests := true, laidLooks := .later }
def FnTheoryConflictsCardSaid : Prop := Claim7.holds Tryz.pinned (.plain (OpenSpec.ofChange fnTheoryConflictsSpec)) fnTheoryConflictsCard

/-- THE TIED CARD OF 'laws.FnTheoryAmbiguous'. -/
def fnTheoryAmbiguousCard : Claim7 := { stood := { row := fnTheoryAmbiguousRow, standIns := [], harness := (true, "6ae8ea2f87311dbf4c92153753eceb25ca923bf021d30905b172cd1373c2e05f"), looks := false }, kinds := [], alts := [], laidByText := true, laidKinds := [.data, .pinned], laidTests := true, laidLooks := .later }
def FnTheoryAmbiguousCardSaid : Prop := Claim7.holds Tryz.pinned (.plain (OpenSpec.ofChange fnTheoryAmbiguousSpec)) fnTheoryAmbiguousCard

/-- THE TIED CARD OF 'laws.FnTheoryReadings'. -/
def fnTheoryReadingsCard : Claim7 := { stood := { row := fnTheoryReadingsRow, standIns := [], harness := (true, "6ae8ea2f87311dbf4c92153753eceb25ca923bf021d30905b172cd1373c2e05f"), looks := false }, kinds := [], alts := [], laidByText := true, laidKinds := [.data, .pinned], laidTests := true, laidLooks := .later }
def FnTheoryReadingsCardSaid : Prop := Claim7.holds Tryz.pinned (.plain (OpenSpec.ofChange fnTheoryReadingsSpec)) fnTheoryReadingsCard

/-- THE TIED CARD OF 'laws.FnTheorySegments'. -/
def fnTheorySegmentsCard : Claim7 := { stood := { row := fnTheorySegmentsRow, standIns := [], harness := (true, "6ae8ea2f87311dbf4c92153753eceb25ca923bf021d30905b172cd1373c2e05f"), looks := false }, kinds := [], alts := [], laidByText := true, laidKinds := [.data, .pinned], laidTests := true, laidLooks := .later }
def FnTheorySegmentsCardSaid : Prop := Claim7.holds Tryz.pinned (.plain (OpenSpec.ofChange fnTheorySegmentsSpec)) fnTheorySegmentsCard

/-- THE SECOND FORM's CARD OF 'laws.FnExactAmbiguousStrokes'. -/
def fnExactAmbiguousStrokesUptoCard : Claim7 := { stood := { row := fnExactAmbiguousStrokesUptoRow, standIns := [], harness := (true, "6ae8ea2f87311dbf4c92153753eceb25ca923bf021d30905b172cd1373c2e05f"), looks := false }, kinds := [], alts := [], laidByText := true, laidKinds := [.data, .pinned], laidTests := true, laidLooks := .later }
def FnExactAmbiguousStrokesUptoCardSaid : Prop := Claim7.holds Tryz.pinned (.plain (OpenSpec.upto fnExactAmbiguousStrokesSpec)) fnExactAmbiguousStrokesUptoCard

/-- THE SECOND FORM's CARD OF 'laws.FnTheoryConflicts'. -/
def fnTheoryConflictsUptoCard : Claim7 := { stood := { row := fnTheoryConflictsUptoRow, standIns := [], harness := (true, "6ae8ea2f87311dbf4c92153753eceb25ca923bf021d30905b172cd1373c2e05f"), looks := false }, kinds := [], alts := [], laidByText := true, laidKinds := [.data, .pinned], laidTests := true, laidLooks := .later }
def FnTheoryConflictsUptoCardSaid : Prop := Claim7.holds Tryz.pinned (.plain (OpenSpec.upto fnTheoryConflictsSpec)) fnTheoryConflictsUptoCard

/-- THE SECOND FORM's CARD OF 'laws.FnTheoryAmbiguous'. -/
def fnTheoryAmbiguousUptoCard : Claim7 := { stood := { row := fnTheoryAmbiguousUptoRow, standIns := [], harness := (true, "6ae8ea2f87311dbf4c92153753eceb25ca923bf021d30905b172cd1373c2e05f"), looks := false }, kinds := [], alts := [], laidByText := true, laidKinds := [.data, .pinned], laidTests := true, laidLooks := .later }
def FnTheoryAmbiguousUptoCardSaid : Prop := Claim7.holds Tryz.pinned (.plain (OpenSpec.upto fnTheoryAmbiguousSpec)) fnTheoryAmbiguousUptoCard

/-- THE SECOND FORM's CARD OF 'laws.FnTheoryReadings'. -/
def fnTheoryReadingsUptoCard : Claim7 := { stood := { row := fnTheoryReadingsUptoRow, standIns := [], harness := (true, "6ae8ea2f87311dbf4c92153753eceb25ca923bf021d30905b172cd1373c2e05f"), looks := false }, kinds := [], alts := [], laidByText := true, laidKinds := [.data, .pinned], laidTests := true, laidLooks := .later }
def FnTheoryReadingsUptoCardSaid : Prop := Claim7.holds Tryz.pinned (.plain (OpenSpec.upto fnTheoryReadingsSpec)) fnTheoryReadingsUptoCard

/-- THE SECOND FORM's CARD OF 'laws.FnTheorySegments'. -/
def fnTheorySegmentsUptoCard : Claim7 := { stood := { row := fnTheorySegmentsUptoRow, standIns := [], harness := (true, "6ae8ea2f87311dbf4c92153753eceb25ca923bf021d30905b172cd1373c2e05f"), looks := false }, kinds := [], alts := [], laidByText := true, laidKinds := [.data, .pinned], laidTests := true, laidLooks := .later }
def FnTheorySegmentsUptoCardSaid : Prop := Claim7.holds Tryz.pinned (.plain (OpenSpec.upto fnTheorySegmentsSpec)) fnTheorySegmentsUptoCard
end Rows
end Go.Proofs.YtekidodfcanjaaaGreatDoor
