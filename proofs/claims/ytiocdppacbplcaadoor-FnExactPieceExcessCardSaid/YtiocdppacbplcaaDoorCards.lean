/-
  DERIVED. GIVEN WITH THE SEED: THE CARDS: each row of YtiocdppacbplcaaDoorRows.lean that lists a variable, with what it lists TIED to the program's text (the seventh form; the later family's looks); each row that meets fmt, with fmt's text TOLD by the authors' own Lean function (tested against real Go, not proved from fmt's source: count such statements apart). THE CARD IS WHAT COUNTS. Prove the row's statement (the work); the ties are given (YtiocdppacbplcaaDoorTie.lean); close each card by the builder's one call (the guide's Derived/Test/ToyasCard.lean, 'card_holds'). Laid BY PROGRAM, IN A SANDBOX (cutbox-door.mjs). By AI agents, Wed Nov 11 2026. No macro, syntax, notation, axiom, sorry.
-/
import Derived.Test.YtiocdppacbplcaaDoorRows
import GoSem.ClaimSeven
namespace Go.Proofs.YtiocdppacbplcaaDoor
namespace Rows

/-- THE TIED CARD OF 'laws.FnExactStrokesPerPiece'. -/
def fnExactStrokesPerPieceCard : Claim7 := { stood := { row := fnExactStrokesPerPieceRow, standIns := [], harness := (true, "1ba791861fc3bcb2d4d97d62ce678aa002fae08fe2acd064f06ded53d4522e20"), looks := false }, kinds := [], alts := [], laidByText := true, laidKinds := [.data, .pinned], laidTests := true, laidLooks := .later }
def FnExactStrokesPerPieceCardSaid : Prop := Claim7.holds Tryd.pinned (.plain (OpenSpec.ofChange fnExactStrokesPerPieceSpec)) fnExactStrokesPerPieceCard

/-- THE TIED CARD OF 'laws.FnExactPieceExcess'. -/
def fnExactPieceExcessCard : Claim7 := { stood := { row := fnExactPieceExcessRow, standIns := [], harness := (true, "1ba791861fc3bcb2d4d97d62ce678aa002fae08fe2acd064f06ded53d4522e20"), looks := false }, kinds := [], alts := [], laidByText := true, laidKinds := [.data, .pinned], laidTests := true, laidLooks := .later }
def FnExactPieceExcessCardSaid : Prop := Claim7.holds Tryd.pinned (.plain (OpenSpec.ofChange fnExactPieceExcessSpec)) fnExactPieceExcessCard

/-- THE SECOND FORM's CARD OF 'laws.FnExactStrokesPerPiece'. -/
def fnExactStrokesPerPieceUptoCard : Claim7 := { stood := { row := fnExactStrokesPerPieceUptoRow, standIns := [], harness := (true, "1ba791861fc3bcb2d4d97d62ce678aa002fae08fe2acd064f06ded53d4522e20"), looks := false }, kinds := [], alts := [], laidByText := true, laidKinds := [.data, .pinned], laidTests := true, laidLooks := .later }
def FnExactStrokesPerPieceUptoCardSaid : Prop := Claim7.holds Tryd.pinned (.plain (OpenSpec.upto fnExactStrokesPerPieceSpec)) fnExactStrokesPerPieceUptoCard

/-- THE SECOND FORM's CARD OF 'laws.FnExactPieceExcess'. -/
def fnExactPieceExcessUptoCard : Claim7 := { stood := { row := fnExactPieceExcessUptoRow, standIns := [], harness := (true, "1ba791861fc3bcb2d4d97d62ce678aa002fae08fe2acd064f06ded53d4522e20"), looks := false }, kinds := [], alts := [], laidByText := true, laidKinds := [.data, .pinned], laidTests := true, laidLooks := .later }
def FnExactPieceExcessUptoCardSaid : Prop := Claim7.holds Tryd.pinned (.plain (OpenSpec.upto fnExactPieceExcessSpec)) fnExactPieceExcessUptoCard
end Rows
end Go.Proofs.YtiocdppacbplcaaDoor
