/-
  DERIVED. GIVEN WITH THE SEED: THE CARDS: each row of YtekidodfcanjaaaDoorRows.lean that lists a variable, with what it lists TIED to the program's text (the seventh form; the later family's looks); each row that meets fmt, with fmt's text TOLD by the authors' own Lean function (tested against real Go, not proved from fmt's source: count such statements apart). THE CARD IS WHAT COUNTS. Prove the row's statement (the work); the ties are given (YtekidodfcanjaaaDoorTie.lean); close each card by the builder's one call (the guide's Derived/Test/ToyasCard.lean, 'card_holds'). Laid BY PROGRAM, IN A SANDBOX (cutbox-door.mjs). By AI agents, Wed Nov 11 2026. No macro, syntax, notation, axiom, sorry.
-/
import Derived.Test.YtekidodfcanjaaaDoorRows
import GoSem.ClaimSeven
namespace Go.Proofs.YtekidodfcanjaaaDoor
namespace Rows

/-- THE TIED CARD OF 'laws.FnExactIsUniquelyReadable'. -/
def fnExactIsUniquelyReadableCard : Claim7 := { stood := { row := fnExactIsUniquelyReadableRow, standIns := [], harness := (true, "2b68a635166fee84784986a7093ce1a386171ce8252dbb448587c0dfb8566e72"), looks := false }, kinds := [], alts := [], laidByText := true, laidKinds := [.data, .pinned], laidTests := true, laidLooks := .later }
def FnExactIsUniquelyReadableCardSaid : Prop := Claim7.holds Tryd.pinned (.plain (OpenSpec.ofChange fnExactIsUniquelyReadableSpec)) fnExactIsUniquelyReadableCard

/-- THE SECOND FORM's CARD OF 'laws.FnExactIsUniquelyReadable'. -/
def fnExactIsUniquelyReadableUptoCard : Claim7 := { stood := { row := fnExactIsUniquelyReadableUptoRow, standIns := [], harness := (true, "2b68a635166fee84784986a7093ce1a386171ce8252dbb448587c0dfb8566e72"), looks := false }, kinds := [], alts := [], laidByText := true, laidKinds := [.data, .pinned], laidTests := true, laidLooks := .later }
def FnExactIsUniquelyReadableUptoCardSaid : Prop := Claim7.holds Tryd.pinned (.plain (OpenSpec.upto fnExactIsUniquelyReadableSpec)) fnExactIsUniquelyReadableUptoCard
end Rows
end Go.Proofs.YtekidodfcanjaaaDoor
