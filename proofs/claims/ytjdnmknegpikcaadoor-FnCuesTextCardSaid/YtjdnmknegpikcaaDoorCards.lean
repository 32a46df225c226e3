/-
  DERIVED. GIVEN WITH THE SEED: THE CARDS: each row of YtjdnmknegpikcaaDoorRows.lean that lists a variable, with what it lists TIED to the program's text (the seventh form; the later family's looks); each row that meets fmt, with fmt's text TOLD by the authors' own Lean function (tested against real Go, not proved from fmt's source: count such statements apart). THE CARD IS WHAT COUNTS. Prove the row's statement (the work); the ties are given (YtjdnmknegpikcaaDoorTie.lean); close each card by the builder's one call (the guide's Derived/Test/ToyasCard.lean, 'card_holds'). Laid BY PROGRAM, IN A SANDBOX (cutbox-door.mjs). By AI agents, Wed Nov 11 2026. No macro, syntax, notation, axiom, sorry.
-/
import Derived.Test.YtjdnmknegpikcaaDoorRows
import GoSem.ClaimSeven
namespace Go.Proofs.YtjdnmknegpikcaaDoor
namespace Rows

/-- THE TIED CARD OF 'laws.FnExactParseTime'. -/
def fnExactParseTimeCard : Claim7 := { stood := { row := fnExactParseTimeRow, standIns := [], harness := (true, "38765de96dc7eeb7d43a19e0cf31693b31eb77d1c6059772cc65991f9b884df9"), looks := true }, kinds := [], alts := [], laidByText := true, laidKinds := [.data, .data, .data, .sentinel, .sentinel], laidTests := true, laidLooks := .later }
def FnExactParseTimeCardSaid : Prop := Claim7.holds Tryd.pinned (.plain (OpenSpec.ofChange fnExactParseTimeSpec)) fnExactParseTimeCard

/-- THE TIED CARD OF 'laws.FnCuesText'. -/
def fnCuesTextCard : Claim7 := { stood := { row := fnCuesTextRow, standIns := [], harness := (true, "38765de96dc7eeb7d43a19e0cf31693b31eb77d1c6059772cc65991f9b884df9"), looks := true }, kinds := [], alts := [], laidByText := true, laidKinds := [.data, .data, .data, .data, .sentinel, .sentinel, .pinned], laidTests := true, laidLooks := .later }
def FnCuesTextCardSaid : Prop := Claim7.holds Tryd.pinned (.plain (OpenSpec.ofChange fnCuesTextSpec)) fnCuesTextCard

/-- THE TIED CARD OF 'laws.FnExactParseCues'. -/
def fnExactParseCuesCard : Claim7 := { stood := { row := fnExactParseCuesRow, standIns := [], harness := (true, "38765de96dc7eeb7d43a19e0cf31693b31eb77d1c6059772cc65991f9b884df9"), looks := true }, kinds := [], alts := [], laidByText := true, laidKinds := [.data, .data, .data, .data, .sentinel, .sentinel, .pinned], laidTests := true, laidLooks := .later }
def FnExactParseCuesCardSaid : Prop := Claim7.holds Tryd.pinned (.plain (OpenSpec.ofChange fnExactParseCuesSpec)) fnExactParseCuesCard

/-- THE SECOND FORM's CARD OF 'laws.FnExactParseTime'. -/
def fnExactParseTimeUptoCard : Claim7 := { stood := { row := fnExactParseTimeUptoRow, standIns := [], harness := (true, "38765de96dc7eeb7d43a19e0cf31693b31eb77d1c6059772cc65991f9b884df9"), looks := true }, kinds := [], alts := [], laidByText := true, laidKinds := [.data, .data, .data, .sentinel, .sentinel], laidTests := true, laidLooks := .later }
def FnExactParseTimeUptoCardSaid : Prop := Claim7.holds Tryd.pinned (.plain (OpenSpec.upto fnExactParseTimeSpec)) fnExactParseTimeUptoCard

/-- THE SECOND FORM's CARD OF 'laws.FnCuesText'. -/
def fnCuesTextUptoCard : Claim7 := { stood := { row := fnCuesTextUptoRow, standIns := [], harness := (true, "38765de96dc7eeb7d43a19e0cf31693b31eb77d1c6059772cc65991f9b884df9"), looks := true }, kinds := [], alts := [], laidByText := true, laidKinds := [.data, .data, .data, .data, .sentinel, .sentinel, .pinned], laidTests := true, laidLooks := .later }
def FnCuesTextUptoCardSaid : Prop := Claim7.holds Tryd.pinned (.plain (OpenSpec.upto fnCuesTextSpec)) fnCuesTextUptoCard

/-- THE SECOND FORM's CARD OF 'laws.FnExactParseCues'. -/
def fnExactParseCuesUptoCard : Claim7 := { stood := { row := fnExactParseCuesUptoRow, standIns := [], harness := (true, "38765de96dc7eeb7d43a19e0cf31693b31eb77d1c6059772cc65991f9b884df9"), looks := true }, kinds := [], alts := [], laidByText := true, laidKinds := [.data, .data, .data, .data, .sentinel, .sentinel, .pinned], laidTests := true, laidLooks := .later }
def FnExactParseCuesUptoCardSaid : Prop := Claim7.holds Tryd.pinned (.plain (OpenSpec.upto fnExactParseCuesSpec)) fnExactParseCuesUptoCard
end Rows
end Go.Proofs.YtjdnmknegpikcaaDoor
