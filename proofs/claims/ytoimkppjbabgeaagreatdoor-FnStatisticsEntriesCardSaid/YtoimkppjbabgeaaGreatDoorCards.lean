/-
  DERIVED. GIVEN WITH THE SEED: THE CARDS: each row of YtoimkppjbabgeaaGreatDoorRows.lean that lists a variable, with what it lists TIED to the program's text (the seventh form; the later family's looks); each row that meets fmt, with fmt's text TOLD by the authors' own Lean function (tested against real Go, not proved from fmt's source: count such statements apart). THE CARD IS WHAT COUNTS. Prove the row's statement (the work); the ties are given (YtoimkppjbabgeaaGreatDoorTie.lean); close each card by the builder's one call (the guide's Derived/Test/ToyasCard.lean, 'card_holds'). Laid BY PROGRAM, IN A SANDBOX (cutbox-door.mjs). By AI agents, Wed Nov 11 2026. No macro, syntax, notation, axiom, sorry.
-/
import Derived.Test.YtoimkppjbabgeaaGreatDoorRows
import GoSem.ClaimSeven
namespace Go.Proofs.YtoimkppjbabgeaaGreatDoor
namespace Rows

/-- THE TIED CARD OF 'laws.FnStatisticsEntries'. -/
def fnStatisticsEntriesCard : Claim7 := { stood := { row := fnStatisticsEntriesRow, standIns := [], harness := (true, "3d1e49cb13fa097d8fab110f176e4641d590070700cef84a810baf30adcb12cf"), looks := false }, kinds := [], alts := [], laidByText := true, laidKinds := [.data, .pinned], laidTests := true, laidLooks := .later }
def FnStatisticsEntriesCardSaid : Prop := Claim7.holds Tryz.pinned (.plain (OpenSpec.ofChange fnStatisticsEntriesSpec)) fnStatisticsEntriesCard

/-- THE TIED CARD OF 'laws.FnStatisticsSpeed'. -/
def fnStatisticsSpeedCard : Claim7 := { stood := { row := fnStatisticsSpeedRow, standIns := [], harness := (true, "3d1e49cb13fa097d8fab110f176e4641d590070700cef84a810baf30adcb12cf"), looks := false }, kinds := [], alts := [], laidByText := true, laidKinds := [.data, .pinned], laidTests := true, laidLooks := .later }
def FnStatisticsSpeedCardSaid : Prop := Claim7.holds Tryz.pinned (.plain (OpenSpec.ofChange fnStatisticsSpeedSpec)) fnStatisticsSpeedCard

/-- THE SECOND FORM's CARD OF 'laws.FnStatisticsEntries'. -/
def fnStatisticsEntriesUptoCard : Claim7 := { stood := { row := fnStatisticsEntriesUptoRow, standIns := [], harness := (true, "3d1e49cb13fa097d8fab110f176e4641d590070700cef84a810baf30adcb12cf"), looks := false }, kinds := [], alts := [], laidByText := true, laidKinds := [.data, .pinned], laidTests := true, laidLooks := .later }
def FnStatisticsEntriesUptoCardSaid : Prop := Claim7.holds Tryz.pinned (.plain (OpenSpec.upto fnStatisticsEntriesSpec)) fnStatisticsEntriesUptoCard

/-- THE SECOND FORM's CARD OF 'laws.FnStatisticsSpeed'. -/
def fnStatisticsSpeedUptoCard : Claim7 := { stood := { row := fnStatisticsSpeedUptoRow, standIns := [], harness := (true, "3d1e49cb13fa097d8fab110f176e4641d590070700cef84a810baf30adcb12cf"), looks := false }, kinds := [], alts := [], laidByText := true, laidKinds := [.data, .pinned], laidTests := true, laidLooks := .later }
def FnStatisticsSpeedUptoCardSaid : Prop := Claim7.holds Tryz.pinned (.plain (OpenSpec.upto fnStatisticsSpeedSpec)) fnStatisticsSpeedUptoCard
end Rows
end Go.Proofs.YtoimkppjbabgeaaGreatDoor
