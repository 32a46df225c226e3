/-
  DERIVED. GIVEN WITH THE SEED: THE CARDS: each row of YtiocdppacbplcaaGreatDoorRows.lean that lists a variable, with what it lists TIED to the program's text (the seventh form; the later family's looks); each row that meets fmt, with fmt's text TOLD by the authors' own Lean function (tested against real Go, not proved from fmt's source: count such statements apart). THE CARD IS WHAT COUNTS. Prove the row's statement (the work); the ties are given (YtiocdppacbplcaaGreatDoorTie.lean); close each card by the builder's one call (the guide's Derived/Test/ToyasCard.lean, 'card_holds'). Laid BY PROGRAM, IN A SANDBOX (cutbox-door.mjs). By AI agents, Wed Nov 11 2026. No macro, syntax, notation, axiom, sorry.
-/
import Derived.Test.YtiocdppacbplcaaGreatDoorRows
import GoSem.ClaimSeven
namespace Go.Proofs.YtiocdppacbplcaaGreatDoor
namespace Rows

/-- THE TIED CARD OF 'laws.FnStatisticsEntries'. -/
def fnStatisticsEntriesCard : Claim7 := { stood := { row := fnStatisticsEntriesRow, standIns := [], harness := (true, "4d7ff01e8721fedfbb10cf76d39e5adabc40a62b454a0a7691130b12734c1bf6"), looks := false }, kinds := [], alts := [], laidByText := true, laidKinds := [.data, .pinned], laidTests := true, laidLooks := .later }
def FnStatisticsEntriesCardSaid : Prop := Claim7.holds Tryz.pinned (.plain (OpenSpec.ofChange fnStatisticsEntriesSpec)) fnStatisticsEntriesCard

/-- THE TIED CARD OF 'laws.FnExactEntryCounts'. -/
def fnExactEntryCountsCard : Claim7 := { stood := { row := fnExactEntryCountsRow, standIns := [], harness := (true, "4d7ff01e8721fedfbb10cf76d39e5adabc40a62b454a0a7691130b12734c1bf6"), looks := false }, kinds := [], alts := [], laidByText := true, laidKinds := [.data, .pinned], laidTests := true, laidLooks := .later }
def FnExactEntryCountsCardSaid : Prop := Claim7.holds Tryz.pinned (.plain (OpenSpec.ofChange fnExactEntryCountsSpec)) fnExactEntryCountsCard

/-- THE TIED CARD OF 'laws.FnExactUnusedEntries'. -/
def fnExactUnusedEntriesCard : Claim7 := { stood := { row := fnExactUnusedEntriesRow, standIns := [], harness := (true, "4d7ff01e8721fedfbb10cf76d39e5adabc40a62b454a0a7691130b12734c1bf6"), looks := false }, kinds := [], alts := [], laidByText := true, laidKinds := [.data, .pinned], laidTests := true, laidLooks := .later }
def FnExactUnusedEntriesCardSaid : Prop := Claim7.holds Tryz.pinned (.plain (OpenSpec.ofChange fnExactUnusedEntriesSpec)) fnExactUnusedEntriesCard

/-- THE TIED CARD OF 'laws.FnStatisticsSpeed'. -/
def fnStatisticsSpeedCard : Claim7 := { stood := { row := fnStatisticsSpeedRow, standIns := [], harness := (true, "4d7ff01e8721fedfbb10cf76d39e5adabc40a62b454a0a7691130b12734c1bf6"), looks := false }, kinds := [], alts := [], laidByText := true, laidKinds := [.data, .pinned], laidTests := true, laidLooks := .later }
def FnStatisticsSpeedCardSaid : Prop := Claim7.holds Tryz.pinned (.plain (OpenSpec.ofChange fnStatisticsSpeedSpec)) fnStatisticsSpeedCard

/-- THE SECOND FORM's CARD OF 'laws.FnStatisticsEntries'. -/
def fnStatisticsEntriesUptoCard : Claim7 := { stood := { row := fnStatisticsEntriesUptoRow, standIns := [], harness := (true, "4d7ff01e8721fedfbb10cf76d39e5adabc40a62b454a0a7691130b12734c1bf6"), looks := false }, kinds := [], alts := [], laidByText := true, laidKinds := [.data, .pinned], laidTests := true, laidLooks := .later }
def FnStatisticsEntriesUptoCardSaid : Prop := Claim7.holds Tryz.pinned (.plain (OpenSpec.upto fnStatisticsEntriesSpec)) fnStatisticsEntriesUptoCard

/-- THE SECOND FORM's CARD OF 'laws.FnExactEntryCounts'. -/
def fnExactEntryCountsUptoCard : Claim7 := { stood := { row := fnExactEntryCountsUptoRow, standIns := [], harness := (true, "4d7ff01e8721fedfbb10cf76d39e5adabc40a62b454a0a7691130b12734c1bf6"), looks := false }, kinds := [], alts := [], laidByText := true, laidKinds := [.data, .pinned], laidTests := true, laidLooks := .later }
def FnExactEntryCountsUptoCardSaid : Prop := Claim7.holds Tryz.pinned (.plain (OpenSpec.upto fnExactEntryCountsSpec)) fnExactEntryCountsUptoCard

/-- THE SECOND FORM's CARD OF 'laws.FnExactUnusedEntries'. -/
def fnExactUnusedEntriesUptoCard : Claim7 := { stood := { row := fnExactUnusedEntriesUptoRow, standIns := [], harness := (true, "4d7ff01e8721fedfbb10cf76d39e5adabc40a62b454a0a7691130b12734c1bf6"), looks := false }, kinds := [], alts := [], laidByText := true, laidKinds := [.data, .pinned], laidTests := true, laidLooks := .later }
def FnExactUnusedEntriesUptoCardSaid : Prop := Claim7.holds Tryz.pinned (.plain (OpenSpec.upto fnExactUnusedEntriesSpec)) fnExactUnusedEntriesUptoCard

/-- THE SECOND FORM's CARD OF 'laws.FnStatisticsSpeed'. -/
def fnStatisticsSpeedUptoCard : Claim7 := { stood := { row := fnStatisticsSpeedUptoRow, standIns := [], harness := (true, "4d7ff01e8721fedfbb10cf76d39e5adabc40a62b454a0a7691130b12734c1bf6"), looks := false }, kinds := [], alts := [], laidByText := true, laidKinds := [.data, .pinned], laidTests := true, laidLooks := .later }
def FnStatisticsSpeedUptoCardSaid : Prop := Claim7.holds Tryz.pinned (.plain (OpenSpec.upto fnStatisticsSpeedSpec)) fnStatisticsSpeedUptoCard
end Rows
end Go.Proofs.YtiocdppacbplcaaGreatDoor
