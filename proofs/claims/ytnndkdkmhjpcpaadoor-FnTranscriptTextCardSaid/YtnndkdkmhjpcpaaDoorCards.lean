/-
  DERIVED. GIVEN WITH THE SEED: THE CARDS: each row of YtnndkdkmhjpcpaaDoorRows.lean that lists a variable, with what it lists TIED to the program's text (the seventh form; the later family's looks); each row that meets fmt, with fmt's text TOLD by the authors' own Lean function (tested against real Go, not proved from fmt's source: count such statements apart). THE CARD IS WHAT COUNTS. Prove the row's statement (the work); the ties are given (YtnndkdkmhjpcpaaDoorTie.lean); close each card by the builder's one call (the guide's Derived/Test/ToyasCard.lean, 'card_holds'). Laid BY PROGRAM, IN A SANDBOX (cutbox-door.mjs). By AI agents, Wed Nov 11 2026. No macro, syntax, notation, axiom, sorry.
-/
import Derived.Test.YtnndkdkmhjpcpaaDoorRows
import GoSem.ClaimSeven
namespace Go.Proofs.YtnndkdkmhjpcpaaDoor
namespace Rows

/-- THE TIED CARD OF 'laws.FnTranscriptText'. -/
def fnTranscriptTextCard : Claim7 := { stood := { row := fnTranscriptTextRow, standIns := [], harness := (true, "ed3857c27ff29c6831ac9e1b54cdf190a7495ff6309c1b508b4f3804e186206b"), looks := false }, kinds := [], alts := [], laidByText := true, laidKinds := [.data, .pinned], laidTests := true, laidLooks := .later }
def FnTranscriptTextCardSaid : Prop := Claim7.holds Tryd.pinned (.plain (OpenSpec.ofChange fnTranscriptTextSpec)) fnTranscriptTextCard

/-- THE TIED CARD OF 'laws.FnTranscriptIndex'. -/
def fnTranscriptIndexCard : Claim7 := { stood := { row := fnTranscriptIndexRow, standIns := [], harness := (true, "ed3857c27ff29c6831ac9e1b54cdf190a7495ff6309c1b508b4f3804e186206b"), looks := false }, kinds := [], alts := [], laidByText := true, laidKinds := [.data, .pinned], laidTests := true, laidLooks := .later }
def FnTranscriptIndexCardSaid : Prop := Claim7.holds Tryd.pinned (.plain (OpenSpec.ofChange fnTranscriptIndexSpec)) fnTranscriptIndexCard

/-- THE TIED CARD OF 'laws.FnExactSpeakerWords'. -/
def fnExactSpeakerWordsCard : Claim7 := { stood := { row := fnExactSpeakerWordsRow, standIns := [], harness := (true, "ed3857c27ff29c6831ac9e1b54cdf190a7495ff6309c1b508b4f3804e186206b"), looks := false }, kinds := [], alts := [], laidByText := true, laidKinds := [.data, .pinned], laidTests := true, laidLooks := .later }
def FnExactSpeakerWordsCardSaid : Prop := Claim7.holds Tryd.pinned (.plain (OpenSpec.ofChange fnExactSpeakerWordsSpec)) fnExactSpeakerWordsCard

/-- THE TIED CARD OF 'laws.FnExactWordIndex'. -/
def fnExactWordIndexCard : Claim7 := { stood := { row := fnExactWordIndexRow, standIns := [], harness := (true, "ed3857c27ff29c6831ac9e1b54cdf190a7495ff6309c1b508b4f3804e186206b"), looks := false }, kinds := [], alts := [], laidByText := true, laidKinds := [.data, .pinned], laidTests := true, laidLooks := .later }
def FnExactWordIndexCardSaid : Prop := Claim7.holds Tryd.pinned (.plain (OpenSpec.ofChange fnExactWordIndexSpec)) fnExactWordIndexCard

/-- THE SECOND FORM's CARD OF 'laws.FnTranscriptText'. -/
def fnTranscriptTextUptoCard : Claim7 := { stood := { row := fnTranscriptTextUptoRow, standIns := [], harness := (true, "ed3857c27ff29c6831ac9e1b54cdf190a7495ff6309c1b508b4f3804e186206b"), looks := false }, kinds := [], alts := [], laidByText := true, laidKinds := [.data, .pinned], laidTests := true, laidLooks := .later }
def FnTranscriptTextUptoCardSaid : Prop := Claim7.holds Tryd.pinned (.plain (OpenSpec.upto fnTranscriptTextSpec)) fnTranscriptTextUptoCard

/-- THE SECOND FORM's CARD OF 'laws.FnTranscriptIndex'. -/
def fnTranscriptIndexUptoCard : Claim7 := { stood := { row := fnTranscriptIndexUptoRow, standIns := [], harness := (true, "ed3857c27ff29c6831ac9e1b54cdf190a7495ff6309c1b508b4f3804e186206b"), looks := false }, kinds := [], alts := [], laidByText := true, laidKinds := [.data, .pinned], laidTests := true, laidLooks := .later }
def FnTranscriptIndexUptoCardSaid : Prop := Claim7.holds Tryd.pinned (.plain (OpenSpec.upto fnTranscriptIndexSpec)) fnTranscriptIndexUptoCard

/-- THE SECOND FORM's CARD OF 'laws.FnExactSpeakerWords'. -/
def fnExactSpeakerWordsUptoCard : Claim7 := { stood := { row := fnExactSpeakerWordsUptoRow, standIns := [], harness := (true, "ed3857c27ff29c6831ac9e1b54cdf190a7495ff6309c1b508b4f3804e186206b"), looks := false }, kinds := [], alts := [], laidByText := true, laidKinds := [.data, .pinned], laidTests := true, laidLooks := .later }
def FnExactSpeakerWordsUptoCardSaid : Prop := Claim7.holds Tryd.pinned (.plain (OpenSpec.upto fnExactSpeakerWordsSpec)) fnExactSpeakerWordsUptoCard

/-- THE SECOND FORM's CARD OF 'laws.FnExactWordIndex'. -/
def fnExactWordIndexUptoCard : Claim7 := { stood := { row := fnExactWordIndexUptoRow, standIns := [], harness := (true, "ed3857c27ff29c6831ac9e1b54cdf190a7495ff6309c1b508b4f3804e186206b"), looks := false }, kinds := [], alts := [], laidByText := true, laidKinds := [.data, .pinned], laidTests := true, laidLooks := .later }
def FnExactWordIndexUptoCardSaid : Prop := Claim7.holds Tryd.pinned (.plain (OpenSpec.upto fnExactWordIndexSpec)) fnExactWordIndexUptoCard
end Rows
end Go.Proofs.YtnndkdkmhjpcpaaDoor
