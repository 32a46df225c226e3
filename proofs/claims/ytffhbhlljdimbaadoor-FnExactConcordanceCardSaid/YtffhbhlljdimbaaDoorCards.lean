/-
  DERIVED. GIVEN WITH THE SEED: THE CARDS: each row of YtffhbhlljdimbaaDoorRows.lean that lists a variable, with what it lists TIED to the program's text (the seventh form; the later family's looks); each row that meets fmt, with fmt's text TOLD by the authors' own Lean function (tested against real Go, not proved from fmt's source: count such statements apart). THE CARD IS WHAT COUNTS. Prove the row's statement (the work); the ties are given (YtffhbhlljdimbaaDoorTie.lean); close each card by the builder's one call (the guide's Derived/Test/ToyasCard.lean, 'card_holds'). Laid BY PROGRAM, IN A SANDBOX (cutbox-door.mjs). By AI agents, Wed Nov 11 2026. No macro, syntax, notation, axiom, sorry.
-/
import Derived.Test.YtffhbhlljdimbaaDoorRows
import GoSem.ClaimSeven
namespace Go.Proofs.YtffhbhlljdimbaaDoor
namespace Rows

/-- THE TIED CARD OF 'laws.FnExactIsValidTranscript'. -/
def fnExactIsValidTranscriptCard : Claim7 := { stood := { row := fnExactIsValidTranscriptRow, standIns := [], harness := (true, "6dbdf4be2cd8b264d97dc596156a85c6cc3c2af624f51d4545f855e2e39c624f"), looks := false }, kinds := [], alts := [], laidByText := true, laidKinds := [.data, .pinned], laidTests := true, laidLooks := .later }
def FnExactIsValidTranscriptCardSaid : Prop := Claim7.holds Tryd.pinned (.plain (OpenSpec.ofChange fnExactIsValidTranscriptSpec)) fnExactIsValidTranscriptCard

/-- THE TIED CARD OF 'laws.FnExactFormatTranscript'. -/
def fnExactFormatTranscriptCard : Claim7 := { stood := { row := fnExactFormatTranscriptRow, standIns := [], harness := (true, "6dbdf4be2cd8b264d97dc596156a85c6cc3c2af624f51d4545f855e2e39c624f"), looks := false }, kinds := [], alts := [], laidByText := true, laidKinds := [.data, .pinned], laidTests := true, laidLooks := .later }
def FnExactFormatTranscriptCardSaid : Prop := Claim7.holds Tryd.pinned (.plain (OpenSpec.ofChange fnExactFormatTranscriptSpec)) fnExactFormatTranscriptCard

/-- THE TIED CARD OF 'laws.FnExactParseTranscript'. -/
def fnExactParseTranscriptCard : Claim7 := { stood := { row := fnExactParseTranscriptRow, standIns := [], harness := (true, "6dbdf4be2cd8b264d97dc596156a85c6cc3c2af624f51d4545f855e2e39c624f"), looks := false }, kinds := [], alts := [], laidByText := true, laidKinds := [.data, .pinned], laidTests := true, laidLooks := .later }
def FnExactParseTranscriptCardSaid : Prop := Claim7.holds Tryd.pinned (.plain (OpenSpec.ofChange fnExactParseTranscriptSpec)) fnExactParseTranscriptCard

/-- THE TIED CARD OF 'laws.FnExactAppendTurn'. -/
def fnExactAppendTurnCard : Claim7 := { stood := { row := fnExactAppendTurnRow, standIns := [], harness := (true, "6dbdf4be2cd8b264d97dc596156a85c6cc3c2af624f51d4545f855e2e39c624f"), looks := false }, kinds := [], alts := [], laidByText := true, laidKinds := [.data, .pinned], laidTests := true, laidLooks := .later }
def FnExactAppendTurnCardSaid : Prop := Claim7.holds Tryd.pinned (.plain (OpenSpec.ofChange fnExactAppendTurnSpec)) fnExactAppendTurnCard

/-- THE TIED CARD OF 'laws.FnExactFindPhrase'. -/
def fnExactFindPhraseCard : Claim7 := { stood := { row := fnExactFindPhraseRow, standIns := [], harness := (true, "6dbdf4be2cd8b264d97dc596156a85c6cc3c2af624f51d4545f855e2e39c624f"), looks := false }, kinds := [], alts := [], laidByText := true, laidKinds := [.data, .pinned], laidTests := true, laidLooks := .later }
def FnExactFindPhraseCardSaid : Prop := Claim7.holds Tryd.pinned (.plain (OpenSpec.ofChange fnExactFindPhraseSpec)) fnExactFindPhraseCard

/-- THE TIED CARD OF 'laws.FnExactConcordance'. -/
def fnExactConcordanceCard : Claim7 := { stood := { row := fnExactConcordanceRow, standIns := [], harness := (true, "6dbdf4be2cd8b264d97dc596156a85c6cc3c2af624f51d4545f855e2e39c624f"), looks := false }, kinds := [], alts := [], laidByText := true, laidKinds := [.data, .pinned], laidTests := true, laidLooks := .later }
def FnExactConcordanceCardSaid : Prop := Claim7.holds Tryd.pinned (.plain (OpenSpec.ofChange fnExactConcordanceSpec)) fnExactConcordanceCard

/-- THE TIED CARD OF 'laws.FnTranscriptConcordance'. -/
def fnTranscriptConcordanceCard : Claim7 := { stood := { row := fnTranscriptConcordanceRow, standIns := [], harness := (true, "6dbdf4be2cd8b264d97dc596156a85c6cc3c2af624f51d4545f855e2e39c624f"), looks := false }, kinds := [], alts := [], laidByText := true, laidKinds := [.data, .pinned], laidTests := true, laidLooks := .later }
def FnTranscriptConcordanceCardSaid : Prop := Claim7.holds Tryd.pinned (.plain (OpenSpec.ofChange fnTranscriptConcordanceSpec)) fnTranscriptConcordanceCard

/-- THE TIED CARD OF 'laws.FnTranscriptText'. -/
def fnTranscriptTextCard : Claim7 := { stood := { row := fnTranscriptTextRow, standIns := [], harness := (true, "6dbdf4be2cd8b264d97dc596156a85c6cc3c2af624f51d4545f855e2e39c624f"), looks := false }, kinds := [], alts := [], laidByText := true, laidKinds := [.data, .pinned], laidTests := true, laidLooks := .later }
def FnTranscriptTextCardSaid : Prop := Claim7.holds Tryd.pinned (.plain (OpenSpec.ofChange fnTranscriptTextSpec)) fnTranscriptTextCard

/-- THE TIED CARD OF 'laws.FnTranscriptIndex'. -/
def fnTranscriptIndexCard : Claim7 := { stood := { row := fnTranscriptIndexRow, standIns := [], harness := (true, "6dbdf4be2cd8b264d97dc596156a85c6cc3c2af624f51d4545f855e2e39c624f"), looks := false }, kinds := [], alts := [], laidByText := true, laidKinds := [.data, .pinned], laidTests := true, laidLooks := .later }
def FnTranscriptIndexCardSaid : Prop := Claim7.holds Tryd.pinned (.plain (OpenSpec.ofChange fnTranscriptIndexSpec)) fnTranscriptIndexCard

/-- THE TIED CARD OF 'laws.FnExactSpeakerWords'. -/
def fnExactSpeakerWordsCard : Claim7 := { stood := { row := fnExactSpeakerWordsRow, standIns := [], harness := (true, "6dbdf4be2cd8b264d97dc596156a85c6cc3c2af624f51d4545f855e2e39c624f"), looks := false }, kinds := [], alts := [], laidByText := true, laidKinds := [.data, .pinned], laidTests := true, laidLooks := .later }
def FnExactSpeakerWordsCardSaid : Prop := Claim7.holds Tryd.pinned (.plain (OpenSpec.ofChange fnExactSpeakerWordsSpec)) fnExactSpeakerWordsCard

/-- THE TIED CARD OF 'laws.FnExactWordIndex'. -/
def fnExactWordIndexCard : Claim7 := { stood := { row := fnExactWordIndexRow, standIns := [], harness := (true, "6dbdf4be2cd8b264d97dc596156a85c6cc3c2af624f51d4545f855e2e39c624f"), looks := false }, kinds := [], alts := [], laidByText := true, laidKinds := [.data, .pinned], laidTests := true, laidLooks := .later }
def FnExactWordIndexCardSaid : Prop := Claim7.holds Tryd.pinned (.plain (OpenSpec.ofChange fnExactWordIndexSpec)) fnExactWordIndexCard

/-- THE SECOND FORM's CARD OF 'laws.FnExactIsValidTranscript'. -/
def fnExactIsValidTranscriptUptoCard : Claim7 := { stood := { row := fnExactIsValidTranscriptUptoRow, standIns := [], harness := (true, "6dbdf4be2cd8b264d97dc596156a85c6cc3c2af624f51d4545f855e2e39c624f"), looks := false }, kinds := [], alts := [], laidByText := true, laidKinds := [.data, .pinned], laidTests := true, laidLooks := .later }
def FnExactIsValidTranscriptUptoCardSaid : Prop := Claim7.holds Tryd.pinned (.plain (OpenSpec.upto fnExactIsValidTranscriptSpec)) fnExactIsValidTranscriptUptoCard

/-- THE SECOND FORM's CARD OF 'laws.FnExactFormatTranscript'. -/
def fnExactFormatTranscriptUptoCard : Claim7 := { stood := { row := fnExactFormatTranscriptUptoRow, standIns := [], harness := (true, "6dbdf4be2cd8b264d97dc596156a85c6cc3c2af624f51d4545f855e2e39c624f"), looks := false }, kinds := [], alts := [], laidByText := true, laidKinds := [.data, .pinned], laidTests := true, laidLooks := .later }
def FnExactFormatTranscriptUptoCardSaid : Prop := Claim7.holds Tryd.pinned (.plain (OpenSpec.upto fnExactFormatTranscriptSpec)) fnExactFormatTranscriptUptoCard

/-- THE SECOND FORM's CARD OF 'laws.FnExactParseTranscript'. -/
def fnExactParseTranscriptUptoCard : Claim7 := { stood := { row := fnExactParseTranscriptUptoRow, standIns := [], harness := (true, "6dbdf4be2cd8b264d97dc596156a85c6cc3c2af624f51d4545f855e2e39c624f"), looks := false }, kinds := [], alts := [], laidByText := true, laidKinds := [.data, .pinned], laidTests := true, laidLooks := .later }
def FnExactParseTranscriptUptoCardSaid : Prop := Claim7.holds Tryd.pinned (.plain (OpenSpec.upto fnExactParseTranscriptSpec)) fnExactParseTranscriptUptoCard

/-- THE SECOND FORM's CARD OF 'laws.FnExactAppendTurn'. -/
def fnExactAppendTurnUptoCard : Claim7 := { stood := { row := fnExactAppendTurnUptoRow, standIns := [], harness := (true, "6dbdf4be2cd8b264d97dc596156a85c6cc3c2af624f51d4545f855e2e39c624f"), looks := false }, kinds := [], alts := [], laidByText := true, laidKinds := [.data, .pinned], laidTests := true, laidLooks := .later }
def FnExactAppendTurnUptoCardSaid : Prop := Claim7.holds Tryd.pinned (.plain (OpenSpec.upto fnExactAppendTurnSpec)) fnExactAppendTurnUptoCard

/-- THE SECOND FORM's CARD OF 'laws.FnExactFindPhrase'. -/
def fnExactFindPhraseUptoCard : Claim7 := { stood := { row := fnExactFindPhraseUptoRow, standIns := [], harness := (true, "6dbdf4be2cd8b264d97dc596156a85c6cc3c2af624f51d4545f855e2e39c624f"), looks := false }, kinds := [], alts := [], laidByText := true, laidKinds := [.data, .pinned], laidTests := true, laidLooks := .later }
def FnExactFindPhraseUptoCardSaid : Prop := Claim7.holds Tryd.pinned (.plain (OpenSpec.upto fnExactFindPhraseSpec)) fnExactFindPhraseUptoCard

/-- THE SECOND FORM's CARD OF 'laws.FnExactConcordance'. -/
def fnExactConcordanceUptoCard : Claim7 := { stood := { row := fnExactConcordanceUptoRow, standIns := [], harness := (true, "6dbdf4be2cd8b264d97dc596156a85c6cc3c2af624f51d4545f855e2e39c624f"), looks := false }, kinds := [], alts := [], laidByText := true, laidKinds := [.data, .pinned], laidTests := true, laidLooks := .later }
def FnExactConcordanceUptoCardSaid : Prop := Claim7.holds Tryd.pinned (.plain (OpenSpec.upto fnExactConcordanceSpec)) fnExactConcordanceUptoCard

/-- THE SECOND FORM's CARD OF 'laws.FnTranscriptConcordance'. -/
def fnTranscriptConcordanceUptoCard : Claim7 := { stood := { row := fnTranscriptConcordanceUptoRow, standIns := [], harness := (true, "6dbdf4be2cd8b264d97dc596156a85c6cc3c2af624f51d4545f855e2e39c624f"), looks := false }, kinds := [], alts := [], laidByText := true, laidKinds := [.data, .pinned], laidTests := true, laidLooks := .later }
def FnTranscriptConcordanceUptoCardSaid : Prop := Claim7.holds Tryd.pinned (.plain (OpenSpec.upto fnTranscriptConcordanceSpec)) fnTranscriptConcordanceUptoCard

/-- THE SECOND FORM's CARD OF 'laws.FnTranscriptText'. -/
def fnTranscriptTextUptoCard : Claim7 := { stood := { row := fnTranscriptTextUptoRow, standIns := [], harness := (true, "6dbdf4be2cd8b264d97dc596156a85c6cc3c2af624f51d4545f855e2e39c624f"), looks := false }, kinds := [], alts := [], laidByText := true, laidKinds := [.data, .pinned], laidTests := true, laidLooks := .later }
def FnTranscriptTextUptoCardSaid : Prop := Claim7.holds Tryd.pinned (.plain (OpenSpec.upto fnTranscriptTextSpec)) fnTranscriptTextUptoCard

/-- THE SECOND FORM's CARD OF 'laws.FnTranscriptIndex'. -/
def fnTranscriptIndexUptoCard : Claim7 := { stood := { row := fnTranscriptIndexUptoRow, standIns := [], harness := (true, "6dbdf4be2cd8b264d97dc596156a85c6cc3c2af624f51d4545f855e2e39c624f"), looks := false }, kinds := [], alts := [], laidByText := true, laidKinds := [.data, .pinned], laidTests := true, laidLooks := .later }
def FnTranscriptIndexUptoCardSaid : Prop := Claim7.holds Tryd.pinned (.plain (OpenSpec.upto fnTranscriptIndexSpec)) fnTranscriptIndexUptoCard

/-- THE SECOND FORM's CARD OF 'laws.FnExactSpeakerWords'. -/
def fnExactSpeakerWordsUptoCard : Claim7 := { stood := { row := fnExactSpeakerWordsUptoRow, standIns := [], harness := (true, "6dbdf4be2cd8b264d97dc596156a85c6cc3c2af624f51d4545f855e2e39c624f"), looks := false }, kinds := [], alts := [], laidByText := true, laidKinds := [.data, .pinned], laidTests := true, laidLooks := .later }
def FnExactSpeakerWordsUptoCardSaid : Prop := Claim7.holds Tryd.pinned (.plain (OpenSpec.upto fnExactSpeakerWordsSpec)) fnExactSpeakerWordsUptoCard

/-- THE SECOND FORM's CARD OF 'laws.FnExactWordIndex'. -/
def fnExactWordIndexUptoCard : Claim7 := { stood := { row := fnExactWordIndexUptoRow, standIns := [], harness := (true, "6dbdf4be2cd8b264d97dc596156a85c6cc3c2af624f51d4545f855e2e39c624f"), looks := false }, kinds := [], alts := [], laidByText := true, laidKinds := [.data, .pinned], laidTests := true, laidLooks := .later }
def FnExactWordIndexUptoCardSaid : Prop := Claim7.holds Tryd.pinned (.plain (OpenSpec.upto fnExactWordIndexSpec)) fnExactWordIndexUptoCard
end Rows
end Go.Proofs.YtffhbhlljdimbaaDoor
