/-
  DERIVED. GIVEN WITH THE SEED: THE CARDS: each row of YtkmkkgfdobaplaaGreatDoorRows.lean that lists a variable, with what it lists TIED to the program's text (the seventh form; the later family's looks); each row that meets fmt, with fmt's text TOLD by the authors' own Lean function (tested against real Go, not proved from fmt's source: count such statements apart). THE CARD IS WHAT COUNTS. Prove the row's statement (the work); the ties are given (YtkmkkgfdobaplaaGreatDoorTie.lean); close each card by the builder's one call (the guide's Derived/Test/ToyasCard.lean, 'card_holds'). Laid BY PROGRAM, IN A SANDBOX (cutbox-door.mjs). By AI agents, Wed Nov 11 2026. No macro, syntax, notation, axiom, sorry.
-/
import Derived.Test.YtkmkkgfdobaplaaGreatDoorRows
import GoSem.ClaimSeven
namespace Go.Proofs.YtkmkkgfdobaplaaGreatDoor
namespace Rows

/-- THE TIED CARD OF 'palinglaw07.ParseNotes'. -/
def parseNotesCard : Claim7 := { stood := { row := parseNotesRow, standIns := [], harness := (true, "1b35d809d58df958f98bad26d3d4636c7846331978a49a3e9c0f69bd4b4731d2"), looks := true }, kinds := [], alts := [], laidByText := true, laidKinds := [.data, .data, .data, .data, .sentinel, .sentinel, .data, .data, .mapped, .data, .pinned], laidTests := true, laidLooks := .later }
def ParseNotesCardSaid : Prop := Claim7.holds Tryz.pinned (.plain (OpenSpec.ofChange parseNotesSpec)) parseNotesCard

/-- THE TIED CARD OF 'palinglaw07.ParseWords'. -/
def parseWordsCard : Claim7 := { stood := { row := parseWordsRow, standIns := [], harness := (true, "1b35d809d58df958f98bad26d3d4636c7846331978a49a3e9c0f69bd4b4731d2"), looks := true }, kinds := [], alts := [], laidByText := true, laidKinds := [.data, .data, .data, .sentinel, .sentinel, .data, .data, .mapped, .data, .widerDeep], laidTests := true, laidLooks := .later }
def ParseWordsCardSaid : Prop := Claim7.holds Tryz.pinned (.plain (OpenSpec.ofChange parseWordsSpec)) parseWordsCard

/-- THE TIED CARD OF 'palinglaw07.ParseSugar'. -/
def parseSugarCard : Claim7 := { stood := { row := parseSugarRow, standIns := [], harness := (true, "1b35d809d58df958f98bad26d3d4636c7846331978a49a3e9c0f69bd4b4731d2"), looks := true }, kinds := [], alts := [], laidByText := true, laidKinds := [.data, .data, .data, .sentinel, .sentinel, .data, .data, .mapped, .data], laidTests := true, laidLooks := .later }
def ParseSugarCardSaid : Prop := Claim7.holds Tryz.pinned (.plain (OpenSpec.ofChange parseSugarSpec)) parseSugarCard

/-- THE TIED CARD OF 'palinglaw07.ParseLevels'. -/
def parseLevelsCard : Claim7 := { stood := { row := parseLevelsRow, standIns := [], harness := (true, "1b35d809d58df958f98bad26d3d4636c7846331978a49a3e9c0f69bd4b4731d2"), looks := true }, kinds := [], alts := [], laidByText := true, laidKinds := [.data, .data, .data, .sentinel, .sentinel, .data, .data, .mapped, .data], laidTests := true, laidLooks := .later }
def ParseLevelsCardSaid : Prop := Claim7.holds Tryz.pinned (.plain (OpenSpec.ofChange parseLevelsSpec)) parseLevelsCard

/-- THE TIED CARD OF 'palinglaw07.ParseJoins'. -/
def parseJoinsCard : Claim7 := { stood := { row := parseJoinsRow, standIns := [], harness := (true, "1b35d809d58df958f98bad26d3d4636c7846331978a49a3e9c0f69bd4b4731d2"), looks := true }, kinds := [], alts := [], laidByText := true, laidKinds := [.data, .data, .data, .sentinel, .sentinel, .data, .data, .mapped, .data], laidTests := true, laidLooks := .later }
def ParseJoinsCardSaid : Prop := Claim7.holds Tryz.pinned (.plain (OpenSpec.ofChange parseJoinsSpec)) parseJoinsCard

/-- THE TIED CARD OF 'palinglaw08.ScopeWords'. -/
def scopeWordsCard : Claim7 := { stood := { row := scopeWordsRow, standIns := [], harness := (true, "1b35d809d58df958f98bad26d3d4636c7846331978a49a3e9c0f69bd4b4731d2"), looks := true }, kinds := [], alts := [], laidByText := true, laidKinds := [.data, .data, .data, .sentinel, .sentinel, .data, .data, .mapped, .data, .widerDeep], laidTests := true, laidLooks := .later }
def ScopeWordsCardSaid : Prop := Claim7.holds Tryz.pinned (.plain (OpenSpec.ofChange scopeWordsSpec)) scopeWordsCard

/-- THE TIED CARD OF 'palinglaw08.ScopeFree'. -/
def scopeFreeCard : Claim7 := { stood := { row := scopeFreeRow, standIns := [], harness := (true, "1b35d809d58df958f98bad26d3d4636c7846331978a49a3e9c0f69bd4b4731d2"), looks := true }, kinds := [], alts := [], laidByText := true, laidKinds := [.data, .data, .data, .sentinel, .sentinel, .data, .data, .mapped, .data, .widerDeep], laidTests := true, laidLooks := .later }
def ScopeFreeCardSaid : Prop := Claim7.holds Tryz.pinned (.plain (OpenSpec.ofChange scopeFreeSpec)) scopeFreeCard

/-- THE TIED CARD OF 'palinglaw08.ScopeTexts'. -/
def scopeTextsCard : Claim7 := { stood := { row := scopeTextsRow, standIns := [], harness := (true, "1b35d809d58df958f98bad26d3d4636c7846331978a49a3e9c0f69bd4b4731d2"), looks := true }, kinds := [], alts := [], laidByText := true, laidKinds := [.data, .data, .data, .sentinel, .sentinel, .data, .data, .mapped, .data, .widerDeep], laidTests := true, laidLooks := .later }
def ScopeTextsCardSaid : Prop := Claim7.holds Tryz.pinned (.plain (OpenSpec.ofChange scopeTextsSpec)) scopeTextsCard

/-- THE TIED CARD OF 'palinglaw09.CodeTexts'. -/
def codeTextsCard : Claim7 := { stood := { row := codeTextsRow, standIns := [], harness := (true, "1b35d809d58df958f98bad26d3d4636c7846331978a49a3e9c0f69bd4b4731d2"), looks := true }, kinds := [], alts := [], laidByText := true, laidKinds := [.data, .data, .data, .sentinel, .sentinel, .data, .data, .data, .mapped, .data, .widerDeep, .data], laidTests := true, laidLooks := .later }
def CodeTextsCardSaid : Prop := Claim7.holds Tryz.pinned (.plain (OpenSpec.ofChange codeTextsSpec)) codeTextsCard

/-- THE TIED CARD OF 'palinglaw09.CodeOps'. -/
def codeOpsCard : Claim7 := { stood := { row := codeOpsRow, standIns := [], harness := (true, "1b35d809d58df958f98bad26d3d4636c7846331978a49a3e9c0f69bd4b4731d2"), looks := true }, kinds := [], alts := [], laidByText := true, laidKinds := [.data, .data, .data, .sentinel, .sentinel, .data, .data, .data, .mapped, .data, .widerDeep], laidTests := true, laidLooks := .later }
def CodeOpsCardSaid : Prop := Claim7.holds Tryz.pinned (.plain (OpenSpec.ofChange codeOpsSpec)) codeOpsCard

/-- THE TIED CARD OF 'palinglaw09.CodeApart'. -/
def codeApartCard : Claim7 := { stood := { row := codeApartRow, standIns := [], harness := (true, "1b35d809d58df958f98bad26d3d4636c7846331978a49a3e9c0f69bd4b4731d2"), looks := true }, kinds := [], alts := [], laidByText := true, laidKinds := [.data, .data, .data, .sentinel, .sentinel, .data, .data, .data, .mapped, .data, .widerDeep], laidTests := true, laidLooks := .later }
def CodeApartCardSaid : Prop := Claim7.holds Tryz.pinned (.plain (OpenSpec.ofChange codeApartSpec)) codeApartCard

/-- THE TIED CARD OF 'palinglaw09.CodePrints'. -/
def codePrintsCard : Claim7 := { stood := { row := codePrintsRow, standIns := [], harness := (true, "1b35d809d58df958f98bad26d3d4636c7846331978a49a3e9c0f69bd4b4731d2"), looks := true }, kinds := [], alts := [], laidByText := true, laidKinds := [.data, .data, .data, .sentinel, .sentinel, .data, .data, .data, .mapped, .data, .widerDeep, .data], laidTests := true, laidLooks := .later }
def CodePrintsCardSaid : Prop := Claim7.holds Tryz.pinned (.plain (OpenSpec.ofChange codePrintsSpec)) codePrintsCard

/-- THE SECOND FORM's CARD OF 'palinglaw07.ParseNotes'. -/
def parseNotesUptoCard : Claim7 := { stood := { row := parseNotesUptoRow, standIns := [], harness := (true, "1b35d809d58df958f98bad26d3d4636c7846331978a49a3e9c0f69bd4b4731d2"), looks := true }, kinds := [], alts := [], laidByText := true, laidKinds := [.data, .data, .data, .data, .sentinel, .sentinel, .data, .data, .mapped, .data, .pinned], laidTests := true, laidLooks := .later }
def ParseNotesUptoCardSaid : Prop := Claim7.holds Tryz.pinned (.plain (OpenSpec.upto parseNotesSpec)) parseNotesUptoCard

/-- THE SECOND FORM's CARD OF 'palinglaw07.ParseWords'. -/
def parseWordsUptoCard : Claim7 := { stood := { row := parseWordsUptoRow, standIns := [], harness := (true, "1b35d809d58df958f98bad26d3d4636c7846331978a49a3e9c0f69bd4b4731d2"), looks := true }, kinds := [], alts := [], laidByText := true, laidKinds := [.data, .data, .data, .sentinel, .sentinel, .data, .data, .mapped, .data, .widerDeep], laidTests := true, laidLooks := .later }
def ParseWordsUptoCardSaid : Prop := Claim7.holds Tryz.pinned (.plain (OpenSpec.upto parseWordsSpec)) parseWordsUptoCard

/-- THE SECOND FORM's CARD OF 'palinglaw07.ParseSugar'. -/
def parseSugarUptoCard : Claim7 := { stood := { row := parseSugarUptoRow, standIns := [], harness := (true, "1b35d809d58df958f98bad26d3d4636c7846331978a49a3e9c0f69bd4b4731d2"), looks := true }, kinds := [], alts := [], laidByText := true, laidKinds := [.data, .data, .data, .sentinel, .sentinel, .data, .data, .mapped, .data], laidTests := true, laidLooks := .later }
def ParseSugarUptoCardSaid : Prop := Claim7.holds Tryz.pinned (.plain (OpenSpec.upto parseSugarSpec)) parseSugarUptoCard

/-- THE SECOND FORM's CARD OF 'palinglaw07.ParseLevels'. -/
def parseLevelsUptoCard : Claim7 := { stood := { row := parseLevelsUptoRow, standIns := [], harness := (true, "1b35d809d58df958f98bad26d3d4636c7846331978a49a3e9c0f69bd4b4731d2"), looks := true }, kinds := [], alts := [], laidByText := true, laidKinds := [.data, .data, .data, .sentinel, .sentinel, .data, .data, .mapped, .data], laidTests := true, laidLooks := .later }
def ParseLevelsUptoCardSaid : Prop := Claim7.holds Tryz.pinned (.plain (OpenSpec.upto parseLevelsSpec)) parseLevelsUptoCard

/-- THE SECOND FORM's CARD OF 'palinglaw07.ParseJoins'. -/
def parseJoinsUptoCard : Claim7 := { stood := { row := parseJoinsUptoRow, standIns := [], harness := (true, "1b35d809d58df958f98bad26d3d4636c7846331978a49a3e9c0f69bd4b4731d2"), looks := true }, kinds := [], alts := [], laidByText := true, laidKinds := [.data, .data, .data, .sentinel, .sentinel, .data, .data, .mapped, .data], laidTests := true, laidLooks := .later }
def ParseJoinsUptoCardSaid : Prop := Claim7.holds Tryz.pinned (.plain (OpenSpec.upto parseJoinsSpec)) parseJoinsUptoCard

/-- THE SECOND FORM's CARD OF 'palinglaw08.ScopeWords'. -/
def scopeWordsUptoCard : Claim7 := { stood := { row := scopeWordsUptoRow, standIns := [], harness := (true, "1b35d809d58df958f98bad26d3d4636c7846331978a49a3e9c0f69bd4b4731d2"), looks := true }, kinds := [], alts := [], laidByText := true, laidKinds := [.data, .data, .data, .sentinel, .sentinel, .data, .data, .mapped, .data, .widerDeep], laidTests := true, laidLooks := .later }
def ScopeWordsUptoCardSaid : Prop := Claim7.holds Tryz.pinned (.plain (OpenSpec.upto scopeWordsSpec)) scopeWordsUptoCard

/-- THE SECOND FORM's CARD OF 'palinglaw08.ScopeFree'. -/
def scopeFreeUptoCard : Claim7 := { stood := { row := scopeFreeUptoRow, standIns := [], harness := (true, "1b35d809d58df958f98bad26d3d4636c7846331978a49a3e9c0f69bd4b4731d2"), looks := true }, kinds := [], alts := [], laidByText := true, laidKinds := [.data, .data, .data, .sentinel, .sentinel, .data, .data, .mapped, .data, .widerDeep], laidTests := true, laidLooks := .later }
def ScopeFreeUptoCardSaid : Prop := Claim7.holds Tryz.pinned (.plain (OpenSpec.upto scopeFreeSpec)) scopeFreeUptoCard

/-- THE SECOND FORM's CARD OF 'palinglaw08.ScopeTexts'. -/
def scopeTextsUptoCard : Claim7 := { stood := { row := scopeTextsUptoRow, standIns := [], harness := (true, "1b35d809d58df958f98bad26d3d4636c7846331978a49a3e9c0f69bd4b4731d2"), looks := true }, kinds := [], alts := [], laidByText := true, laidKinds := [.data, .data, .data, .sentinel, .sentinel, .data, .data, .mapped, .data, .widerDeep], laidTests := true, laidLooks := .later }
def ScopeTextsUptoCardSaid : Prop := Claim7.holds Tryz.pinned (.plain (OpenSpec.upto scopeTextsSpec)) scopeTextsUptoCard

/-- THE SECOND FORM's CARD OF 'palinglaw09.CodeTexts'. -/
def codeTextsUptoCard : Claim7 := { stood := { row := codeTextsUptoRow, standIns := [], harness := (true, "1b35d809d58df958f98bad26d3d4636c7846331978a49a3e9c0f69bd4b4731d2"), looks := true }, kinds := [], alts := [], laidByText := true, laidKinds := [.data, .data, .data, .sentinel, .sentinel, .data, .data, .data, .mapped, .data, .widerDeep, .data], laidTests := true, laidLooks := .later }
def CodeTextsUptoCardSaid : Prop := Claim7.holds Tryz.pinned (.plain (OpenSpec.upto codeTextsSpec)) codeTextsUptoCard

/-- THE SECOND FORM's CARD OF 'palinglaw09.CodeOps'. -/
def codeOpsUptoCard : Claim7 := { stood := { row := codeOpsUptoRow, standIns := [], harness := (true, "1b35d809d58df958f98bad26d3d4636c7846331978a49a3e9c0f69bd4b4731d2"), looks := true }, kinds := [], alts := [], laidByText := true, laidKinds := [.data, .data, .data, .sentinel, .sentinel, .data, .data, .data, .mapped, .data, .widerDeep], laidTests := true, laidLooks := .later }
def CodeOpsUptoCardSaid : Prop := Claim7.holds Tryz.pinned (.plain (OpenSpec.upto codeOpsSpec)) codeOpsUptoCard

/-- THE SECOND FORM's CARD OF 'palinglaw09.CodeApart'. -/
def codeApartUptoCard : Claim7 := { stood := { row := codeApartUptoRow, standIns := [], harness := (true, "1b35d809d58df958f98bad26d3d4636c7846331978a49a3e9c0f69bd4b4731d2"), looks := true }, kinds := [], alts := [], laidByText := true, laidKinds := [.data, .data, .data, .sentinel, .sentinel, .data, .data, .data, .mapped, .data, .widerDeep], laidTests := true, laidLooks := .later }
def CodeApartUptoCardSaid : Prop := Claim7.holds Tryz.pinned (.plain (OpenSpec.upto codeApartSpec)) codeApartUptoCard

/-- THE SECOND FORM's CARD OF 'palinglaw09.CodePrints'. -/
def codePrintsUptoCard : Claim7 := { stood := { row := codePrintsUptoRow, standIns := [], harness := (true, "1b35d809d58df958f98bad26d3d4636c7846331978a49a3e9c0f69bd4b4731d2"), looks := true }, kinds := [], alts := [], laidByText := true, laidKinds := [.data, .data, .data, .sentinel, .sentinel, .data, .data, .data, .mapped, .data, .widerDeep, .data], laidTests := true, laidLooks := .later }
def CodePrintsUptoCardSaid : Prop := Claim7.holds Tryz.pinned (.plain (OpenSpec.upto codePrintsSpec)) codePrintsUptoCard
end Rows
end Go.Proofs.YtkmkkgfdobaplaaGreatDoor
