/-
  DERIVED. GIVEN WITH THE SEED: THE CARDS: each row of YtlillgmgpmbfnaaGreatDoorRows.lean that lists a variable, with what it lists TIED to the program's text (the seventh form; the later family's looks); each row that meets fmt, with fmt's text TOLD by the authors' own Lean function (tested against real Go, not proved from fmt's source: count such statements apart). THE CARD IS WHAT COUNTS. Prove the row's statement (the work); the ties are given (YtlillgmgpmbfnaaGreatDoorTie.lean); close each card by the builder's one call (the guide's Derived/Test/ToyasCard.lean, 'card_holds'). Laid BY PROGRAM, IN A SANDBOX (cutbox-door.mjs). By AI agents, Wed Nov 11 2026. No macro, syntax, notation, axiom, sorry.
-/
import Derived.Test.YtlillgmgpmbfnaaGreatDoorRows
import GoSem.ClaimSeven
namespace Go.Proofs.YtlillgmgpmbfnaaGreatDoor
namespace Rows

/-- THE TIED CARD OF 'palinglaw06.TreePrints'. -/
def treePrintsCard : Claim7 := { stood := { row := treePrintsRow, standIns := [], harness := (true, "6117d0eb63ec57baad002b3d710af548d8d99a757b865ef30bce4cb8e059369e"), looks := true }, kinds := [], alts := [], laidByText := true, laidKinds := [.data, .data, .data, .sentinel, .sentinel, .data], laidTests := true, laidLooks := .later }
def TreePrintsCardSaid : Prop := Claim7.holds Tryz.pinned (.plain (OpenSpec.ofChange treePrintsSpec)) treePrintsCard

/-- THE TIED CARD OF 'palinglaw06.TreeJoins'. -/
def treeJoinsCard : Claim7 := { stood := { row := treeJoinsRow, standIns := [], harness := (true, "6117d0eb63ec57baad002b3d710af548d8d99a757b865ef30bce4cb8e059369e"), looks := true }, kinds := [], alts := [], laidByText := true, laidKinds := [.data, .data, .data, .sentinel, .sentinel, .data], laidTests := true, laidLooks := .later }
def TreeJoinsCardSaid : Prop := Claim7.holds Tryz.pinned (.plain (OpenSpec.ofChange treeJoinsSpec)) treeJoinsCard

/-- THE TIED CARD OF 'palinglaw06.TreeSames'. -/
def treeSamesCard : Claim7 := { stood := { row := treeSamesRow, standIns := [], harness := (true, "6117d0eb63ec57baad002b3d710af548d8d99a757b865ef30bce4cb8e059369e"), looks := true }, kinds := [], alts := [], laidByText := true, laidKinds := [.data, .data, .data, .sentinel, .sentinel, .data], laidTests := true, laidLooks := .later }
def TreeSamesCardSaid : Prop := Claim7.holds Tryz.pinned (.plain (OpenSpec.ofChange treeSamesSpec)) treeSamesCard

/-- THE TIED CARD OF 'palinglaw07.ParseSugar'. -/
def parseSugarCard : Claim7 := { stood := { row := parseSugarRow, standIns := [], harness := (true, "6117d0eb63ec57baad002b3d710af548d8d99a757b865ef30bce4cb8e059369e"), looks := true }, kinds := [], alts := [], laidByText := true, laidKinds := [.data, .data, .data, .sentinel, .sentinel, .data, .data, .mapped, .data], laidTests := true, laidLooks := .later }
def ParseSugarCardSaid : Prop := Claim7.holds Tryz.pinned (.plain (OpenSpec.ofChange parseSugarSpec)) parseSugarCard

/-- THE TIED CARD OF 'palinglaw07.ParseLevels'. -/
def parseLevelsCard : Claim7 := { stood := { row := parseLevelsRow, standIns := [], harness := (true, "6117d0eb63ec57baad002b3d710af548d8d99a757b865ef30bce4cb8e059369e"), looks := true }, kinds := [], alts := [], laidByText := true, laidKinds := [.data, .data, .data, .sentinel, .sentinel, .data, .data, .mapped, .data], laidTests := true, laidLooks := .later }
def ParseLevelsCardSaid : Prop := Claim7.holds Tryz.pinned (.plain (OpenSpec.ofChange parseLevelsSpec)) parseLevelsCard

/-- THE TIED CARD OF 'palinglaw07.ParseJoins'. -/
def parseJoinsCard : Claim7 := { stood := { row := parseJoinsRow, standIns := [], harness := (true, "6117d0eb63ec57baad002b3d710af548d8d99a757b865ef30bce4cb8e059369e"), looks := true }, kinds := [], alts := [], laidByText := true, laidKinds := [.data, .data, .data, .sentinel, .sentinel, .data, .data, .mapped, .data], laidTests := true, laidLooks := .later }
def ParseJoinsCardSaid : Prop := Claim7.holds Tryz.pinned (.plain (OpenSpec.ofChange parseJoinsSpec)) parseJoinsCard

/-- THE TIED CARD OF 'palinglaw07.ParseNotes'. -/
def parseNotesCard : Claim7 := { stood := { row := parseNotesRow, standIns := [], harness := (true, "6117d0eb63ec57baad002b3d710af548d8d99a757b865ef30bce4cb8e059369e"), looks := true }, kinds := [], alts := [], laidByText := true, laidKinds := [.data, .data, .data, .data, .sentinel, .sentinel, .data, .data, .mapped, .data, .pinned], laidTests := true, laidLooks := .later }
def ParseNotesCardSaid : Prop := Claim7.holds Tryz.pinned (.plain (OpenSpec.ofChange parseNotesSpec)) parseNotesCard

/-- THE TIED CARD OF 'palinglaw07.ParseBack'. -/
def parseBackCard : Claim7 := { stood := { row := parseBackRow, standIns := [], harness := (true, "6117d0eb63ec57baad002b3d710af548d8d99a757b865ef30bce4cb8e059369e"), looks := true }, kinds := [], alts := [], laidByText := true, laidKinds := [.data, .data, .data, .sentinel, .sentinel, .data, .data, .mapped, .data, .widerDeep], laidTests := true, laidLooks := .later }
def ParseBackCardSaid : Prop := Claim7.holds Tryz.pinned (.plain (OpenSpec.ofChange parseBackSpec)) parseBackCard

/-- THE TIED CARD OF 'palinglaw07.ParseSpoilt'. -/
def parseSpoiltCard : Claim7 := { stood := { row := parseSpoiltRow, standIns := [], harness := (true, "6117d0eb63ec57baad002b3d710af548d8d99a757b865ef30bce4cb8e059369e"), looks := true }, kinds := [], alts := [], laidByText := true, laidKinds := [.data, .data, .data, .sentinel, .sentinel, .data, .data, .mapped, .data, .widerDeep], laidTests := true, laidLooks := .later }
def ParseSpoiltCardSaid : Prop := Claim7.holds Tryz.pinned (.plain (OpenSpec.ofChange parseSpoiltSpec)) parseSpoiltCard

/-- THE TIED CARD OF 'palinglaw07.ParseDeep'. -/
def parseDeepCard : Claim7 := { stood := { row := parseDeepRow, standIns := [], harness := (true, "6117d0eb63ec57baad002b3d710af548d8d99a757b865ef30bce4cb8e059369e"), looks := true }, kinds := [], alts := [], laidByText := true, laidKinds := [.data, .data, .data, .sentinel, .sentinel, .data, .data, .mapped, .data, .widerDeep], laidTests := true, laidLooks := .later }
def ParseDeepCardSaid : Prop := Claim7.holds Tryz.pinned (.plain (OpenSpec.ofChange parseDeepSpec)) parseDeepCard

/-- THE TIED CARD OF 'palinglaw08.ScopeTexts'. -/
def scopeTextsCard : Claim7 := { stood := { row := scopeTextsRow, standIns := [], harness := (true, "6117d0eb63ec57baad002b3d710af548d8d99a757b865ef30bce4cb8e059369e"), looks := true }, kinds := [], alts := [], laidByText := true, laidKinds := [.data, .data, .data, .sentinel, .sentinel, .data, .data, .mapped, .data, .widerDeep], laidTests := true, laidLooks := .later }
def ScopeTextsCardSaid : Prop := Claim7.holds Tryz.pinned (.plain (OpenSpec.ofChange scopeTextsSpec)) scopeTextsCard

/-- THE SECOND FORM's CARD OF 'palinglaw06.TreePrints'. -/
def treePrintsUptoCard : Claim7 := { stood := { row := treePrintsUptoRow, standIns := [], harness := (true, "6117d0eb63ec57baad002b3d710af548d8d99a757b865ef30bce4cb8e059369e"), looks := true }, kinds := [], alts := [], laidByText := true, laidKinds := [.data, .data, .data, .sentinel, .sentinel, .data], laidTests := true, laidLooks := .later }
def TreePrintsUptoCardSaid : Prop := Claim7.holds Tryz.pinned (.plain (OpenSpec.upto treePrintsSpec)) treePrintsUptoCard

/-- THE SECOND FORM's CARD OF 'palinglaw06.TreeJoins'. -/
def treeJoinsUptoCard : Claim7 := { stood := { row := treeJoinsUptoRow, standIns := [], harness := (true, "6117d0eb63ec57baad002b3d710af548d8d99a757b865ef30bce4cb8e059369e"), looks := true }, kinds := [], alts := [], laidByText := true, laidKinds := [.data, .data, .data, .sentinel, .sentinel, .data], laidTests := true, laidLooks := .later }
def TreeJoinsUptoCardSaid : Prop := Claim7.holds Tryz.pinned (.plain (OpenSpec.upto treeJoinsSpec)) treeJoinsUptoCard

/-- THE SECOND FORM's CARD OF 'palinglaw06.TreeSames'. -/
def treeSamesUptoCard : Claim7 := { stood := { row := treeSamesUptoRow, standIns := [], harness := (true, "6117d0eb63ec57baad002b3d710af548d8d99a757b865ef30bce4cb8e059369e"), looks := true }, kinds := [], alts := [], laidByText := true, laidKinds := [.data, .data, .data, .sentinel, .sentinel, .data], laidTests := true, laidLooks := .later }
def TreeSamesUptoCardSaid : Prop := Claim7.holds Tryz.pinned (.plain (OpenSpec.upto treeSamesSpec)) treeSamesUptoCard

/-- THE SECOND FORM's CARD OF 'palinglaw07.ParseSugar'. -/
def parseSugarUptoCard : Claim7 := { stood := { row := parseSugarUptoRow, standIns := [], harness := (true, "6117d0eb63ec57baad002b3d710af548d8d99a757b865ef30bce4cb8e059369e"), looks := true }, kinds := [], alts := [], laidByText := true, laidKinds := [.data, .data, .data, .sentinel, .sentinel, .data, .data, .mapped, .data], laidTests := true, laidLooks := .later }
def ParseSugarUptoCardSaid : Prop := Claim7.holds Tryz.pinned (.plain (OpenSpec.upto parseSugarSpec)) parseSugarUptoCard

/-- THE SECOND FORM's CARD OF 'palinglaw07.ParseLevels'. -/
def parseLevelsUptoCard : Claim7 := { stood := { row := parseLevelsUptoRow, standIns := [], harness := (true, "6117d0eb63ec57baad002b3d710af548d8d99a757b865ef30bce4cb8e059369e"), looks := true }, kinds := [], alts := [], laidByText := true, laidKinds := [.data, .data, .data, .sentinel, .sentinel, .data, .data, .mapped, .data], laidTests := true, laidLooks := .later }
def ParseLevelsUptoCardSaid : Prop := Claim7.holds Tryz.pinned (.plain (OpenSpec.upto parseLevelsSpec)) parseLevelsUptoCard

/-- THE SECOND FORM's CARD OF 'palinglaw07.ParseJoins'. -/
def parseJoinsUptoCard : Claim7 := { stood := { row := parseJoinsUptoRow, standIns := [], harness := (true, "6117d0eb63ec57baad002b3d710af548d8d99a757b865ef30bce4cb8e059369e"), looks := true }, kinds := [], alts := [], laidByText := true, laidKinds := [.data, .data, .data, .sentinel, .sentinel, .data, .data, .mapped, .data], laidTests := true, laidLooks := .later }
def ParseJoinsUptoCardSaid : Prop := Claim7.holds Tryz.pinned (.plain (OpenSpec.upto parseJoinsSpec)) parseJoinsUptoCard

/-- THE SECOND FORM's CARD OF 'palinglaw07.ParseNotes'. -/
def parseNotesUptoCard : Claim7 := { stood := { row := parseNotesUptoRow, standIns := [], harness := (true, "6117d0eb63ec57baad002b3d710af548d8d99a757b865ef30bce4cb8e059369e"), looks := true }, kinds := [], alts := [], laidByText := true, laidKinds := [.data, .data, .data, .data, .sentinel, .sentinel, .data, .data, .mapped, .data, .pinned], laidTests := true, laidLooks := .later }
def ParseNotesUptoCardSaid : Prop := Claim7.holds Tryz.pinned (.plain (OpenSpec.upto parseNotesSpec)) parseNotesUptoCard

/-- THE SECOND FORM's CARD OF 'palinglaw07.ParseBack'. -/
def parseBackUptoCard : Claim7 := { stood := { row := parseBackUptoRow, standIns := [], harness := (true, "6117d0eb63ec57baad002b3d710af548d8d99a757b865ef30bce4cb8e059369e"), looks := true }, kinds := [], alts := [], laidByText := true, laidKinds := [.data, .data, .data, .sentinel, .sentinel, .data, .data, .mapped, .data, .widerDeep], laidTests := true, laidLooks := .later }
def ParseBackUptoCardSaid : Prop := Claim7.holds Tryz.pinned (.plain (OpenSpec.upto parseBackSpec)) parseBackUptoCard

/-- THE SECOND FORM's CARD OF 'palinglaw07.ParseSpoilt'. -/
def parseSpoiltUptoCard : Claim7 := { stood := { row := parseSpoiltUptoRow, standIns := [], harness := (true, "6117d0eb63ec57baad002b3d710af548d8d99a757b865ef30bce4cb8e059369e"), looks := true }, kinds := [], alts := [], laidByText := true, laidKinds := [.data, .data, .data, .sentinel, .sentinel, .data, .data, .mapped, .data, .widerDeep], laidTests := true, laidLooks := .later }
def ParseSpoiltUptoCardSaid : Prop := Claim7.holds Tryz.pinned (.plain (OpenSpec.upto parseSpoiltSpec)) parseSpoiltUptoCard

/-- THE SECOND FORM's CARD OF 'palinglaw07.ParseDeep'. -/
def parseDeepUptoCard : Claim7 := { stood := { row := parseDeepUptoRow, standIns := [], harness := (true, "6117d0eb63ec57baad002b3d710af548d8d99a757b865ef30bce4cb8e059369e"), looks := true }, kinds := [], alts := [], laidByText := true, laidKinds := [.data, .data, .data, .sentinel, .sentinel, .data, .data, .mapped, .data, .widerDeep], laidTests := true, laidLooks := .later }
def ParseDeepUptoCardSaid : Prop := Claim7.holds Tryz.pinned (.plain (OpenSpec.upto parseDeepSpec)) parseDeepUptoCard

/-- THE SECOND FORM's CARD OF 'palinglaw08.ScopeTexts'. -/
def scopeTextsUptoCard : Claim7 := { stood := { row := scopeTextsUptoRow, standIns := [], harness := (true, "6117d0eb63ec57baad002b3d710af548d8d99a757b865ef30bce4cb8e059369e"), looks := true }, kinds := [], alts := [], laidByText := true, laidKinds := [.data, .data, .data, .sentinel, .sentinel, .data, .data, .mapped, .data, .widerDeep], laidTests := true, laidLooks := .later }
def ScopeTextsUptoCardSaid : Prop := Claim7.holds Tryz.pinned (.plain (OpenSpec.upto scopeTextsSpec)) scopeTextsUptoCard
end Rows
end Go.Proofs.YtlillgmgpmbfnaaGreatDoor
