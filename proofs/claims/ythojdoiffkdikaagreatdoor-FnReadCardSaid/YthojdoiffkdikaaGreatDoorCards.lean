/-
  DERIVED. GIVEN WITH THE SEED: THE CARDS: each row of YthojdoiffkdikaaGreatDoorRows.lean that lists a variable, with what it lists TIED to the program's text (the seventh form; the later family's looks); each row that meets fmt, with fmt's text TOLD by the authors' own Lean function (tested against real Go, not proved from fmt's source: count such statements apart). THE CARD IS WHAT COUNTS. Prove the row's statement (the work); the ties are given (YthojdoiffkdikaaGreatDoorTie.lean); close each card by the builder's one call (the guide's Derived/Test/ToyasCard.lean, 'card_holds'). Laid BY PROGRAM, IN A SANDBOX (cutbox-door.mjs). By AI agents, Wed Nov 11 2026. No macro, syntax, notation, axiom, sorry.
-/
import Derived.Test.YthojdoiffkdikaaGreatDoorRows
import GoSem.ClaimSeven
namespace Go.Proofs.YthojdoiffkdikaaGreatDoor
namespace Rows

/-- THE TIED CARD OF 'laws.FnPlotMirror'. -/
def fnPlotMirrorCard : Claim7 := { stood := { row := fnPlotMirrorRow, standIns := [], harness := (true, "761d8c259546a308853614d76677a012036ed64c89e294ac619c299f77744eb8"), looks := true }, kinds := [], alts := [], laidByText := true, laidKinds := [.data, .pinned], laidTests := true, laidLooks := .later }
def FnPlotMirrorCardSaid : Prop := Claim7.holds Tryz.pinned (.plain (OpenSpec.ofChange fnPlotMirrorSpec)) fnPlotMirrorCard

/-- THE TIED CARD OF 'laws.FnExactDesignRead'. -/
def fnExactDesignReadCard : Claim7 := { stood := { row := fnExactDesignReadRow, standIns := [], harness := (true, "761d8c259546a308853614d76677a012036ed64c89e294ac619c299f77744eb8"), looks := true }, kinds := [], alts := [], laidByText := true, laidKinds := [.data, .data, .data, .data, .sentinel, .sentinel, .pinned], laidTests := true, laidLooks := .later }
def FnExactDesignReadCardSaid : Prop := Claim7.holds Tryz.pinned (.plain (OpenSpec.ofChange fnExactDesignReadSpec)) fnExactDesignReadCard

/-- THE TIED CARD OF 'laws.FnText'. -/
def fnTextCard : Claim7 := { stood := { row := fnTextRow, standIns := [], harness := (true, "761d8c259546a308853614d76677a012036ed64c89e294ac619c299f77744eb8"), looks := true }, kinds := [], alts := [], laidByText := true, laidKinds := [.data, .data, .data, .data, .sentinel, .sentinel, .pinned], laidTests := true, laidLooks := .later }
def FnTextCardSaid : Prop := Claim7.holds Tryz.pinned (.plain (OpenSpec.ofChange fnTextSpec)) fnTextCard

/-- THE TIED CARD OF 'laws.FnRead'. -/
def fnReadCard : Claim7 := { stood := { row := fnReadRow, standIns := [], harness := (true, "761d8c259546a308853614d76677a012036ed64c89e294ac619c299f77744eb8"), looks := true }, kinds := [], alts := [], laidByText := true, laidKinds := [.data, .data, .data, .data, .sentinel, .sentinel, .pinned], laidTests := true, laidLooks := .later }
def FnReadCardSaid : Prop := Claim7.holds Tryz.pinned (.plain (OpenSpec.ofChange fnReadSpec)) fnReadCard

/-- THE SECOND FORM's CARD OF 'laws.FnPlotMirror'. -/
def fnPlotMirrorUptoCard : Claim7 := { stood := { row := fnPlotMirrorUptoRow, standIns := [], harness := (true, "761d8c259546a308853614d76677a012036ed64c89e294ac619c299f77744eb8"), looks := true }, kinds := [], alts := [], laidByText := true, laidKinds := [.data, .pinned], laidTests := true, laidLooks := .later }
def FnPlotMirrorUptoCardSaid : Prop := Claim7.holds Tryz.pinned (.plain (OpenSpec.upto fnPlotMirrorSpec)) fnPlotMirrorUptoCard

/-- THE SECOND FORM's CARD OF 'laws.FnExactDesignRead'. -/
def fnExactDesignReadUptoCard : Claim7 := { stood := { row := fnExactDesignReadUptoRow, standIns := [], harness := (true, "761d8c259546a308853614d76677a012036ed64c89e294ac619c299f77744eb8"), looks := true }, kinds := [], alts := [], laidByText := true, laidKinds := [.data, .data, .data, .data, .sentinel, .sentinel, .pinned], laidTests := true, laidLooks := .later }
def FnExactDesignReadUptoCardSaid : Prop := Claim7.holds Tryz.pinned (.plain (OpenSpec.upto fnExactDesignReadSpec)) fnExactDesignReadUptoCard

/-- THE SECOND FORM's CARD OF 'laws.FnText'. -/
def fnTextUptoCard : Claim7 := { stood := { row := fnTextUptoRow, standIns := [], harness := (true, "761d8c259546a308853614d76677a012036ed64c89e294ac619c299f77744eb8"), looks := true }, kinds := [], alts := [], laidByText := true, laidKinds := [.data, .data, .data, .data, .sentinel, .sentinel, .pinned], laidTests := true, laidLooks := .later }
def FnTextUptoCardSaid : Prop := Claim7.holds Tryz.pinned (.plain (OpenSpec.upto fnTextSpec)) fnTextUptoCard

/-- THE SECOND FORM's CARD OF 'laws.FnRead'. -/
def fnReadUptoCard : Claim7 := { stood := { row := fnReadUptoRow, standIns := [], harness := (true, "761d8c259546a308853614d76677a012036ed64c89e294ac619c299f77744eb8"), looks := true }, kinds := [], alts := [], laidByText := true, laidKinds := [.data, .data, .data, .data, .sentinel, .sentinel, .pinned], laidTests := true, laidLooks := .later }
def FnReadUptoCardSaid : Prop := Claim7.holds Tryz.pinned (.plain (OpenSpec.upto fnReadSpec)) fnReadUptoCard
end Rows
end Go.Proofs.YthojdoiffkdikaaGreatDoor
