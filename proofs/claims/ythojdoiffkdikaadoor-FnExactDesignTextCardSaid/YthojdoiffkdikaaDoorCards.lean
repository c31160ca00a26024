/-
  DERIVED. GIVEN WITH THE SEED: THE CARDS: each row of YthojdoiffkdikaaDoorRows.lean that lists a variable, with what it lists TIED to the program's text (the seventh form; the later family's looks); each row that meets fmt, with fmt's text TOLD by the authors' own Lean function (tested against real Go, not proved from fmt's source: count such statements apart). THE CARD IS WHAT COUNTS. Prove the row's statement (the work); the ties are given (YthojdoiffkdikaaDoorTie.lean); close each card by the builder's one call (the guide's Derived/Test/ToyasCard.lean, 'card_holds'). Laid BY PROGRAM, IN A SANDBOX (cutbox-door.mjs). By AI agents, Wed Nov 11 2026. No macro, syntax, notation, axiom, sorry.
-/
import Derived.Test.YthojdoiffkdikaaDoorRows
import GoSem.ClaimSeven
namespace Go.Proofs.YthojdoiffkdikaaDoor
namespace Rows

/-- THE TIED CARD OF 'laws.FnExactPlotFold'. -/
def fnExactPlotFoldCard : Claim7 := { stood := { row := fnExactPlotFoldRow, standIns := [], harness := (true, "b300960e0bc46f6cc6f39be4764f703dee7e95c36c54d33a056955e885a5cf2a"), looks := true }, kinds := [], alts := [], laidByText := true, laidKinds := [.data, .data, .data, .data, .pinned], laidTests := true, laidLooks := .later }
def FnExactPlotFoldCardSaid : Prop := Claim7.holds Tryd.pinned (.plain (OpenSpec.ofChange fnExactPlotFoldSpec)) fnExactPlotFoldCard

/-- THE TIED CARD OF 'laws.FnExactPlotMirror'. -/
def fnExactPlotMirrorCard : Claim7 := { stood := { row := fnExactPlotMirrorRow, standIns := [], harness := (true, "b300960e0bc46f6cc6f39be4764f703dee7e95c36c54d33a056955e885a5cf2a"), looks := true }, kinds := [], alts := [], laidByText := true, laidKinds := [.data, .pinned], laidTests := true, laidLooks := .later }
def FnExactPlotMirrorCardSaid : Prop := Claim7.holds Tryd.pinned (.plain (OpenSpec.ofChange fnExactPlotMirrorSpec)) fnExactPlotMirrorCard

/-- THE TIED CARD OF 'laws.FnPlotFold'. -/
def fnPlotFoldCard : Claim7 := { stood := { row := fnPlotFoldRow, standIns := [], harness := (true, "b300960e0bc46f6cc6f39be4764f703dee7e95c36c54d33a056955e885a5cf2a"), looks := true }, kinds := [], alts := [], laidByText := true, laidKinds := [.data, .data, .data, .data, .pinned], laidTests := true, laidLooks := .later }
def FnPlotFoldCardSaid : Prop := Claim7.holds Tryd.pinned (.plain (OpenSpec.ofChange fnPlotFoldSpec)) fnPlotFoldCard

/-- THE TIED CARD OF 'laws.FnExactDesignText'. -/
def fnExactDesignTextCard : Claim7 := { stood := { row := fnExactDesignTextRow, standIns := [], harness := (true, "b300960e0bc46f6cc6f39be4764f703dee7e95c36c54d33a056955e885a5cf2a"), looks := true }, kinds := [], alts := [], laidByText := true, laidKinds := [.data, .data, .data], laidTests := true, laidLooks := .later }
def FnExactDesignTextCardSaid : Prop := Claim7.holds Tryd.pinned (.plain (OpenSpec.ofChange fnExactDesignTextSpec)) fnExactDesignTextCard

/-- THE SECOND FORM's CARD OF 'laws.FnExactPlotFold'. -/
def fnExactPlotFoldUptoCard : Claim7 := { stood := { row := fnExactPlotFoldUptoRow, standIns := [], harness := (true, "b300960e0bc46f6cc6f39be4764f703dee7e95c36c54d33a056955e885a5cf2a"), looks := true }, kinds := [], alts := [], laidByText := true, laidKinds := [.data, .data, .data, .data, .pinned], laidTests := true, laidLooks := .later }
def FnExactPlotFoldUptoCardSaid : Prop := Claim7.holds Tryd.pinned (.plain (OpenSpec.upto fnExactPlotFoldSpec)) fnExactPlotFoldUptoCard

/-- THE SECOND FORM's CARD OF 'laws.FnExactPlotMirror'. -/
def fnExactPlotMirrorUptoCard : Claim7 := { stood := { row := fnExactPlotMirrorUptoRow, standIns := [], harness := (true, "b300960e0bc46f6cc6f39be4764f703dee7e95c36c54d33a056955e885a5cf2a"), looks := true }, kinds := [], alts := [], laidByText := true, laidKinds := [.data, .pinned], laidTests := true, laidLooks := .later }
def FnExactPlotMirrorUptoCardSaid : Prop := Claim7.holds Tryd.pinned (.plain (OpenSpec.upto fnExactPlotMirrorSpec)) fnExactPlotMirrorUptoCard

/-- THE SECOND FORM's CARD OF 'laws.FnPlotFold'. -/
def fnPlotFoldUptoCard : Claim7 := { stood := { row := fnPlotFoldUptoRow, standIns := [], harness := (true, "b300960e0bc46f6cc6f39be4764f703dee7e95c36c54d33a056955e885a5cf2a"), looks := true }, kinds := [], alts := [], laidByText := true, laidKinds := [.data, .data, .data, .data, .pinned], laidTests := true, laidLooks := .later }
def FnPlotFoldUptoCardSaid : Prop := Claim7.holds Tryd.pinned (.plain (OpenSpec.upto fnPlotFoldSpec)) fnPlotFoldUptoCard

/-- THE SECOND FORM's CARD OF 'laws.FnExactDesignText'. -/
def fnExactDesignTextUptoCard : Claim7 := { stood := { row := fnExactDesignTextUptoRow, standIns := [], harness := (true, "b300960e0bc46f6cc6f39be4764f703dee7e95c36c54d33a056955e885a5cf2a"), looks := true }, kinds := [], alts := [], laidByText := true, laidKinds := [.data, .data, .data], laidTests := true, laidLooks := .later }
def FnExactDesignTextUptoCardSaid : Prop := Claim7.holds Tryd.pinned (.plain (OpenSpec.upto fnExactDesignTextSpec)) fnExactDesignTextUptoCard
end Rows
end Go.Proofs.YthojdoiffkdikaaDoor
