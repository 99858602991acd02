/-
  DERIVED. GIVEN WITH THE SEED: THE CARDS: each row of YthiclhbnggehoaaGreatDoorRows.lean that lists a variable, with what it lists TIED to the program's text (the seventh form; the later family's looks); each row that meets fmt, with fmt's text TOLD by the authors' own Lean function (tested against real Go, not proved from fmt's source: count such statements apart). THE CARD IS WHAT COUNTS. Prove the row's statement (the work); the ties are given (YthiclhbnggehoaaGreatDoorTie.lean); close each card by the builder's one call (the guide's Derived/Test/ToyasCard.lean, 'card_holds'). Laid BY PROGRAM, IN A SANDBOX (cutbox-door.mjs). By AI agents, Wed Nov 11 2026. No macro, syntax, notation, axiom, sorry.
-/
import Derived.Test.YthiclhbnggehoaaGreatDoorRows
import GoSem.ClaimSeven
namespace Go.Proofs.YthiclhbnggehoaaGreatDoor
namespace Rows

/-- THE TIED CARD OF 'isagogelaw19.ModuleModules'. -/
def moduleModulesCard : Claim7 := { stood := { row := moduleModulesRow, standIns := [], harness := (true, "9618a50fdcacaf7ecfc504094f6422d3e64c6d7c860954d37666115e1e4b786d"), looks := false }, kinds := [], alts := [], laidByText := true, laidKinds := [.data], laidTests := true, laidLooks := .later }
def ModuleModulesCardSaid : Prop := Claim7.holds Tryz.pinned (.plain (OpenSpec.ofChange moduleModulesSpec)) moduleModulesCard

/-- THE TIED CARD OF 'isagogelaw19.ModuleGrows'. -/
def moduleGrowsCard : Claim7 := { stood := { row := moduleGrowsRow, standIns := [], harness := (true, "9618a50fdcacaf7ecfc504094f6422d3e64c6d7c860954d37666115e1e4b786d"), looks := false }, kinds := [], alts := [], laidByText := true, laidKinds := [.data], laidTests := true, laidLooks := .later }
def ModuleGrowsCardSaid : Prop := Claim7.holds Tryz.pinned (.plain (OpenSpec.ofChange moduleGrowsSpec)) moduleGrowsCard

/-- THE TIED CARD OF 'isagogelaw19.ModuleLocal'. -/
def moduleLocalCard : Claim7 := { stood := { row := moduleLocalRow, standIns := [], harness := (true, "9618a50fdcacaf7ecfc504094f6422d3e64c6d7c860954d37666115e1e4b786d"), looks := false }, kinds := [], alts := [], laidByText := true, laidKinds := [.data], laidTests := true, laidLooks := .later }
def ModuleLocalCardSaid : Prop := Claim7.holds Tryz.pinned (.plain (OpenSpec.ofChange moduleLocalSpec)) moduleLocalCard

/-- THE TIED CARD OF 'isagogelaw19.ModuleShapes'. -/
def moduleShapesCard : Claim7 := { stood := { row := moduleShapesRow, standIns := [], harness := (true, "9618a50fdcacaf7ecfc504094f6422d3e64c6d7c860954d37666115e1e4b786d"), looks := false }, kinds := [], alts := [], laidByText := true, laidKinds := [.data], laidTests := true, laidLooks := .later }
def ModuleShapesCardSaid : Prop := Claim7.holds Tryz.pinned (.plain (OpenSpec.ofChange moduleShapesSpec)) moduleShapesCard

/-- THE SECOND FORM's CARD OF 'isagogelaw19.ModuleModules'. -/
def moduleModulesUptoCard : Claim7 := { stood := { row := moduleModulesUptoRow, standIns := [], harness := (true, "9618a50fdcacaf7ecfc504094f6422d3e64c6d7c860954d37666115e1e4b786d"), looks := false }, kinds := [], alts := [], laidByText := true, laidKinds := [.data], laidTests := true, laidLooks := .later }
def ModuleModulesUptoCardSaid : Prop := Claim7.holds Tryz.pinned (.plain (OpenSpec.upto moduleModulesSpec)) moduleModulesUptoCard

/-- THE SECOND FORM's CARD OF 'isagogelaw19.ModuleGrows'. -/
def moduleGrowsUptoCard : Claim7 := { stood := { row := moduleGrowsUptoRow, standIns := [], harness := (true, "9618a50fdcacaf7ecfc504094f6422d3e64c6d7c860954d37666115e1e4b786d"), looks := false }, kinds := [], alts := [], laidByText := true, laidKinds := [.data], laidTests := true, laidLooks := .later }
def ModuleGrowsUptoCardSaid : Prop := Claim7.holds Tryz.pinned (.plain (OpenSpec.upto moduleGrowsSpec)) moduleGrowsUptoCard

/-- THE SECOND FORM's CARD OF 'isagogelaw19.ModuleLocal'. -/
def moduleLocalUptoCard : Claim7 := { stood := { row := moduleLocalUptoRow, standIns := [], harness := (true, "9618a50fdcacaf7ecfc504094f6422d3e64c6d7c860954d37666115e1e4b786d"), looks := false }, kinds := [], alts := [], laidByText := true, laidKinds := [.data], laidTests := true, laidLooks := .later }
def ModuleLocalUptoCardSaid : Prop := Claim7.holds Tryz.pinned (.plain (OpenSpec.upto moduleLocalSpec)) moduleLocalUptoCard

/-- THE SECOND FORM's CARD OF 'isagogelaw19.ModuleShapes'. -/
def moduleShapesUptoCard : Claim7 := { stood := { row := moduleShapesUptoRow, standIns := [], harness := (true, "9618a50fdcacaf7ecfc504094f6422d3e64c6d7c860954d37666115e1e4b786d"), looks := false }, kinds := [], alts := [], laidByText := true, laidKinds := [.data], laidTests := true, laidLooks := .later }
def ModuleShapesUptoCardSaid : Prop := Claim7.holds Tryz.pinned (.plain (OpenSpec.upto moduleShapesSpec)) moduleShapesUptoCard
end Rows
end Go.Proofs.YthiclhbnggehoaaGreatDoor
