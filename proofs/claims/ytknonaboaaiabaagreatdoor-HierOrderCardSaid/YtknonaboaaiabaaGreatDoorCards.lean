/-
  DERIVED. GIVEN WITH THE SEED: THE CARDS: each row of YtknonaboaaiabaaGreatDoorRows.lean that lists a variable, with what it lists TIED to the program's text (the seventh form; the later family's looks); each row that meets fmt, with fmt's text TOLD by the authors' own Lean function (tested against real Go, not proved from fmt's source: count such statements apart). THE CARD IS WHAT COUNTS. Prove the row's statement (the work); the ties are given (YtknonaboaaiabaaGreatDoorTie.lean); close each card by the builder's one call (the guide's Derived/Test/ToyasCard.lean, 'card_holds'). Laid BY PROGRAM, IN A SANDBOX (cutbox-door.mjs). By AI agents, Wed Nov 11 2026. No macro, syntax, notation, axiom, sorry.
-/
import Derived.Test.YtknonaboaaiabaaGreatDoorRows
import GoSem.ClaimSeven
namespace Go.Proofs.YtknonaboaaiabaaGreatDoor
namespace Rows

/-- THE TIED CARD OF 'isagogelaw15.ChaseBuilds'. -/
def chaseBuildsCard : Claim7 := { stood := { row := chaseBuildsRow, standIns := [], harness := (true, "751c7fca7f541de00063c72dc50c2c52cfd34ba87ddfd1efab6d91f92ae4559e"), looks := false }, kinds := [], alts := [], laidByText := true, laidKinds := [.data], laidTests := true, laidLooks := .later }
def ChaseBuildsCardSaid : Prop := Claim7.holds Tryz.pinned (.plain (OpenSpec.ofChange chaseBuildsSpec)) chaseBuildsCard

/-- THE TIED CARD OF 'isagogelaw15.ChaseModels'. -/
def chaseModelsCard : Claim7 := { stood := { row := chaseModelsRow, standIns := [], harness := (true, "751c7fca7f541de00063c72dc50c2c52cfd34ba87ddfd1efab6d91f92ae4559e"), looks := false }, kinds := [], alts := [], laidByText := true, laidKinds := [.data], laidTests := true, laidLooks := .later }
def ChaseModelsCardSaid : Prop := Claim7.holds Tryz.pinned (.plain (OpenSpec.ofChange chaseModelsSpec)) chaseModelsCard

/-- THE TIED CARD OF 'isagogelaw05.HierOrder'. -/
def hierOrderCard : Claim7 := { stood := { row := hierOrderRow, standIns := [], harness := (true, "751c7fca7f541de00063c72dc50c2c52cfd34ba87ddfd1efab6d91f92ae4559e"), looks := false }, kinds := [], alts := [], laidByText := true, laidKinds := [.data, .data], laidTests := true, laidLooks := .later }
def HierOrderCardSaid : Prop := Claim7.holds Tryz.pinned (.plain (OpenSpec.ofChange hierOrderSpec)) hierOrderCard

/-- THE TIED CARD OF 'isagogelaw15.ChaseAnswers'. -/
def chaseAnswersCard : Claim7 := { stood := { row := chaseAnswersRow, standIns := [], harness := (true, "751c7fca7f541de00063c72dc50c2c52cfd34ba87ddfd1efab6d91f92ae4559e"), looks := false }, kinds := [], alts := [], laidByText := true, laidKinds := [.data], laidTests := true, laidLooks := .later }
def ChaseAnswersCardSaid : Prop := Claim7.holds Tryz.pinned (.plain (OpenSpec.ofChange chaseAnswersSpec)) chaseAnswersCard

/-- THE TIED CARD OF 'isagogelaw15.ChaseOwn'. -/
def chaseOwnCard : Claim7 := { stood := { row := chaseOwnRow, standIns := [], harness := (true, "751c7fca7f541de00063c72dc50c2c52cfd34ba87ddfd1efab6d91f92ae4559e"), looks := false }, kinds := [], alts := [], laidByText := true, laidKinds := [.data], laidTests := true, laidLooks := .later }
def ChaseOwnCardSaid : Prop := Claim7.holds Tryz.pinned (.plain (OpenSpec.ofChange chaseOwnSpec)) chaseOwnCard

/-- THE SECOND FORM's CARD OF 'isagogelaw15.ChaseBuilds'. -/
def chaseBuildsUptoCard : Claim7 := { stood := { row := chaseBuildsUptoRow, standIns := [], harness := (true, "751c7fca7f541de00063c72dc50c2c52cfd34ba87ddfd1efab6d91f92ae4559e"), looks := false }, kinds := [], alts := [], laidByText := true, laidKinds := [.data], laidTests := true, laidLooks := .later }
def ChaseBuildsUptoCardSaid : Prop := Claim7.holds Tryz.pinned (.plain (OpenSpec.upto chaseBuildsSpec)) chaseBuildsUptoCard

/-- THE SECOND FORM's CARD OF 'isagogelaw15.ChaseModels'. -/
def chaseModelsUptoCard : Claim7 := { stood := { row := chaseModelsUptoRow, standIns := [], harness := (true, "751c7fca7f541de00063c72dc50c2c52cfd34ba87ddfd1efab6d91f92ae4559e"), looks := false }, kinds := [], alts := [], laidByText := true, laidKinds := [.data], laidTests := true, laidLooks := .later }
def ChaseModelsUptoCardSaid : Prop := Claim7.holds Tryz.pinned (.plain (OpenSpec.upto chaseModelsSpec)) chaseModelsUptoCard

/-- THE SECOND FORM's CARD OF 'isagogelaw05.HierOrder'. -/
def hierOrderUptoCard : Claim7 := { stood := { row := hierOrderUptoRow, standIns := [], harness := (true, "751c7fca7f541de00063c72dc50c2c52cfd34ba87ddfd1efab6d91f92ae4559e"), looks := false }, kinds := [], alts := [], laidByText := true, laidKinds := [.data, .data], laidTests := true, laidLooks := .later }
def HierOrderUptoCardSaid : Prop := Claim7.holds Tryz.pinned (.plain (OpenSpec.upto hierOrderSpec)) hierOrderUptoCard

/-- THE SECOND FORM's CARD OF 'isagogelaw15.ChaseAnswers'. -/
def chaseAnswersUptoCard : Claim7 := { stood := { row := chaseAnswersUptoRow, standIns := [], harness := (true, "751c7fca7f541de00063c72dc50c2c52cfd34ba87ddfd1efab6d91f92ae4559e"), looks := false }, kinds := [], alts := [], laidByText := true, laidKinds := [.data], laidTests := true, laidLooks := .later }
def ChaseAnswersUptoCardSaid : Prop := Claim7.holds Tryz.pinned (.plain (OpenSpec.upto chaseAnswersSpec)) chaseAnswersUptoCard

/-- THE SECOND FORM's CARD OF 'isagogelaw15.ChaseOwn'. -/
def chaseOwnUptoCard : Claim7 := { stood := { row := chaseOwnUptoRow, standIns := [], harness := (true, "751c7fca7f541de00063c72dc50c2c52cfd34ba87ddfd1efab6d91f92ae4559e"), looks := false }, kinds := [], alts := [], laidByText := true, laidKinds := [.data], laidTests := true, laidLooks := .later }
def ChaseOwnUptoCardSaid : Prop := Claim7.holds Tryz.pinned (.plain (OpenSpec.upto chaseOwnSpec)) chaseOwnUptoCard
end Rows
end Go.Proofs.YtknonaboaaiabaaGreatDoor
