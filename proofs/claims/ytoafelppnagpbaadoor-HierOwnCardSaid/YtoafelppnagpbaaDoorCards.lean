/-
  DERIVED. GIVEN WITH THE SEED: THE CARDS: each row of YtoafelppnagpbaaDoorRows.lean that lists a variable, with what it lists TIED to the program's text (the seventh form; the later family's looks); each row that meets fmt, with fmt's text TOLD by the authors' own Lean function (tested against real Go, not proved from fmt's source: count such statements apart). THE CARD IS WHAT COUNTS. Prove the row's statement (the work); the ties are given (YtoafelppnagpbaaDoorTie.lean); close each card by the builder's one call (the guide's Derived/Test/ToyasCard.lean, 'card_holds'). Laid BY PROGRAM, IN A SANDBOX (cutbox-door.mjs). By AI agents, Wed Nov 11 2026. No macro, syntax, notation, axiom, sorry.
-/
import Derived.Test.YtoafelppnagpbaaDoorRows
import GoSem.ClaimSeven
namespace Go.Proofs.YtoafelppnagpbaaDoor
namespace Rows

/-- THE TIED CARD OF 'isagogelaw05.HierRoles'. -/
def hierRolesCard : Claim7 := { stood := { row := hierRolesRow, standIns := [], harness := (true, "5dfc429ac4c3dee6078c3c58502891092ca10631eb618c741add1a27dfbf0ca4"), looks := false }, kinds := [], alts := [], laidByText := true, laidKinds := [.data, .data], laidTests := true, laidLooks := .later }
def HierRolesCardSaid : Prop := Claim7.holds Tryd.pinned (.plain (OpenSpec.ofChange hierRolesSpec)) hierRolesCard

/-- THE TIED CARD OF 'isagogelaw05.HierOwn'. -/
def hierOwnCard : Claim7 := { stood := { row := hierOwnRow, standIns := [], harness := (true, "5dfc429ac4c3dee6078c3c58502891092ca10631eb618c741add1a27dfbf0ca4"), looks := false }, kinds := [], alts := [], laidByText := true, laidKinds := [.data, .data], laidTests := true, laidLooks := .later }
def HierOwnCardSaid : Prop := Claim7.holds Tryd.pinned (.plain (OpenSpec.ofChange hierOwnSpec)) hierOwnCard

/-- THE TIED CARD OF 'isagogelaw05.HierTypes'. -/
def hierTypesCard : Claim7 := { stood := { row := hierTypesRow, standIns := [], harness := (true, "5dfc429ac4c3dee6078c3c58502891092ca10631eb618c741add1a27dfbf0ca4"), looks := false }, kinds := [], alts := [], laidByText := true, laidKinds := [.data, .data], laidTests := true, laidLooks := .later }
def HierTypesCardSaid : Prop := Claim7.holds Tryd.pinned (.plain (OpenSpec.ofChange hierTypesSpec)) hierTypesCard

/-- THE SECOND FORM's CARD OF 'isagogelaw05.HierRoles'. -/
def hierRolesUptoCard : Claim7 := { stood := { row := hierRolesUptoRow, standIns := [], harness := (true, "5dfc429ac4c3dee6078c3c58502891092ca10631eb618c741add1a27dfbf0ca4"), looks := false }, kinds := [], alts := [], laidByText := true, laidKinds := [.data, .data], laidTests := true, laidLooks := .later }
def HierRolesUptoCardSaid : Prop := Claim7.holds Tryd.pinned (.plain (OpenSpec.upto hierRolesSpec)) hierRolesUptoCard

/-- THE SECOND FORM's CARD OF 'isagogelaw05.HierOwn'. -/
def hierOwnUptoCard : Claim7 := { stood := { row := hierOwnUptoRow, standIns := [], harness := (true, "5dfc429ac4c3dee6078c3c58502891092ca10631eb618c741add1a27dfbf0ca4"), looks := false }, kinds := [], alts := [], laidByText := true, laidKinds := [.data, .data], laidTests := true, laidLooks := .later }
def HierOwnUptoCardSaid : Prop := Claim7.holds Tryd.pinned (.plain (OpenSpec.upto hierOwnSpec)) hierOwnUptoCard

/-- THE SECOND FORM's CARD OF 'isagogelaw05.HierTypes'. -/
def hierTypesUptoCard : Claim7 := { stood := { row := hierTypesUptoRow, standIns := [], harness := (true, "5dfc429ac4c3dee6078c3c58502891092ca10631eb618c741add1a27dfbf0ca4"), looks := false }, kinds := [], alts := [], laidByText := true, laidKinds := [.data, .data], laidTests := true, laidLooks := .later }
def HierTypesUptoCardSaid : Prop := Claim7.holds Tryd.pinned (.plain (OpenSpec.upto hierTypesSpec)) hierTypesUptoCard
end Rows
end Go.Proofs.YtoafelppnagpbaaDoor
