/-
  DERIVED. GIVEN WITH THE SEED: THE CARDS: each row of YtoafelppnagpbaaGreatDoorRows.lean that lists a variable, with what it lists TIED to the program's text (the seventh form; the later family's looks); each row that meets fmt, with fmt's text TOLD by the authors' own Lean function (tested against real Go, not proved from fmt's source: count such statements apart). THE CARD IS WHAT COUNTS. Prove the row's statement (the work); the ties are given (YtoafelppnagpbaaGreatDoorTie.lean); close each card by the builder's one call (the guide's Derived/Test/ToyasCard.lean, 'card_holds'). Laid BY PROGRAM, IN A SANDBOX (cutbox-door.mjs). By AI agents, Wed Nov 11 2026. No macro, syntax, notation, axiom, sorry.
-/
import Derived.Test.YtoafelppnagpbaaGreatDoorRows
import GoSem.ClaimSeven
namespace Go.Proofs.YtoafelppnagpbaaGreatDoor
namespace Rows

/-- THE TIED CARD OF 'isagogelaw05.HierMarks'. -/
def hierMarksCard : Claim7 := { stood := { row := hierMarksRow, standIns := [], harness := (true, "fc7e13a1472d748372989a362089e0668827b3f11d32c2fa4cc721737671485f"), looks := false }, kinds := [], alts := [], laidByText := true, laidKinds := [.data, .data], laidTests := true, laidLooks := .later }
def HierMarksCardSaid : Prop := Claim7.holds Tryz.pinned (.plain (OpenSpec.ofChange hierMarksSpec)) hierMarksCard

/-- THE TIED CARD OF 'isagogelaw05.HierTrue'. -/
def hierTrueCard : Claim7 := { stood := { row := hierTrueRow, standIns := [], harness := (true, "fc7e13a1472d748372989a362089e0668827b3f11d32c2fa4cc721737671485f"), looks := false }, kinds := [], alts := [], laidByText := true, laidKinds := [.data, .data], laidTests := true, laidLooks := .later }
def HierTrueCardSaid : Prop := Claim7.holds Tryz.pinned (.plain (OpenSpec.ofChange hierTrueSpec)) hierTrueCard

/-- THE TIED CARD OF 'isagogelaw05.HierOrder'. -/
def hierOrderCard : Claim7 := { stood := { row := hierOrderRow, standIns := [], harness := (true, "fc7e13a1472d748372989a362089e0668827b3f11d32c2fa4cc721737671485f"), looks := false }, kinds := [], alts := [], laidByText := true, laidKinds := [.data, .data], laidTests := true, laidLooks := .later }
def HierOrderCardSaid : Prop := Claim7.holds Tryz.pinned (.plain (OpenSpec.ofChange hierOrderSpec)) hierOrderCard

/-- THE SECOND FORM's CARD OF 'isagogelaw05.HierMarks'. -/
def hierMarksUptoCard : Claim7 := { stood := { row := hierMarksUptoRow, standIns := [], harness := (true, "fc7e13a1472d748372989a362089e0668827b3f11d32c2fa4cc721737671485f"), looks := false }, kinds := [], alts := [], laidByText := true, laidKinds := [.data, .data], laidTests := true, laidLooks := .later }
def HierMarksUptoCardSaid : Prop := Claim7.holds Tryz.pinned (.plain (OpenSpec.upto hierMarksSpec)) hierMarksUptoCard

/-- THE SECOND FORM's CARD OF 'isagogelaw05.HierTrue'. -/
def hierTrueUptoCard : Claim7 := { stood := { row := hierTrueUptoRow, standIns := [], harness := (true, "fc7e13a1472d748372989a362089e0668827b3f11d32c2fa4cc721737671485f"), looks := false }, kinds := [], alts := [], laidByText := true, laidKinds := [.data, .data], laidTests := true, laidLooks := .later }
def HierTrueUptoCardSaid : Prop := Claim7.holds Tryz.pinned (.plain (OpenSpec.upto hierTrueSpec)) hierTrueUptoCard

/-- THE SECOND FORM's CARD OF 'isagogelaw05.HierOrder'. -/
def hierOrderUptoCard : Claim7 := { stood := { row := hierOrderUptoRow, standIns := [], harness := (true, "fc7e13a1472d748372989a362089e0668827b3f11d32c2fa4cc721737671485f"), looks := false }, kinds := [], alts := [], laidByText := true, laidKinds := [.data, .data], laidTests := true, laidLooks := .later }
def HierOrderUptoCardSaid : Prop := Claim7.holds Tryz.pinned (.plain (OpenSpec.upto hierOrderSpec)) hierOrderUptoCard
end Rows
end Go.Proofs.YtoafelppnagpbaaGreatDoor
