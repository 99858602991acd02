/-
  NARROWER THAN 'FOR EVERY INPUT', by the rows' own cells (each row's printed sentence says how): HierRoles: loops, laid · HierOwn: loops, laid · HierTypes: loops, laid.
  DERIVED. THE GIVEN ROWS OF THIS SEAT. 3 by the template 'for every input the law returns true; each argument reads behind the call as it read before'; 0 by the template 'total and deterministic' (their statements: YtoafelppnagpbaaDoorTotals.lean).
  GIVEN WITH THE SEED: the statements are not yours to turn. If you find one false, say at which input.
  Laid BY PROGRAM, IN A SANDBOX (cutbox-rows.mjs): the forced cells as the released guide's own fill.sh prints them over the translation e84a8b0e22301d33… (all of the seat's roots in one cut). By AI agents, Wed Nov 11 2026. No macro, syntax, notation, axiom, sorry.
-/
import Derived.Test.YtoafelppnagpbaaDoorChecked
import GoSem.Claim
import GoSem.ClaimJoined
import GoSem.ClaimMapViews
import Derived.JoinedTies
import Derived.KernelRfl
namespace Go.Proofs.YtoafelppnagpbaaDoor
/- THE CELL 'sum', in the pinned program and in every row, IS THE sha256 OF THE DUMP (.gsa) THAT YtoafelppnagpbaaDoorProg.lean LOADS. Nothing in Lean hashes anything: it is a label: what it is worth is what the hold of that sum in a sandbox is worth. -/
noncomputable def Tryd.pinned : Pinned := { name := "ytoafelppnagpbaadoor", sum := "e84a8b0e22301d330b63d603008f61fa8269a1cb3d0e1fb87c4155f387eb4759", checked := Tryd.checked }
namespace Rows
def none {H : Type} : Left H := { results := [], args := [] }

/- WHAT THE LISTED PACKAGE-LEVEL VARIABLES READ AS WHEN THE CALL BEGINS. Each datum BY PROGRAM (the guide's laid-datum.mjs) off the statement by which the dump's own 'gosem.cut.vars' lays the variable. In a bare row this is a premise. The card (YtoafelppnagpbaaDoorCards.lean) ties it to the program's text. -/
def laid_isagoge_concept_args {H : Type} : DataW H := .agg [.lit (.int .i64 0), .lit (.int .i64 0), .lit (.int .i64 0), .lit (.int .i64 1), .lit (.int .i64 2), .lit (.int .i64 2), .lit (.int .i64 1), .lit (.int .i64 1)]
def laid_isagoge_concept_duals {H : Type} : DataW H := .agg [.lit (.int .i64 0), .lit (.int .i64 2), .lit (.int .i64 1), .lit (.int .i64 0), .lit (.int .i64 5), .lit (.int .i64 4), .lit (.int .i64 7), .lit (.int .i64 6)]

/-- 'isagogelaw05.HierRoles': WHATEVER THE INPUT: true; the input reads as it did. -/
def hierRolesSpec : ChangeSpec := { name := "hierRoles", fn := fun _ => fun
  | [d1, d2, d3] => { results := [.lit (.bool true)], args := [d1, d2, d3] }
  | _ => none }
def hierRolesRow : OpenClaim := { program := "ytoafelppnagpbaadoor", sum := "e84a8b0e22301d330b63d603008f61fa8269a1cb3d0e1fb87c4155f387eb4759", func := "isagoge/isagogelaw05.HierRoles", spec := "hierRoles", inPlace := ["internal/bytealg.IndexByteString", "internal/bytealg.IndexString"], unfollowed := true, recurses := true, named := ["internal/bytealg.MaxLen", "isagoge/concept.args", "isagoge/concept.duals"], loops := true, apart := false, laid := [("isagoge/concept.args", laid_isagoge_concept_args), ("isagoge/concept.duals", laid_isagoge_concept_duals)] }
def HierRolesSaid : Prop := hierRolesRow.holds Tryd.pinned (OpenSpec.ofChange hierRolesSpec)

/-- ITS FALSE NEIGHBOUR: 'it returns false'. Refute it at one input. -/
def hierRolesWrong : ChangeSpec := { name := "hierRoles", fn := fun _ => fun
  | [d1, d2, d3] => { results := [.lit (.bool false)], args := [d1, d2, d3] }
  | _ => none }
def HierRolesWrongFalsely : Prop := hierRolesRow.holds Tryd.pinned (OpenSpec.ofChange hierRolesWrong)

/-- 'isagogelaw05.HierOwn': WHATEVER THE INPUT: true; the input reads as it did. -/
def hierOwnSpec : ChangeSpec := { name := "hierOwn", fn := fun _ => fun
  | [d1, d2, d3] => { results := [.lit (.bool true)], args := [d1, d2, d3] }
  | _ => none }
def hierOwnRow : OpenClaim := { program := "ytoafelppnagpbaadoor", sum := "e84a8b0e22301d330b63d603008f61fa8269a1cb3d0e1fb87c4155f387eb4759", func := "isagoge/isagogelaw05.HierOwn", spec := "hierOwn", inPlace := ["internal/bytealg.IndexByteString", "internal/bytealg.IndexString"], unfollowed := true, recurses := true, named := ["internal/bytealg.MaxLen", "isagoge/concept.args", "isagoge/concept.duals"], loops := true, apart := false, laid := [("isagoge/concept.args", laid_isagoge_concept_args), ("isagoge/concept.duals", laid_isagoge_concept_duals)] }
def HierOwnSaid : Prop := hierOwnRow.holds Tryd.pinned (OpenSpec.ofChange hierOwnSpec)

/-- ITS FALSE NEIGHBOUR: 'it returns false'. Refute it at one input. -/
def hierOwnWrong : ChangeSpec := { name := "hierOwn", fn := fun _ => fun
  | [d1, d2, d3] => { results := [.lit (.bool false)], args := [d1, d2, d3] }
  | _ => none }
def HierOwnWrongFalsely : Prop := hierOwnRow.holds Tryd.pinned (OpenSpec.ofChange hierOwnWrong)

/-- 'isagogelaw05.HierTypes': WHATEVER THE INPUT: true; the input reads as it did. -/
def hierTypesSpec : ChangeSpec := { name := "hierTypes", fn := fun _ => fun
  | [d1, d2, d3, d4] => { results := [.lit (.bool true)], args := [d1, d2, d3, d4] }
  | _ => none }
def hierTypesRow : OpenClaim := { program := "ytoafelppnagpbaadoor", sum := "e84a8b0e22301d330b63d603008f61fa8269a1cb3d0e1fb87c4155f387eb4759", func := "isagoge/isagogelaw05.HierTypes", spec := "hierTypes", inPlace := ["internal/bytealg.IndexByteString", "internal/bytealg.IndexString"], unfollowed := true, recurses := true, named := ["internal/bytealg.MaxLen", "isagoge/concept.args", "isagoge/concept.duals"], loops := true, apart := false, laid := [("isagoge/concept.args", laid_isagoge_concept_args), ("isagoge/concept.duals", laid_isagoge_concept_duals)] }
def HierTypesSaid : Prop := hierTypesRow.holds Tryd.pinned (OpenSpec.ofChange hierTypesSpec)

/-- ITS FALSE NEIGHBOUR: 'it returns false'. Refute it at one input. -/
def hierTypesWrong : ChangeSpec := { name := "hierTypes", fn := fun _ => fun
  | [d1, d2, d3, d4] => { results := [.lit (.bool false)], args := [d1, d2, d3, d4] }
  | _ => none }
def HierTypesWrongFalsely : Prop := hierTypesRow.holds Tryd.pinned (OpenSpec.ofChange hierTypesWrong)

/- THE SECOND FORM. 'bulk': how many values and letters a reading holds, each counted each time it is reached (what is shared counts as often as it is met; a slice's spare places count too). A statement '..UptoSaid' is the law's where the arguments, and the package variables that the reading takes, are together of bulk at most 1048576: NARROWER than '..Said'. Prove '..Said' where nothing that the law and all that it calls make is longer than what came in: it says more and counts as full. Else prove '..UptoSaid'. A law counts once. -/
mutual
def uptoBulk {H : Type} : DataW H → Nat
  | .lit (.string bytes) => bytes.length + 1
  | .lit _ => 1
  | .nil => 1
  | .ptr d => uptoBulk d + 1
  | .slice elems spare => uptoBulkAll elems + uptoBulkAll spare + 1
  | .agg parts => uptoBulkAll parts + 1
  | .iface _ d => uptoBulk d + 1
  | .map entries => uptoBulkEntries entries + 1
  | .held _ => 1
def uptoBulkAll {H : Type} : List (DataW H) → Nat
  | [] => 0
  | d :: r => uptoBulk d + uptoBulkAll r
def uptoBulkEntries {H : Type} : List (Lit × DataW H) → Nat
  | [] => 0
  | x :: r => uptoBulkEntry x + uptoBulkEntries r
def uptoBulkEntry {H : Type} : Lit × DataW H → Nat
  | (.string bytes, d) => bytes.length + uptoBulk d + 1
  | (_, d) => uptoBulk d + 1
 end
def uptoSmall : (H : Type) → List (DataW H) → Bool := fun _ ds => decide (uptoBulkAll ds ≤ 1048576)
def OpenSpec.upto (s : _root_.Go.ChangeSpec) : _root_.Go.OpenSpec := { _root_.Go.OpenSpec.ofChange s with cond := some uptoSmall }

/-- 'isagogelaw05.HierRoles', WHERE WHAT IT READS IS OF BULK AT MOST 1048576: true; the input reads as it did. -/
def hierRolesUptoRow : OpenClaim := { program := "ytoafelppnagpbaadoor", sum := "e84a8b0e22301d330b63d603008f61fa8269a1cb3d0e1fb87c4155f387eb4759", func := "isagoge/isagogelaw05.HierRoles", spec := "hierRoles", inPlace := ["internal/bytealg.IndexByteString", "internal/bytealg.IndexString"], unfollowed := true, recurses := true, named := ["internal/bytealg.MaxLen", "isagoge/concept.args", "isagoge/concept.duals"], loops := true, apart := false, laid := [("isagoge/concept.args", laid_isagoge_concept_args), ("isagoge/concept.duals", laid_isagoge_concept_duals)], narrowed := true }
def HierRolesUptoSaid : Prop := hierRolesUptoRow.holds Tryd.pinned (OpenSpec.upto hierRolesSpec)

/-- 'isagogelaw05.HierOwn', WHERE WHAT IT READS IS OF BULK AT MOST 1048576: true; the input reads as it did. -/
def hierOwnUptoRow : OpenClaim := { program := "ytoafelppnagpbaadoor", sum := "e84a8b0e22301d330b63d603008f61fa8269a1cb3d0e1fb87c4155f387eb4759", func := "isagoge/isagogelaw05.HierOwn", spec := "hierOwn", inPlace := ["internal/bytealg.IndexByteString", "internal/bytealg.IndexString"], unfollowed := true, recurses := true, named := ["internal/bytealg.MaxLen", "isagoge/concept.args", "isagoge/concept.duals"], loops := true, apart := false, laid := [("isagoge/concept.args", laid_isagoge_concept_args), ("isagoge/concept.duals", laid_isagoge_concept_duals)], narrowed := true }
def HierOwnUptoSaid : Prop := hierOwnUptoRow.holds Tryd.pinned (OpenSpec.upto hierOwnSpec)

/-- 'isagogelaw05.HierTypes', WHERE WHAT IT READS IS OF BULK AT MOST 1048576: true; the input reads as it did. -/
def hierTypesUptoRow : OpenClaim := { program := "ytoafelppnagpbaadoor", sum := "e84a8b0e22301d330b63d603008f61fa8269a1cb3d0e1fb87c4155f387eb4759", func := "isagoge/isagogelaw05.HierTypes", spec := "hierTypes", inPlace := ["internal/bytealg.IndexByteString", "internal/bytealg.IndexString"], unfollowed := true, recurses := true, named := ["internal/bytealg.MaxLen", "isagoge/concept.args", "isagoge/concept.duals"], loops := true, apart := false, laid := [("isagoge/concept.args", laid_isagoge_concept_args), ("isagoge/concept.duals", laid_isagoge_concept_duals)], narrowed := true }
def HierTypesUptoSaid : Prop := hierTypesUptoRow.holds Tryd.pinned (OpenSpec.upto hierTypesSpec)

end Rows
end Go.Proofs.YtoafelppnagpbaaDoor
