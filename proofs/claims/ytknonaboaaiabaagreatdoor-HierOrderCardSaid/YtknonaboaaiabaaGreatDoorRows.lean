/-
  NARROWER THAN 'FOR EVERY INPUT', by the rows' own cells (each row's printed sentence says how): ChaseBuilds: loops, laid · ChaseModels: loops, laid · HierOrder: loops, laid · ChaseAnswers: loops, laid · ChaseOwn: loops, laid.
  DERIVED. THE GIVEN ROWS OF THIS SEAT. 5 by the template 'for every input the law returns true; each argument reads behind the call as it read before'; 0 by the template 'total and deterministic' (their statements: YtknonaboaaiabaaGreatDoorTotals.lean).
  GIVEN WITH THE SEED: the statements are not yours to turn. If you find one false, say at which input.
  Laid BY PROGRAM, IN A SANDBOX (cutbox-rows.mjs): the forced cells as the released guide's own fill.sh prints them over the translation 44c8c374cc63afa9… (all of the seat's roots in one cut). By AI agents, Wed Nov 11 2026. No macro, syntax, notation, axiom, sorry.
-/
import Derived.Test.YtknonaboaaiabaaGreatDoorChecked
import GoSem.Claim
import GoSem.ClaimJoined
import GoSem.ClaimMapViews
import Derived.JoinedTies
import Derived.KernelRfl
namespace Go.Proofs.YtknonaboaaiabaaGreatDoor
/- THE CELL 'sum', in the pinned program and in every row, IS THE sha256 OF THE DUMP (.gsa) THAT YtknonaboaaiabaaGreatDoorProg.lean LOADS. Nothing in Lean hashes anything: it is a label: what it is worth is what the hold of that sum in a sandbox is worth. -/
noncomputable def Tryz.pinned : Pinned := { name := "ytknonaboaaiabaagreatdoor", sum := "44c8c374cc63afa96cbf2ce1c703c5d2edbbf1028f16939b809703511b324b71", checked := Tryz.checked }
namespace Rows
def none {H : Type} : Left H := { results := [], args := [] }

/- WHAT THE LISTED PACKAGE-LEVEL VARIABLES READ AS WHEN THE CALL BEGINS. Each datum BY PROGRAM (the guide's laid-datum.mjs) off the statement by which the dump's own 'gosem.cut.vars' lays the variable. In a bare row this is a premise. The card (YtknonaboaaiabaaGreatDoorCards.lean) ties it to the program's text. -/
def laid_isagoge_concept_args {H : Type} : DataW H := .agg [.lit (.int .i64 0), .lit (.int .i64 0), .lit (.int .i64 0), .lit (.int .i64 1), .lit (.int .i64 2), .lit (.int .i64 2), .lit (.int .i64 1), .lit (.int .i64 1)]
def laid_isagoge_concept_duals {H : Type} : DataW H := .agg [.lit (.int .i64 0), .lit (.int .i64 2), .lit (.int .i64 1), .lit (.int .i64 0), .lit (.int .i64 5), .lit (.int .i64 4), .lit (.int .i64 7), .lit (.int .i64 6)]

/-- 'isagogelaw15.ChaseBuilds': WHATEVER THE INPUT: true; the input reads as it did. -/
def chaseBuildsSpec : ChangeSpec := { name := "chaseBuilds", fn := fun _ => fun
  | [d1, d2] => { results := [.lit (.bool true)], args := [d1, d2] }
  | _ => none }
def chaseBuildsRow : OpenClaim := { program := "ytknonaboaaiabaagreatdoor", sum := "44c8c374cc63afa96cbf2ce1c703c5d2edbbf1028f16939b809703511b324b71", func := "isagoge/isagogelaw15.ChaseBuilds", spec := "chaseBuilds", inPlace := ["internal/bytealg.IndexByteString", "internal/bytealg.IndexString"], unfollowed := true, recurses := true, named := ["internal/bytealg.MaxLen", "isagoge/concept.args"], loops := true, plainKeys := false, apart := false, laid := [("isagoge/concept.args", laid_isagoge_concept_args)] }
def ChaseBuildsSaid : Prop := chaseBuildsRow.holds Tryz.pinned (OpenSpec.ofChange chaseBuildsSpec)

/-- ITS FALSE NEIGHBOUR: 'it returns false'. Refute it at one input. -/
def chaseBuildsWrong : ChangeSpec := { name := "chaseBuilds", fn := fun _ => fun
  | [d1, d2] => { results := [.lit (.bool false)], args := [d1, d2] }
  | _ => none }
def ChaseBuildsWrongFalsely : Prop := chaseBuildsRow.holds Tryz.pinned (OpenSpec.ofChange chaseBuildsWrong)

/-- 'isagogelaw15.ChaseModels': WHATEVER THE INPUT: true; the input reads as it did. -/
def chaseModelsSpec : ChangeSpec := { name := "chaseModels", fn := fun _ => fun
  | [d1, d2] => { results := [.lit (.bool true)], args := [d1, d2] }
  | _ => none }
def chaseModelsRow : OpenClaim := { program := "ytknonaboaaiabaagreatdoor", sum := "44c8c374cc63afa96cbf2ce1c703c5d2edbbf1028f16939b809703511b324b71", func := "isagoge/isagogelaw15.ChaseModels", spec := "chaseModels", inPlace := ["internal/bytealg.IndexByteString", "internal/bytealg.IndexString"], unfollowed := true, recurses := true, named := ["internal/bytealg.MaxLen", "isagoge/concept.args"], loops := true, plainKeys := false, apart := false, laid := [("isagoge/concept.args", laid_isagoge_concept_args)] }
def ChaseModelsSaid : Prop := chaseModelsRow.holds Tryz.pinned (OpenSpec.ofChange chaseModelsSpec)

/-- ITS FALSE NEIGHBOUR: 'it returns false'. Refute it at one input. -/
def chaseModelsWrong : ChangeSpec := { name := "chaseModels", fn := fun _ => fun
  | [d1, d2] => { results := [.lit (.bool false)], args := [d1, d2] }
  | _ => none }
def ChaseModelsWrongFalsely : Prop := chaseModelsRow.holds Tryz.pinned (OpenSpec.ofChange chaseModelsWrong)

/-- 'isagogelaw05.HierOrder': WHATEVER THE INPUT: true; the input reads as it did. -/
def hierOrderSpec : ChangeSpec := { name := "hierOrder", fn := fun _ => fun
  | [d1, d2] => { results := [.lit (.bool true)], args := [d1, d2] }
  | _ => none }
def hierOrderRow : OpenClaim := { program := "ytknonaboaaiabaagreatdoor", sum := "44c8c374cc63afa96cbf2ce1c703c5d2edbbf1028f16939b809703511b324b71", func := "isagoge/isagogelaw05.HierOrder", spec := "hierOrder", inPlace := ["internal/bytealg.IndexByteString", "internal/bytealg.IndexString"], unfollowed := true, recurses := true, named := ["internal/bytealg.MaxLen", "isagoge/concept.args", "isagoge/concept.duals"], loops := true, plainKeys := false, apart := false, laid := [("isagoge/concept.args", laid_isagoge_concept_args), ("isagoge/concept.duals", laid_isagoge_concept_duals)] }
def HierOrderSaid : Prop := hierOrderRow.holds Tryz.pinned (OpenSpec.ofChange hierOrderSpec)

/-- ITS FALSE NEIGHBOUR: 'it returns false'. Refute it at one input. -/
def hierOrderWrong : ChangeSpec := { name := "hierOrder", fn := fun _ => fun
  | [d1, d2] => { results := [.lit (.bool false)], args := [d1, d2] }
  | _ => none }
def HierOrderWrongFalsely : Prop := hierOrderRow.holds Tryz.pinned (OpenSpec.ofChange hierOrderWrong)

/-- 'isagogelaw15.ChaseAnswers': WHATEVER THE INPUT: true; the input reads as it did. -/
def chaseAnswersSpec : ChangeSpec := { name := "chaseAnswers", fn := fun _ => fun
  | [d1, d2, d3] => { results := [.lit (.bool true)], args := [d1, d2, d3] }
  | _ => none }
def chaseAnswersRow : OpenClaim := { program := "ytknonaboaaiabaagreatdoor", sum := "44c8c374cc63afa96cbf2ce1c703c5d2edbbf1028f16939b809703511b324b71", func := "isagoge/isagogelaw15.ChaseAnswers", spec := "chaseAnswers", inPlace := ["internal/bytealg.IndexByteString", "internal/bytealg.IndexString"], unfollowed := true, recurses := true, named := ["internal/bytealg.MaxLen", "isagoge/concept.args"], loops := true, plainKeys := false, apart := false, laid := [("isagoge/concept.args", laid_isagoge_concept_args)] }
def ChaseAnswersSaid : Prop := chaseAnswersRow.holds Tryz.pinned (OpenSpec.ofChange chaseAnswersSpec)

/-- ITS FALSE NEIGHBOUR: 'it returns false'. Refute it at one input. -/
def chaseAnswersWrong : ChangeSpec := { name := "chaseAnswers", fn := fun _ => fun
  | [d1, d2, d3] => { results := [.lit (.bool false)], args := [d1, d2, d3] }
  | _ => none }
def ChaseAnswersWrongFalsely : Prop := chaseAnswersRow.holds Tryz.pinned (OpenSpec.ofChange chaseAnswersWrong)

/-- 'isagogelaw15.ChaseOwn': WHATEVER THE INPUT: true; the input reads as it did. -/
def chaseOwnSpec : ChangeSpec := { name := "chaseOwn", fn := fun _ => fun
  | [d1, d2, d3] => { results := [.lit (.bool true)], args := [d1, d2, d3] }
  | _ => none }
def chaseOwnRow : OpenClaim := { program := "ytknonaboaaiabaagreatdoor", sum := "44c8c374cc63afa96cbf2ce1c703c5d2edbbf1028f16939b809703511b324b71", func := "isagoge/isagogelaw15.ChaseOwn", spec := "chaseOwn", inPlace := ["internal/bytealg.IndexByteString", "internal/bytealg.IndexString"], unfollowed := true, recurses := true, named := ["internal/bytealg.MaxLen", "isagoge/concept.args"], loops := true, plainKeys := false, apart := false, laid := [("isagoge/concept.args", laid_isagoge_concept_args)] }
def ChaseOwnSaid : Prop := chaseOwnRow.holds Tryz.pinned (OpenSpec.ofChange chaseOwnSpec)

/-- ITS FALSE NEIGHBOUR: 'it returns false'. Refute it at one input. -/
def chaseOwnWrong : ChangeSpec := { name := "chaseOwn", fn := fun _ => fun
  | [d1, d2, d3] => { results := [.lit (.bool false)], args := [d1, d2, d3] }
  | _ => none }
def ChaseOwnWrongFalsely : Prop := chaseOwnRow.holds Tryz.pinned (OpenSpec.ofChange chaseOwnWrong)

/- THE SECOND FORM. 'bulk': how many values and letters a reading holds, each counted each time it is reached (what is shared counts as often as it is met; a slice's spare places count too). A statement '..UptoSaid' is the law's where the arguments, and the package variables that the reading takes, are together of bulk at most 1048576: NARROWER than '..Said'. Prove '..Said' where nothing that the law and all that it calls make is longer than what came in: it says more and counts as full. Else prove '..UptoSaid'. A law counts once. -/
mutual
def uptoBulk {H : Type} : DataW H → Nat
  | .lit (.string bytes) => bytes.length + 1
  | .lit _ => 1
  | .nil => 1
  | .ptr d => uptoBulk d + 1
  | .slice elems spare => uptoBulkAll elems + uptoBulkAll spare + 1
  | .agg parts => uptoBulkAll parts + 1
  | .iface _ d => uptoBulk d + 1
  | .map entries => uptoBulkEntries entries + 1
  | .held _ => 1
def uptoBulkAll {H : Type} : List (DataW H) → Nat
  | [] => 0
  | d :: r => uptoBulk d + uptoBulkAll r
def uptoBulkEntries {H : Type} : List (Lit × DataW H) → Nat
  | [] => 0
  | x :: r => uptoBulkEntry x + uptoBulkEntries r
def uptoBulkEntry {H : Type} : Lit × DataW H → Nat
  | (.string bytes, d) => bytes.length + uptoBulk d + 1
  | (_, d) => uptoBulk d + 1
 end
def uptoSmall : (H : Type) → List (DataW H) → Bool := fun _ ds => decide (uptoBulkAll ds ≤ 1048576)
def OpenSpec.upto (s : _root_.Go.ChangeSpec) : _root_.Go.OpenSpec := { _root_.Go.OpenSpec.ofChange s with cond := some uptoSmall }

/-- 'isagogelaw15.ChaseBuilds', WHERE WHAT IT READS IS OF BULK AT MOST 1048576: true; the input reads as it did. -/
def chaseBuildsUptoRow : OpenClaim := { program := "ytknonaboaaiabaagreatdoor", sum := "44c8c374cc63afa96cbf2ce1c703c5d2edbbf1028f16939b809703511b324b71", func := "isagoge/isagogelaw15.ChaseBuilds", spec := "chaseBuilds", inPlace := ["internal/bytealg.IndexByteString", "internal/bytealg.IndexString"], unfollowed := true, recurses := true, named := ["internal/bytealg.MaxLen", "isagoge/concept.args"], loops := true, plainKeys := false, apart := false, laid := [("isagoge/concept.args", laid_isagoge_concept_args)], narrowed := true }
def ChaseBuildsUptoSaid : Prop := chaseBuildsUptoRow.holds Tryz.pinned (OpenSpec.upto chaseBuildsSpec)

/-- 'isagogelaw15.ChaseModels', WHERE WHAT IT READS IS OF BULK AT MOST 1048576: true; the input reads as it did. -/
def chaseModelsUptoRow : OpenClaim := { program := "ytknonaboaaiabaagreatdoor", sum := "44c8c374cc63afa96cbf2ce1c703c5d2edbbf1028f16939b809703511b324b71", func := "isagoge/isagogelaw15.ChaseModels", spec := "chaseModels", inPlace := ["internal/bytealg.IndexByteString", "internal/bytealg.IndexString"], unfollowed := true, recurses := true, named := ["internal/bytealg.MaxLen", "isagoge/concept.args"], loops := true, plainKeys := false, apart := false, laid := [("isagoge/concept.args", laid_isagoge_concept_args)], narrowed := true }
def ChaseModelsUptoSaid : Prop := chaseModelsUptoRow.holds Tryz.pinned (OpenSpec.upto chaseModelsSpec)

/-- 'isagogelaw05.HierOrder', WHERE WHAT IT READS IS OF BULK AT MOST 1048576: true; the input reads as it did. -/
def hierOrderUptoRow : OpenClaim := { program := "ytknonaboaaiabaagreatdoor", sum := "44c8c374cc63afa96cbf2ce1c703c5d2edbbf1028f16939b809703511b324b71", func := "isagoge/isagogelaw05.HierOrder", spec := "hierOrder", inPlace := ["internal/bytealg.IndexByteString", "internal/bytealg.IndexString"], unfollowed := true, recurses := true, named := ["internal/bytealg.MaxLen", "isagoge/concept.args", "isagoge/concept.duals"], loops := true, plainKeys := false, apart := false, laid := [("isagoge/concept.args", laid_isagoge_concept_args), ("isagoge/concept.duals", laid_isagoge_concept_duals)], narrowed := true }
def HierOrderUptoSaid : Prop := hierOrderUptoRow.holds Tryz.pinned (OpenSpec.upto hierOrderSpec)

/-- 'isagogelaw15.ChaseAnswers', WHERE WHAT IT READS IS OF BULK AT MOST 1048576: true; the input reads as it did. -/
def chaseAnswersUptoRow : OpenClaim := { program := "ytknonaboaaiabaagreatdoor", sum := "44c8c374cc63afa96cbf2ce1c703c5d2edbbf1028f16939b809703511b324b71", func := "isagoge/isagogelaw15.ChaseAnswers", spec := "chaseAnswers", inPlace := ["internal/bytealg.IndexByteString", "internal/bytealg.IndexString"], unfollowed := true, recurses := true, named := ["internal/bytealg.MaxLen", "isagoge/concept.args"], loops := true, plainKeys := false, apart := false, laid := [("isagoge/concept.args", laid_isagoge_concept_args)], narrowed := true }
def ChaseAnswersUptoSaid : Prop := chaseAnswersUptoRow.holds Tryz.pinned (OpenSpec.upto chaseAnswersSpec)

/-- 'isagogelaw15.ChaseOwn', WHERE WHAT IT READS IS OF BULK AT MOST 1048576: true; the input reads as it did. -/
def chaseOwnUptoRow : OpenClaim := { program := "ytknonaboaaiabaagreatdoor", sum := "44c8c374cc63afa96cbf2ce1c703c5d2edbbf1028f16939b809703511b324b71", func := "isagoge/isagogelaw15.ChaseOwn", spec := "chaseOwn", inPlace := ["internal/bytealg.IndexByteString", "internal/bytealg.IndexString"], unfollowed := true, recurses := true, named := ["internal/bytealg.MaxLen", "isagoge/concept.args"], loops := true, plainKeys := false, apart := false, laid := [("isagoge/concept.args", laid_isagoge_concept_args)], narrowed := true }
def ChaseOwnUptoSaid : Prop := chaseOwnUptoRow.holds Tryz.pinned (OpenSpec.upto chaseOwnSpec)

end Rows
end Go.Proofs.YtknonaboaaiabaaGreatDoor
