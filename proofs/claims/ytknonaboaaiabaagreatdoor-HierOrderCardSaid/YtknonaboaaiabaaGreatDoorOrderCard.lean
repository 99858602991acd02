/-
  HierOrder (isagogelaw05): returns true for every knowledge base and interpretation, and leaves its arguments as they were: the order of roles is reflexive and transitive and agrees with inverses, and where the interpretation satisfies the role inclusions each pair of a role is a pair of every role above it.
  Conditions: those of the given card alone (the arguments can be read as data; the two tables of package concept hold what the program's text lays, which the card ties).
-/
import Derived.Test.YtknonaboaaiabaaGreatDoorCardKit
import Derived.Test.YtknonaboaaiabaaGreatDoorOrderW
import Derived.Test.YtknonaboaaiabaaGreatDoorItp
namespace Go.Proofs.YtknonaboaaiabaaGreatDoor
open Go.RowKit Go.WideShapes Go.ChangeShapes Go.ChangeAt
set_option linter.unusedVariables false
set_option linter.unusedSimpArgs false
namespace lawHierOrder
set_option maxRecDepth 100000 in
theorem contract (H : Type) (enc : TypeId × Value → H) (W : World) (base : Nat) (args : Array Value) (ds gs : List (DataW H)) (before : List MemPlace)
    (hval : ∀ (j : Nat) t v, Tryz.f5.params[j]? = some t → args[j]? = some v → Value.okWide Tryz.prog W .any base t v)
    (hW : DataW.Whole enc Tryz.prog Tryz.f5.params.toList Rows.hierOrderSpec.vars false W args.toList ds gs before)
    (hz : (DataW.weightsEach Tryz.prog (Tryz.f5.params.toList ++ Rows.hierOrderSpec.plain.varTypes Tryz.prog) (ds ++ gs)).all (· ≤ reachBytes) = true) (hL : laidMetH Tryz.prog Rows.hierOrderRow.laid W) (hS : W.ShapedOpen Tryz.prog) :
    Calls Tryz.prog 5 args W fun e W' => ∃ v, e = .returned v ∧ Rows.hierOrderSpec.post enc Tryz.prog Tryz.f5 false true false false W args v W' := by
  have hW' := hW
  obtain ⟨p, q, hA0, hV, rfl, hfz, hnd⟩ := hW
  have hA : DataW.TrodAll enc Tryz.prog W 0 (fun _ => true) true Tryz.f5.params.toList args.toList ds p := hA0
  rw [Tryz.params5] at hA hval hz
  obtain ⟨v0, vs0, d0, ds0, p0, q0, hargs, rfl, rfl, h0, r0⟩ := trodAll_cons hA
  obtain ⟨v1, vs1, d1, ds1, p1, q1, rfl, rfl, rfl, h1, r1⟩ := trodAll_cons r0
  obtain ⟨rfl, rfl, rfl⟩ := trodAll_nil r1
  obtain rfl : args = #[v0, v1] := by cases args; simp_all
  obtain ⟨rfl, rfl⟩ := trodVars_none hV
  obtain ⟨b0, ad0, rfl, hb0⟩ := argBase (hval 0 30 v0 rfl rfl) h0
  obtain ⟨t1, tp1, rfl, ht1, hlt1⟩ := argItpW (hval 1 37 v1 rfl rfl) h1 (lightOf (j := 1) hz rfl rfl)
  obtain ⟨m, hm⟩ := maxLen_of hS
  refine (hierOrder_walk b0 ad0 t1 tp1 W m hm (argsTab_of hL) (dualsTab_of hL) hb0 ht1 ⟨fun l hl => by have := hlt1.1 l hl; unfold reachBytes at this; omega, fun l hl => by have := hlt1.2.1 l hl; unfold reachBytes at this; omega⟩).mono fun e W' ⟨he, hk⟩ => ?_
  refine ⟨.bool true, he, law_post rfl (by kernel_rfl) ?_ hW' rfl hk⟩
  rw [Tryz.params5]
  intro t ht
  simp only [List.mem_cons, List.not_mem_nil, or_false] at ht
  rcases ht with rfl | rfl
  · exact readBase
  · exact readItp
def zeroArgs : Array Value := #[.agg #[.slice none 0 0, .slice none 0 0, .slice none 0 0, .slice none 0 0, .slice none 0 0, .slice none 0 0, .slice none 0 0], .agg #[.int .i64 0, .slice none 0 0, .slice none 0 0, .slice none 0 0]]
theorem laid_met (os : Os) : laidMet Tryz.prog Rows.hierOrderRow.laid ((laidWorld os).forCall (fun _ _ => 0) ⟨#[], zeroArgs, []⟩).memory :=
  laidMet_of_run' 8 (by kernel_rfl) (by kernel_rfl)
theorem reads (os : Os) {H : Type} (enc : TypeId × Value → H) : ∃ places, DataW.whole enc Tryz.prog ((laidWorld os).forCall (fun _ _ => 0) ⟨#[], zeroArgs, []⟩).memory Tryz.f5.params.toList Rows.hierOrderSpec.vars false zeroArgs.toList 8 =
    some ([.agg [.agg [.nil, .nil, .nil], .nil, .nil, .nil, .nil], .agg [.lit (.int .i64 0), .nil, .nil, .nil]], [], places) :=
  ⟨[], by kernel_rfl⟩
set_option maxRecDepth 100000 in
theorem lifted (os : Os) (started : os.Started) (H : Type) (enc : TypeId × Value → H) (F : Stop.Interp) :
    ReturnsInHanded {} Tryz.checked os 5 .any ((OpenSpec.ofChange Rows.hierOrderSpec).preRow enc Tryz.prog Tryz.f5 Rows.hierOrderRow.domain false Rows.hierOrderRow.laid) (((OpenSpec.ofChange Rows.hierOrderSpec).at F).post enc Tryz.prog Tryz.f5 false true false false) := by
  obtain ⟨places, hx⟩ := reads os enc
  refine returnsInHanded_of_row (C := Tryz.checked) (s := OpenSpec.ofChange Rows.hierOrderSpec) own started (by kernel_rfl) Tryz.func5
    (witness_row_at (enc := enc) (C := Tryz.checked) false (laidWorld os) zeroArgs rfl (by kernel_rfl) (by kernel_rfl) (by kernel_rfl)
      (OpenSpec.preRow_of_cond 8 hx (by kernel_rfl) (fun k hk => by cases hk) (by kernel_rfl) (laid_met os))) ?_
  intro W base args ds gs before hval hW _ _ hz hL hS _
  exact contract H enc W base args ds gs before hval hW hz hL hS
set_option maxRecDepth 100000 in
theorem inPlaceIs : Tryz.pinned.checked.prog.inPlace 5 = Rows.hierOrderRow.inPlace := by kernel_rfl
set_option maxRecDepth 100000 in
theorem unfollowedIs : Tryz.pinned.checked.prog.unfollowed 5 = Rows.hierOrderRow.unfollowed := by kernel_rfl
set_option maxRecDepth 100000 in
theorem recursesIs : Tryz.pinned.checked.prog.recurses 5 = Rows.hierOrderRow.recurses := by kernel_rfl
set_option maxRecDepth 100000 in
theorem namedIs : Tryz.pinned.checked.prog.varsNamed 5 = Rows.hierOrderRow.named := by kernel_rfl
set_option maxRecDepth 100000 in
theorem closed : joinedFacts Tryz.pinned.checked.prog 5 Tryz.f5 (OpenSpec.ofChange Rows.hierOrderSpec).bare Rows.hierOrderRow = true := by
  unfold joinedFacts
  rw [inPlaceIs, unfollowedIs, recursesIs, namedIs]
  kernel_rfl
theorem said : Rows.HierOrderSaid :=
  OpenClaim.holds_of_cond 5 Tryz.f5 rfl rfl rfl rfl rfl rfl rfl ⟨rfl, rfl, rfl, rfl, rfl⟩ rfl rfl rfl rfl rfl (by kernel_rfl) Tryz.func5 closed
    (of_decide_eq_true (by kernel_rfl)) (by unfold Func.isWrapper; first | (rw [if_pos (by decide +kernel)]; kernel_rfl) | (rw [if_neg (by decide +kernel)]; exact ⟨rfl, rfl⟩))
    (fun os started H enc _ F => by rw [OpenClaim.pre_eq_preRow]; exact lifted os started H enc F)
theorem plain (f : FuncId) (fn : Func) (hf : Tryz.pinned.checked.prog.funcNamed "isagoge/isagogelaw05.HierOrder" = some f) (hfn : Tryz.pinned.checked.prog.funcs[f]? = some fn) :
    false = Tryz.pinned.checked.prog.looks [] ∧ ∀ (j : Nat) t, fn.params[j]? = some t → Tryz.pinned.checked.prog.wantsStandIn t = false := by
  obtain rfl : f = 5 := Option.some.inj ((show Tryz.prog.funcNamed "isagoge/isagogelaw05.HierOrder" = some 5 by kernel_rfl).symm.trans hf) |>.symm
  obtain rfl : fn = Tryz.f5 := (Option.some.inj (Tryz.func5.symm.trans hfn)).symm
  refine ⟨by kernel_rfl, fun j t ht => ?_⟩
  rw [Tryz.params5] at ht
  have hm := Array.mem_of_getElem? ht
  simp only [List.mem_toArray, List.mem_cons, List.not_mem_nil, or_false] at hm
  rcases hm with rfl | rfl
  · exact (show Tryz.prog.wantsStandIn 30 = false by kernel_rfl)
  · exact (show Tryz.prog.wantsStandIn 37 = false by kernel_rfl)
end lawHierOrder
theorem hierOrder_card : Rows.HierOrderCardSaid :=
  Claim7.holds_tied_plain_at .later [] _ _ _ _ lawHierOrder.said (fun _ h => by cases h) (by kernel_rfl) (fun _ h => by cases h) hierOrder_row_tie rfl ⟨rfl, rfl⟩ (by kernel_rfl) rfl lawHierOrder.plain (by kernel_rfl)
#print axioms hierOrder_card
end Go.Proofs.YtknonaboaaiabaaGreatDoor
