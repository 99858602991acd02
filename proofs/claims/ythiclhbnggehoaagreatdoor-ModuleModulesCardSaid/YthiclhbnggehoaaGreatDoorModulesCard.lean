/-
  ModuleModules (isagogelaw19): returns true for every knowledge base, any signature and every number of a kind, and leaves its arguments as they were: Module returns exactly the module of a kind for a signature, or the error, the module of a module is itself, and the Star module is contained in the Bot module.
  Conditions: those of the given card alone (the arguments can be read as data; the two tables of package concept hold what the program's text lays, which the card ties).
-/
import Derived.Test.YthiclhbnggehoaaGreatDoorCardKit1
import Derived.Test.YthiclhbnggehoaaGreatDoorArgSig
import Derived.Test.YthiclhbnggehoaaGreatDoorModulesW
namespace Go.Proofs.YthiclhbnggehoaaGreatDoor
open Go.RowKit Go.WideShapes Go.ChangeShapes Go.ChangeAt
set_option linter.unusedVariables false
set_option linter.unusedSimpArgs false
namespace lawModuleModules
set_option maxRecDepth 100000 in
theorem contract (H : Type) (enc : TypeId × Value → H) (W : World) (base : Nat) (args : Array Value) (ds gs : List (DataW H)) (before : List MemPlace)
    (hval : ∀ (j : Nat) t v, Tryz.f3.params[j]? = some t → args[j]? = some v → Value.okWide Tryz.prog W .any base t v)
    (hW : DataW.Whole enc Tryz.prog Tryz.f3.params.toList Rows.moduleModulesSpec.vars false W args.toList ds gs before)
    (hz : (DataW.weightsEach Tryz.prog (Tryz.f3.params.toList ++ Rows.moduleModulesSpec.plain.varTypes Tryz.prog) (ds ++ gs)).all (· ≤ reachBytes) = true) (hL : laidMetH Tryz.prog Rows.moduleModulesRow.laid W) (hS : W.ShapedOpen Tryz.prog) :
    Calls Tryz.prog 3 args W fun e W' => ∃ v, e = .returned v ∧ Rows.moduleModulesSpec.post enc Tryz.prog Tryz.f3 false true false false W args v W' := by
  have hW' := hW
  obtain ⟨p, q, hA0, hV, rfl, hfz, hnd⟩ := hW
  have hA : DataW.TrodAll enc Tryz.prog W 0 (fun _ => true) true Tryz.f3.params.toList args.toList ds p := hA0
  rw [Tryz.params3] at hA hval hz
  obtain ⟨v0, vs0, d0, ds0, p0, q0, hargs, rfl, rfl, h0, r0⟩ := trodAll_cons hA
  obtain ⟨v1, vs1, d1, ds1, p1, q1, rfl, rfl, rfl, h1, r1⟩ := trodAll_cons r0
  obtain ⟨v2, vs2, d2, ds2, p2, q2, rfl, rfl, rfl, h2, r2⟩ := trodAll_cons r1
  obtain ⟨rfl, rfl, rfl⟩ := trodAll_nil r2
  obtain rfl : args = #[v0, v1, v2] := by cases args; simp_all
  obtain ⟨rfl, rfl⟩ := trodVars_none hV
  obtain ⟨b0, ad0, rfl, hb0⟩ := argBase (hval 0 30 v0 rfl rfl) h0
  obtain ⟨C1, R1, AC1, AR1, cC1, cR1, rfl, hs1⟩ := argSig (hval 1 33 v1 rfl rfl) h1
  obtain ⟨i2, rfl, rfl, rfl, hi2⟩ := open_int Tryz.underlying3 (hval 2 3 v2 rfl rfl) h2
  obtain ⟨m, hm⟩ := maxLen_of hS
  refine (modules_walk b0 ad0 C1 R1 i2 AC1 AR1 cC1 cR1 m W hm (argsTab_of hL) hb0.limT hs1.lim).mono fun e W' ⟨he, hk⟩ => ?_
  refine ⟨.bool true, he, law_post rfl (by kernel_rfl) ?_ hW' rfl hk⟩
  rw [Tryz.params3]
  intro t ht
  simp only [List.mem_cons, List.not_mem_nil, or_false] at ht
  rcases ht with rfl | rfl | rfl
  · exact readBase
  · exact readSig
  · exact readInt
def zeroArgs : Array Value := #[.agg #[.slice none 0 0, .slice none 0 0, .slice none 0 0, .slice none 0 0, .slice none 0 0, .slice none 0 0, .slice none 0 0], .agg #[.slice none 0 0, .slice none 0 0], .int .i64 0]
theorem laid_met (os : Os) : laidMet Tryz.prog Rows.moduleModulesRow.laid ((laidWorld os).forCall (fun _ _ => 0) ⟨#[], zeroArgs, []⟩).memory :=
  laidMet_of_run' 8 (by kernel_rfl) (by kernel_rfl)
theorem reads (os : Os) {H : Type} (enc : TypeId × Value → H) : ∃ places, DataW.whole enc Tryz.prog ((laidWorld os).forCall (fun _ _ => 0) ⟨#[], zeroArgs, []⟩).memory Tryz.f3.params.toList Rows.moduleModulesSpec.vars false zeroArgs.toList 8 =
    some ([.agg [.agg [.nil, .nil, .nil], .nil, .nil, .nil, .nil], .agg [.nil, .nil], .lit (.int .i64 0)], [], places) :=
  ⟨[], by kernel_rfl⟩
set_option maxRecDepth 100000 in
theorem lifted (os : Os) (started : os.Started) (H : Type) (enc : TypeId × Value → H) (F : Stop.Interp) :
    ReturnsInHanded {} Tryz.checked os 3 .any ((OpenSpec.ofChange Rows.moduleModulesSpec).preRow enc Tryz.prog Tryz.f3 Rows.moduleModulesRow.domain false Rows.moduleModulesRow.laid) (((OpenSpec.ofChange Rows.moduleModulesSpec).at F).post enc Tryz.prog Tryz.f3 false true false false) := by
  obtain ⟨places, hx⟩ := reads os enc
  refine returnsInHanded_of_row (C := Tryz.checked) (s := OpenSpec.ofChange Rows.moduleModulesSpec) own started (by kernel_rfl) Tryz.func3
    (witness_row_at (enc := enc) (C := Tryz.checked) false (laidWorld os) zeroArgs rfl (by kernel_rfl) (by kernel_rfl) (by kernel_rfl)
      (OpenSpec.preRow_of_cond 8 hx (by kernel_rfl) (fun k hk => by cases hk) (by kernel_rfl) (laid_met os))) ?_
  intro W base args ds gs before hval hW _ _ hz hL hS _
  exact contract H enc W base args ds gs before hval hW hz hL hS
set_option maxRecDepth 100000 in
theorem inPlaceIs : Tryz.pinned.checked.prog.inPlace 3 = Rows.moduleModulesRow.inPlace := by kernel_rfl
set_option maxRecDepth 100000 in
theorem unfollowedIs : Tryz.pinned.checked.prog.unfollowed 3 = Rows.moduleModulesRow.unfollowed := by kernel_rfl
set_option maxRecDepth 100000 in
theorem recursesIs : Tryz.pinned.checked.prog.recurses 3 = Rows.moduleModulesRow.recurses := by kernel_rfl
set_option maxRecDepth 100000 in
theorem namedIs : Tryz.pinned.checked.prog.varsNamed 3 = Rows.moduleModulesRow.named := by kernel_rfl
set_option maxRecDepth 100000 in
theorem closed : joinedFacts Tryz.pinned.checked.prog 3 Tryz.f3 (OpenSpec.ofChange Rows.moduleModulesSpec).bare Rows.moduleModulesRow = true := by
  unfold joinedFacts
  rw [inPlaceIs, unfollowedIs, recursesIs, namedIs]
  kernel_rfl
theorem said : Rows.ModuleModulesSaid :=
  OpenClaim.holds_of_cond 3 Tryz.f3 rfl rfl rfl rfl rfl rfl rfl ⟨rfl, rfl, rfl, rfl, rfl⟩ rfl rfl rfl rfl rfl (by kernel_rfl) Tryz.func3 closed
    (of_decide_eq_true (by kernel_rfl)) (by unfold Func.isWrapper; first | (rw [if_pos (by decide +kernel)]; kernel_rfl) | (rw [if_neg (by decide +kernel)]; exact ⟨rfl, rfl⟩))
    (fun os started H enc _ F => by rw [OpenClaim.pre_eq_preRow]; exact lifted os started H enc F)
theorem plain (f : FuncId) (fn : Func) (hf : Tryz.pinned.checked.prog.funcNamed "isagoge/isagogelaw19.ModuleModules" = some f) (hfn : Tryz.pinned.checked.prog.funcs[f]? = some fn) :
    false = Tryz.pinned.checked.prog.looks [] ∧ ∀ (j : Nat) t, fn.params[j]? = some t → Tryz.pinned.checked.prog.wantsStandIn t = false := by
  obtain rfl : f = 3 := Option.some.inj ((show Tryz.prog.funcNamed "isagoge/isagogelaw19.ModuleModules" = some 3 by kernel_rfl).symm.trans hf) |>.symm
  obtain rfl : fn = Tryz.f3 := (Option.some.inj (Tryz.func3.symm.trans hfn)).symm
  refine ⟨by kernel_rfl, fun j t ht => ?_⟩
  rw [Tryz.params3] at ht
  have hm := Array.mem_of_getElem? ht
  simp only [List.mem_toArray, List.mem_cons, List.not_mem_nil, or_false] at hm
  rcases hm with rfl | rfl | rfl
  · exact (show Tryz.prog.wantsStandIn 30 = false by kernel_rfl)
  · exact (show Tryz.prog.wantsStandIn 33 = false by kernel_rfl)
  · exact (show Tryz.prog.wantsStandIn 3 = false by kernel_rfl)
end lawModuleModules
theorem moduleModules_card : Rows.ModuleModulesCardSaid :=
  Claim7.holds_tied_plain_at .later [] _ _ _ _ lawModuleModules.said (fun _ h => by cases h) (by kernel_rfl) (fun _ h => by cases h) moduleModules_row_tie rfl ⟨rfl, rfl⟩ (by kernel_rfl) rfl lawModuleModules.plain (by kernel_rfl)
#print axioms moduleModules_card
end Go.Proofs.YthiclhbnggehoaaGreatDoor
