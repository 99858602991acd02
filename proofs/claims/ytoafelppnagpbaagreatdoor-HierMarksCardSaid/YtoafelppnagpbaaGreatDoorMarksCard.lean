/-
  HierMarks (isagogelaw05): returns true for every knowledge base and list of concepts, and leaves its arguments as they were: Marks returns the marks in their order, or the error.
  Conditions: those of the given card alone (the arguments can be read as data; the two tables of package concept hold what the program's text lays, which the card ties).
-/
/- The law HierMarks: the walk and the pure law joined. -/
import Derived.Test.YtoafelppnagpbaaGreatDoorMarksW
import Derived.Test.YtoafelppnagpbaaGreatDoorPRef
import Derived.Test.YtoafelppnagpbaaGreatDoorCardKit
namespace Go.Proofs.YtoafelppnagpbaaGreatDoor
open Go.RowKit
set_option linter.unusedVariables false
set_option linter.unusedSimpArgs false
theorem hierMarks_calls (b : Kb) (p : KbA) (more : List Con) (A : Option Addr) (cap : Nat) (w : World) (m : Int) (hm : w.cell? ⟨2, 0, none⟩ = some (.int .i64 m)) (ht : ArgsTab w) (hd : DualsTab w) (hb : KbR (fun _ => True) w b p)
    (hl : ConsAt (fun _ => True) w more A) (hcap : more.length ≤ cap) (hreach : more.length * 40 ≤ 140737488351232) :
    Calls Tryz.prog 3 #[.agg #[.slice p.a0 b.cs.length p.c0, .slice p.a1 b.rs.length p.c1, .slice p.a2 b.is.length p.c2, .slice p.a3 b.incls.length p.c3, .slice p.a4 b.roles.length p.c4, .slice p.a5 b.facts.length p.c5, .slice p.a6 b.links.length p.c6], .slice A more.length cap] w fun e w' => e = .returned (.bool true) ∧ Keeps (fun _ => False) w w' :=
  hierMarks_walk b p more A cap w m hm ht hd hb hl hcap hreach (fun _ => marked_eq b more) (fun h1 h2 => refOk_of h1 h2) (marks_sizes b more).1 (marks_sizes b more).2
end Go.Proofs.YtoafelppnagpbaaGreatDoor
namespace Go.Proofs.YtoafelppnagpbaaGreatDoor
open Go.RowKit Go.WideShapes Go.ChangeShapes Go.ChangeAt
set_option linter.unusedVariables false
set_option linter.unusedSimpArgs false
namespace lawHierMarks
set_option maxRecDepth 100000 in
theorem contract (H : Type) (enc : TypeId × Value → H) (W : World) (base : Nat) (args : Array Value) (ds gs : List (DataW H)) (before : List MemPlace)
    (hval : ∀ (j : Nat) t v, Tryz.f3.params[j]? = some t → args[j]? = some v → Value.okWide Tryz.prog W .any base t v)
    (hW : DataW.Whole enc Tryz.prog Tryz.f3.params.toList Rows.hierMarksSpec.vars false W args.toList ds gs before)
    (hz : (DataW.weightsEach Tryz.prog (Tryz.f3.params.toList ++ Rows.hierMarksSpec.plain.varTypes Tryz.prog) (ds ++ gs)).all (· ≤ reachBytes) = true) (hL : laidMetH Tryz.prog Rows.hierMarksRow.laid W) (hS : W.ShapedOpen Tryz.prog) :
    Calls Tryz.prog 3 args W fun e W' => ∃ v, e = .returned v ∧ Rows.hierMarksSpec.post enc Tryz.prog Tryz.f3 false true false false W args v W' := by
  have hW' := hW
  obtain ⟨p, q, hA0, hV, rfl, hfz, hnd⟩ := hW
  have hA : DataW.TrodAll enc Tryz.prog W 0 (fun _ => true) true Tryz.f3.params.toList args.toList ds p := hA0
  rw [Tryz.params3] at hA hval hz
  obtain ⟨v0, vs0, d0, ds0, p0, q0, hargs, rfl, rfl, h0, r0⟩ := trodAll_cons hA
  obtain ⟨v1, vs1, d1, ds1, p1, q1, rfl, rfl, rfl, h1, r1⟩ := trodAll_cons r0
  obtain ⟨rfl, rfl, rfl⟩ := trodAll_nil r1
  obtain rfl : args = #[v0, v1] := by cases args; simp_all
  obtain ⟨rfl, rfl⟩ := trodVars_none hV
  obtain ⟨b0, ad0, rfl, hb0⟩ := argBase (hval 0 30 v0 rfl rfl) h0
  obtain ⟨l1, A1, cap1, rfl, hcap1, _, hl1, hd1⟩ := argCons (hval 1 31 v1 rfl rfl) h1
  have hr1 : l1.length * 40 ≤ 140737488351232 := reachCons (j := 1) hz rfl rfl hd1
  obtain ⟨m, hm⟩ := maxLen_of hS
  refine (hierMarks_calls b0 ad0 l1 A1 cap1 W m hm (argsTab_of hL) (dualsTab_of hL) hb0 hl1 hcap1 hr1).mono fun e W' ⟨he, hk⟩ => ?_
  refine ⟨.bool true, he, law_post rfl (by kernel_rfl) ?_ hW' rfl hk⟩
  rw [Tryz.params3]
  intro t ht
  simp only [List.mem_cons, List.not_mem_nil, or_false] at ht
  rcases ht with rfl | rfl
  · exact readBase
  · exact readCons
def zeroArgs : Array Value := #[.agg #[.slice none 0 0, .slice none 0 0, .slice none 0 0, .slice none 0 0, .slice none 0 0, .slice none 0 0, .slice none 0 0], .slice none 0 0]
theorem laid_met (os : Os) : laidMet Tryz.prog Rows.hierMarksRow.laid ((laidWorld os).forCall (fun _ _ => 0) ⟨#[], zeroArgs, []⟩).memory :=
  laidMet_of_run' 8 (by kernel_rfl) (by kernel_rfl)
theorem reads (os : Os) {H : Type} (enc : TypeId × Value → H) : ∃ places, DataW.whole enc Tryz.prog ((laidWorld os).forCall (fun _ _ => 0) ⟨#[], zeroArgs, []⟩).memory Tryz.f3.params.toList Rows.hierMarksSpec.vars false zeroArgs.toList 8 =
    some ([.agg [.agg [.nil, .nil, .nil], .nil, .nil, .nil, .nil], .nil], [], places) :=
  ⟨[], by kernel_rfl⟩
set_option maxRecDepth 100000 in
theorem lifted (os : Os) (started : os.Started) (H : Type) (enc : TypeId × Value → H) (F : Stop.Interp) :
    ReturnsInHanded {} Tryz.checked os 3 .any ((OpenSpec.ofChange Rows.hierMarksSpec).preRow enc Tryz.prog Tryz.f3 Rows.hierMarksRow.domain false Rows.hierMarksRow.laid) (((OpenSpec.ofChange Rows.hierMarksSpec).at F).post enc Tryz.prog Tryz.f3 false true false false) := by
  obtain ⟨places, hx⟩ := reads os enc
  refine returnsInHanded_of_row (C := Tryz.checked) (s := OpenSpec.ofChange Rows.hierMarksSpec) own started (by kernel_rfl) Tryz.func3
    (witness_row_at (enc := enc) (C := Tryz.checked) false (laidWorld os) zeroArgs rfl (by kernel_rfl) (by kernel_rfl) (by kernel_rfl)
      (OpenSpec.preRow_of_cond 8 hx (by kernel_rfl) (fun k hk => by cases hk) (by kernel_rfl) (laid_met os))) ?_
  intro W base args ds gs before hval hW _ _ hz hL hS _
  exact contract H enc W base args ds gs before hval hW hz hL hS
theorem said : Rows.HierMarksSaid :=
  OpenClaim.holds_of_cond 3 Tryz.f3 rfl rfl rfl rfl rfl rfl rfl ⟨rfl, rfl, rfl, rfl, rfl⟩ rfl rfl rfl rfl rfl (by kernel_rfl) Tryz.func3 (by kernel_rfl)
    (of_decide_eq_true (by kernel_rfl)) (by unfold Func.isWrapper; first | (rw [if_pos (by decide +kernel)]; kernel_rfl) | (rw [if_neg (by decide +kernel)]; exact ⟨rfl, rfl⟩))
    (fun os started H enc _ F => by rw [OpenClaim.pre_eq_preRow]; exact lifted os started H enc F)
theorem plain (f : FuncId) (fn : Func) (hf : Tryz.pinned.checked.prog.funcNamed "isagoge/isagogelaw05.HierMarks" = some f) (hfn : Tryz.pinned.checked.prog.funcs[f]? = some fn) :
    false = Tryz.pinned.checked.prog.looks [] ∧ ∀ (j : Nat) t, fn.params[j]? = some t → Tryz.pinned.checked.prog.wantsStandIn t = false := by
  obtain rfl : f = 3 := Option.some.inj ((show Tryz.prog.funcNamed "isagoge/isagogelaw05.HierMarks" = some 3 by kernel_rfl).symm.trans hf) |>.symm
  obtain rfl : fn = Tryz.f3 := (Option.some.inj (Tryz.func3.symm.trans hfn)).symm
  refine ⟨by kernel_rfl, fun j t ht => ?_⟩
  rw [Tryz.params3] at ht
  have hm := Array.mem_of_getElem? ht
  simp only [List.mem_toArray, List.mem_cons, List.not_mem_nil, or_false] at hm
  rcases hm with rfl | rfl
  · exact (show Tryz.prog.wantsStandIn 30 = false by kernel_rfl)
  · exact (show Tryz.prog.wantsStandIn 31 = false by kernel_rfl)
end lawHierMarks
theorem hierMarks_card : Rows.HierMarksCardSaid :=
  Claim7.holds_tied_plain_at .later [] _ _ _ _ lawHierMarks.said (fun _ h => by cases h) (by kernel_rfl) (fun _ h => by cases h) hierMarks_row_tie rfl ⟨rfl, rfl⟩ (by kernel_rfl) rfl lawHierMarks.plain (by kernel_rfl)
#print axioms hierMarks_card
end Go.Proofs.YtoafelppnagpbaaGreatDoor
