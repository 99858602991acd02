/- What every card of this seat stands on: the tables, the witness world, the row's last step. -/
import Derived.Test.YthiclhbnggehoaaGreatDoorCards
import Derived.Test.YthiclhbnggehoaaGreatDoorTie
import Derived.Test.YthiclhbnggehoaaGreatDoorArgs
import Derived.Test.YthiclhbnggehoaaGreatDoorBase
import Derived.ProofKit
import Derived.Deep.DeepHandedRow
import Derived.Lib.LaidTab
import Derived.Shelf.Vars
import Derived.Carry
import Derived.SizedLaws
namespace Go.Proofs.YthiclhbnggehoaaGreatDoor
open Go.RowKit Go.WideShapes Go.ChangeShapes Go.ChangeAt
set_option linter.unusedVariables false
set_option linter.unusedSimpArgs false
theorem own : ownKnob Tryz.prog.godebug = none := by kernel_rfl
theorem gArgs : Tryz.prog.globalNamed "isagoge/concept.args" = some 0 := by kernel_rfl
theorem gArgsType : (Tryz.prog.globals[0]?).map (·.type) = some 171 := by kernel_rfl
theorem cells8 : Tryz.prog.cellsOf 171 = 8 := by kernel_rfl
theorem laidOut : laidOutB Tryz.prog = true := by kernel_rfl
theorem blk_of_tab {W : World} {name : String} {g : Nat} {zs : List Int} (hg : Tryz.prog.globalNamed name = some g) (h : Lib.TabIs Tryz.prog W name .i64 zs) : ∃ t fz, W.heap[g]? = some (.cells (zs.map fun z => Value.int .i64 z).toArray t fz) := by
  unfold Lib.TabIs at h
  simp only [World.var?, hg, Option.bind_some] at h
  split at h
  · rename_i cs t fz e
    simp only [Option.some.injEq] at h
    exact ⟨t, fz, by rw [e, h]⟩
  · cases h
theorem laid_tail {P : Program} {x : String × DataW Unit} {r : List (String × DataW Unit)} {w : World} (h : laidMet P (x :: r) w) : laidMet P r w := by
  obtain ⟨ps, hv, hnd, hrows⟩ := h
  obtain ⟨n, d⟩ := x
  obtain ⟨g, t, cs, fuel, p, q, _, _, _, _, hq, rfl⟩ := hv
  exact ⟨q, hq, List.Nodup.sublist (List.sublist_append_right _ _) hnd, fun b off hm => hrows b off (List.mem_append_right _ hm)⟩
def bothLaid : List (String × DataW Unit) := [("isagoge/concept.args", Rows.laid_isagoge_concept_args)]
theorem argsTab_of {W : World} (h : laidMetH Tryz.prog bothLaid W) : ArgsTab W := by
  have h1 : Lib.TabIs Tryz.prog W "isagoge/concept.args" .i64 [0, 0, 0, 1, 2, 2, 1, 1] :=
    Lib.tabIs_of_head (rest := []) gArgs gArgsType Tryz.underlying171 Tryz.underlying3 cellsInt cells8 h
  exact blk_of_tab gArgs h1
theorem maxLen_of {W : World} (h : W.ShapedOpen Tryz.prog) : ∃ m, W.cell? ⟨1, 0, none⟩ = some (.int .i64 m) :=
  cell_of_shapedOpen_int (t := 3) (zero := #[.int .i64 0]) h (by decide +kernel) (by kernel_rfl) rfl (by kernel_rfl) (by kernel_rfl) Tryz.underlying3
/-- .. its tables. -/
def holds (cs : Array Value) : Obj → Obj
  | .cells _ t frozen => .cells cs t frozen
  | o => o
section
variable {H : Type} {enc : TypeId × Value → H} {W : World} {sp : Nat → Bool} {held : Bool} {base : Nat} {v : Value} {d : DataW H} {ps : List MemPlace}
set_option maxRecDepth 100000 in
theorem argBase (hval : Value.okWide Tryz.prog W .any base 30 v) (h : DataW.Trod enc Tryz.prog W 0 sp held 30 v d ps) :
    ∃ (b : Kb) (p : KbA), v = .agg #[.slice p.a0 b.cs.length p.c0, .slice p.a1 b.rs.length p.c1, .slice p.a2 b.is.length p.c2, .slice p.a3 b.incls.length p.c3, .slice p.a4 b.roles.length p.c4, .slice p.a5 b.facts.length p.c5, .slice p.a6 b.links.length p.c6] ∧ KbR (fun _ => True) W b p := by
  obtain ⟨cs, rfl, _⟩ := okWide_struct Tryz.underlying30 hval
  obtain ⟨fuel, hf⟩ := h
  obtain ⟨b, p, hcs, hb⟩ := openBase hf
  exact ⟨b, p, congrArg Value.agg (Array.toList_inj.1 hcs), hb⟩
set_option maxRecDepth 100000 in
theorem argCon (hval : Value.okWide Tryz.prog W .any base 37 v) (h : DataW.Trod enc Tryz.prog W 0 sp held 37 v d ps) :
    ∃ (c : Con) (A : Option Addr) (cap : Nat), v = .agg #[.int .i64 c.op, .int .i64 c.n, .slice A c.args.length cap] ∧ ConR (fun _ => True) W c [.int .i64 c.op, .int .i64 c.n, .slice A c.args.length cap] := by
  obtain ⟨cs, rfl, _⟩ := okWide_struct Tryz.underlying37 hval
  obtain ⟨fuel, hf⟩ := h
  obtain ⟨c, hc⟩ := openCon fuel hf
  obtain ⟨A, cap, e, _⟩ := hc.form
  rw [e] at hc
  exact ⟨c, A, cap, congrArg Value.agg (Array.toList_inj.1 e), hc⟩
set_option maxRecDepth 100000 in
theorem argCons (hval : Value.okWide Tryz.prog W .any base 35 v) (h : DataW.Trod enc Tryz.prog W 0 sp held 35 v d ps) :
    ∃ (l : List Con) (A : Option Addr) (cap : Nat), v = .slice A l.length cap ∧ l.length ≤ cap ∧ cap ≤ maxLen ∧ ConsAt (fun _ => True) W l A ∧ (l.length = 0 ∨ ∃ es sp, d = .slice es sp ∧ es.length = l.length) := by
  obtain ⟨a, n, k, rfl⟩ := okWide_slice Tryz.underlying35 hval
  obtain ⟨fuel, hf⟩ := h
  obtain ⟨l, A, cap, hcs, h1, h2, h3⟩ := openCons hf
  have e : Value.slice a n k = .slice A l.length cap := by simpa [Value.cells] using hcs
  refine ⟨l, A, cap, e, h1, h2, fun hl => by obtain ⟨b, o, e1, e2⟩ := h3 hl; exact ⟨b, o, e1, trivial, e2⟩, ?_⟩
  rcases DataW.trod_slice Tryz.underlying35 hf with ⟨h4, _⟩ | ⟨a', len, cap', elems, rest, m, _, h4, h5, _, _, _, hel, _⟩
  · left
    rw [hcs] at h4
    simp only [List.cons.injEq, Value.slice.injEq, and_true] at h4
    exact h4.2.1
  · right
    rw [hcs] at h4
    simp only [List.cons.injEq, Value.slice.injEq, and_true] at h4
    refine ⟨elems.map (·.1), rest.map (·.1), (Prod.mk.inj h5).1, by simp [hel, h4.2.1]⟩
theorem bytesCon : Tryz.prog.bytesOf 37 = 40 := by kernel_rfl
/-- What a slice of concepts that was read takes. -/
theorem reachCons {ts : List TypeId} {ds : List (DataW H)} {l : List Con} {j : Nat} (h : (DataW.weightsEach Tryz.prog ts ds).all (· ≤ reachBytes) = true) (ht : ts[j]? = some 35) (hd : ds[j]? = some d) (hl : l.length = 0 ∨ ∃ es sp, d = .slice es sp ∧ es.length = l.length) : l.length * 40 ≤ 140737488351232 := by
  rcases hl with hl | ⟨es, sp, rfl, hl⟩
  · rw [hl]; omega
  · have := sized_slice h ht hd Tryz.underlying35
    rw [bytesCon, hl] at this
    unfold reachBytes at this
    omega
end
/-- A world for the witness: the settled one, the tables holding what their initialisers lay. -/
noncomputable def laidWorld (os : Os) : World :=
  { World.holding Tryz.prog os ⟨#[], #[], []⟩ with heap := ((World.holding Tryz.prog os ⟨#[], #[], []⟩).heap).modify 0 (holds #[.int .i64 0, .int .i64 0, .int .i64 0, .int .i64 1, .int .i64 2, .int .i64 2, .int .i64 1, .int .i64 1]) }
/-- A type of a parameter. -/
structure Readable (t : TypeId) : Prop where
  rd : Tryz.prog.readableRec t = true
  lt : t < Tryz.prog.types.size
theorem readBase : Readable 30 := ⟨by kernel_rfl, of_decide_eq_true (by kernel_rfl)⟩
theorem readInt : Readable 3 := ⟨by kernel_rfl, of_decide_eq_true (by kernel_rfl)⟩
theorem readCon : Readable 37 := ⟨by kernel_rfl, of_decide_eq_true (by kernel_rfl)⟩
theorem readCons : Readable 35 := ⟨by kernel_rfl, of_decide_eq_true (by kernel_rfl)⟩
/-- The world behind a call that changed nothing of what was there. -/
theorem trodAll_stays {H : Type} {enc : TypeId × Value → H} {W W' : World} {sp' : Nat → Bool} (hb : Below W.heap.size W W') : ∀ {ts : List TypeId} {vs : List Value} {ds : List (DataW H)} {ps : List MemPlace},
    (∀ t ∈ ts, Readable t) → DataW.TrodAll enc Tryz.prog W 0 (fun _ => true) true ts vs ds ps → (∀ x ∈ ps, x.block < W.heap.size) → (∀ x ∈ ps, sp' x.block = true) →
    DataW.TrodAll enc Tryz.prog W' 0 sp' true ts vs ds ps
  | [], [], [], _, _, h, _, _ => h
  | t :: ts, v :: vs, d :: ds, _, ht, ⟨p, q, h1, h2, e⟩, hlt, hs => by
    subst e
    have h0 := ht t (List.mem_cons_self)
    exact ⟨p, q, WideElems.Trod_stays laidOut h0.rd h0.lt h1 (fun x hx => hb.same (hlt x (List.mem_append_left _ hx))) (fun x hx => hs x (List.mem_append_left _ hx)),
      trodAll_stays hb (fun t h => ht t (List.mem_cons_of_mem _ h)) h2 (fun x hx => hlt x (List.mem_append_right _ hx)) (fun x hx => hs x (List.mem_append_right _ hx)), rfl⟩
set_option maxRecDepth 100000 in
/-- A law that returned true and changed nothing of what was there. -/
theorem law_post {H : Type} {enc : TypeId × Value → H} {f : Func} {s : ChangeSpec} {apart fresh handsOn again : Bool} {W W' : World} {args : Array Value} {ds gs : List (DataW H)} {before : List MemPlace}
    (hvars : s.vars = []) (hres : f.resultTypes = #[4]) (hts : ∀ t ∈ f.params.toList, Readable t)
    (hW : DataW.Whole enc Tryz.prog f.params.toList s.vars apart W args.toList ds gs before) (hspec : s.fn H (ds ++ gs) = { results := [.lit (.bool true)], args := ds }) (hk : Keeps (fun _ => False) W W') :
    s.post enc Tryz.prog f apart fresh handsOn again W args (.bool true) W' := by
  have hb : Below W.heap.size W W' := hk.below
  have hlt : ∀ p ∈ before, p.block < W.heap.size := fun p hp => hW.lt p hp
  have hW' := hW
  obtain ⟨pa, pv, hA, hV, rfl, hfz, hnd⟩ := hW
  rw [hvars] at hV
  obtain ⟨rfl, rfl⟩ := trodVars_none hV
  have hargs : ∀ sp : Nat → Bool, (∀ p ∈ pa, sp p.block = true) → DataW.TrodAll enc Tryz.prog W' 0 sp true f.params.toList args.toList (s.fn H (ds ++ [])).args pa := fun sp hsp => by
    rw [hspec]
    exact trodAll_stays hb hts hA (fun x hx => hlt x (List.mem_append_left _ hx)) hsp
  have hvar : ∀ sp : Nat → Bool, DataW.TrodVars enc Tryz.prog W' sp s.vars (s.fn H (ds ++ [])).vars [] := fun sp => by
    rw [hspec, hvars]; exact rfl
  have hrs : ∀ (b : Nat) (sp : Nat → Bool) (hd : Bool), DataW.TrodAll enc Tryz.prog W' b sp hd f.resultTypes.toList ((Value.bool true).resultList f.resultTypes.size) (s.fn H (ds ++ [])).results [] := fun b sp hd => by
    rw [hspec, hres]
    exact ⟨[], [], ⟨1, by simp [DataW.trod, Value.cells, Tryz.underlying4]⟩, rfl, rfl⟩
  have hold : ∀ p ∈ pa, (fun b => decide (b < W.heap.size)) p.block = true := fun p hp => by simpa using hlt p (List.mem_append_left _ hp)
  refine ⟨ds, [], _, [], pa, [], hW', hrs _ _ _, hargs _ hold, hvar _, World.keptBut_mono (fun p hp => ⟨hp, ?_⟩) (hb.frame (· ∈ pa ++ [])), fun _ => ?_⟩
  · simpa using hp
  · refine ⟨ok_one hres rfl (by simp [Value.okWide, Tryz.underlying4, Cell.okWide, Cell.ok]), _, _, ([] ++ pa) ++ [], ⟨[] ++ pa, [], trodAll_append (hargs _ (fun _ _ => rfl)) (hrs _ _ _), hvar _, rfl, ?_, ?_⟩, ?_⟩
    · intro b off hp
      have hin : MemPlace.cell b off ∈ pa ++ [] := by simpa using hp
      rw [hb.frozen (hlt _ hin)]
      exact hfz b off hin
    · intro ha
      have := hnd ha
      simpa using this
    · intro p hp _
      simpa using hp
end Go.Proofs.YthiclhbnggehoaaGreatDoor
