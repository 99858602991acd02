/- kb: an axiom is added to a knowledge base without axioms. -/
import Derived.Test.YthiclhbnggehoaaGreatDoorAll
import Derived.Test.YthiclhbnggehoaaGreatDoorCopied
import Derived.Deep.DeepMust
namespace Go.Proofs.YthiclhbnggehoaaGreatDoor
open Go.RowKit
set_option linter.unusedVariables false
set_option linter.unusedSimpArgs false
theorem ownOne {w : World} {base e size h cap : Nat} {vs : List Value} (ho : w.ownsRow base e size (.slice (some ⟨h, 0, none⟩) (0 + 1) cap) (0 + 1) ([] ++ vs)) : base ≤ h ∧ h < w.heap.size ∧ 0 + 1 ≤ cap ∧ ∀ j u, vs[j]? = some u → w.cell? ⟨h, j, none⟩ = some u := by
  have hl := ho.1
  rcases ho.2 with ⟨h0, _⟩ | ⟨g, c, cur, e1, hb, hh, hc, _, _, ht⟩
  · cases h0
  · simp only [Value.slice.injEq, Option.some.injEq, Addr.mk.injEq] at e1
    obtain ⟨⟨rfl, _, _⟩, _, rfl⟩ := e1
    refine ⟨hb, blkLt hh, hc, fun j u hu => ?_⟩
    rw [blkCell hh]
    have hj : j < vs.length := (List.getElem?_eq_some_iff.1 hu).1
    simp only [List.nil_append] at ht hl
    rw [← ht, List.getElem?_take_of_lt (by rw [hl] at hj; exact hj)] at hu
    simpa using hu
theorem infoIncl1 : (Tryz.prog.info? 92).map (fun i => (i.zero, i.size, i.bytes)) = some (some (.agg #[.int .i64 0, .int .i64 0, .slice none 0 0, .int .i64 0, .int .i64 0, .slice none 0 0]), 6, 80) := by kernel_rfl
theorem infoRole1 : (Tryz.prog.info? 84).map (fun i => (i.zero, i.size, i.bytes)) = some (some (.agg #[.int .i64 0, .int .i64 0]), 2, 16) := by kernel_rfl
theorem infoFact1 : (Tryz.prog.info? 87).map (fun i => (i.zero, i.size, i.bytes)) = some (some (.agg #[.int .i64 0, .int .i64 0, .int .i64 0, .slice none 0 0]), 4, 48) := by kernel_rfl
theorem infoLink1 : (Tryz.prog.info? 89).map (fun i => (i.zero, i.size, i.bytes)) = some (some (.agg #[.int .i64 0, .int .i64 0, .int .i64 0]), 3, 24) := by kernel_rfl
theorem Keeps.emp {w w' : World} (h : Keeps (fun k => (Value.slice none 0 0).ownBlock = some k) w w') : Keeps (fun _ => False) w w' := ⟨h.os, h.tape, h.output, h.size, fun k hk _ => h.block k hk (by simp [Value.ownBlock])⟩
/-- The cells of a knowledge base without axioms. -/
abbrev noAx (n0 n1 n2 : Value) : Array Value := #[n0, n1, n2, .slice none 0 0, .slice none 0 0, .slice none 0 0, .slice none 0 0]
set_option maxRecDepth 100000 in
set_option maxHeartbeats 4000000 in
theorem add_incl_calls (c d : Con) (A1 A2 : Option Addr) (e1 e2 : Nat) (ok : Nat → Prop) (g : Nat) (n0 n1 n2 : Value) (w : World) (hg : w.heap[g]? = some (.cells (noAx n0 n1 n2) 30 (0, 0))) (s1 : shapeC c = true) (s2 : shapeC d = true) (r1 : ConR ok w c [.int .i64 c.op, .int .i64 c.n, .slice A1 c.args.length e1]) (r2 : ConR ok w d [.int .i64 d.op, .int .i64 d.n, .slice A2 d.args.length e2]) :
    Calls Tryz.prog 166 #[.agg #[.int .i64 c.op, .int .i64 c.n, .slice A1 c.args.length e1, .int .i64 d.op, .int .i64 d.n, .slice A2 d.args.length e2], .pointer (some ⟨g, 0, none⟩)] w fun e w' => (∃ u, e = .returned u) ∧ ∃ h cap, w'.heap[g]? = some (.cells #[n0, n1, n2, .slice (some ⟨h, 0, none⟩) 1 cap, .slice none 0 0, .slice none 0 0, .slice none 0 0] 30 (0, 0)) ∧ 1 ≤ cap ∧ InclsR (fun k => w.heap.size ≤ k) w' [(c, d)] (some ⟨h, 0, none⟩) ∧ Keeps (fun i => i = g) w w' := by
  have HCP1 : Hid (∀ W, Keeps (fun _ => False) w W → Calls Tryz.prog 168 #[.agg #[.int .i64 c.op, .int .i64 c.n, .slice A1 c.args.length e1]] W (RetCon c W)) := fun W hk => copied_calls _ c A1 e1 ok W (Nat.lt_succ_self _) s1 (r1.keep hk (fun _ _ h => h))
  have HCP2 : Hid (∀ W, Keeps (fun _ => False) w W → Calls Tryz.prog 168 #[.agg #[.int .i64 d.op, .int .i64 d.n, .slice A2 d.args.length e2]] W (RetCon d W)) := fun W hk => copied_calls _ d A2 e2 ok W (Nat.lt_succ_self _) s2 (r2.keep hk (fun _ _ h => h))
  have hgl := blkLt hg
  have HGG := Lib.hid hg
  clear s1 s2 r1 r2 hg
  go_enter Tryz.func166, Tryz.ntmps166
  go_wp2_with fail
  generalize hW4 : World.alloc _ _ = W4
  have hK4 : Keeps (fun _ => False) w W4 := by rw [← hW4]; repeat (first | exact Keeps.refl _ _ | refine Keeps.drewN ?_ _ | refine Keeps.drew ?_ | refine Keeps.alloc ?_ _ | refine Keeps.set ?_ (Or.inl (by rfl)) _)
  have hg4 : W4.heap[w.heap.size]? = some (.cells #[.int .i64 c.op, .int .i64 c.n, .slice A1 c.args.length e1, .int .i64 d.op, .int .i64 d.n, .slice A2 d.args.length e2] 162 (0, 0)) := by rw [← hW4]; exact blkNew rfl
  clear hW4
  have hgg := hK4.blk HGG.out (fun h => h)
  have gv4 := blkCell hgg 3
  simp only [List.getElem?_toArray, List.getElem?_cons_zero, List.getElem?_cons_succ] at gv4
  have gf4 := blkFree hgg 3
  have gl4 := blkLt hgg
  have tl4 := blkLt hg4
  obtain ⟨t0, t1, t2, t3, t4, t5⟩ := cells6 hg4
  have HGT4 := Lib.hid hg4
  have HGG4 := Lib.hid hgg
  have HW4 := Lib.hid hK4
  have hz4 : w.heap.size ≤ W4.heap.size := hK4.size
  clear hg4 hK4 hgg HGG
  go_region_law
    (first
      | (refine step_call (by rfl) 168 #[.agg #[.int .i64 c.op, .int .i64 c.n, .slice A1 c.args.length e1]] (by first | (go_simp; done) | (go_simp; rfl)) ?_; refine (HCP1.out _ (by repeat (first | exact HW4.out | refine Keeps.drewN ?_ _ | refine Keeps.drew ?_ | refine Keeps.alloc ?_ _))).mono ?_; clear HCP1; rintro e w5 ⟨D1, f1, rfl, hr, hk5⟩; refine ⟨_, rfl, ?_⟩; go_must (have hkk := (show Keeps (fun _ => False) W4 _ from (by repeat (first | exact Keeps.refl _ _ | refine Keeps.drewN ?_ _ | refine Keeps.drew ?_ | refine Keeps.alloc ?_ _))).then_ hk5; have HW5 := Lib.hid (HW4.out.then_ hkk); have HGT5 := Lib.hid (hkk.blk HGT4.out (fun h => h)); have HGG5 := Lib.hid (hkk.blk HGG4.out (fun h => h)); have hsz5 : W4.heap.size ≤ w5.heap.size := hkk.size; have HR5 : Hid (ConR (fun i => w.heap.size ≤ i) w5 _ _) := Lib.hid (hr.mono (fun i hi => by have h2 : W4.heap.size ≤ i := hi; omega)); have gv5 := blkCell HGG5.out 3; simp only [List.getElem?_toArray, List.getElem?_cons_zero, List.getElem?_cons_succ] at gv5; have gl5 := blkLt HGG5.out; have tl5 := blkLt HGT5.out; obtain ⟨t05, t15, t25, t35, t45, t55⟩ := cells6 HGT5.out; clear hr hk5 hkk))
      | (refine step_call (by rfl) 168 #[.agg #[.int .i64 d.op, .int .i64 d.n, .slice A2 d.args.length e2]] (by first | (go_simp; done) | (go_simp; rfl)) ?_; refine (HCP2.out _ (by repeat (first | exact HW5.out | refine Keeps.drewN ?_ _ | refine Keeps.drew ?_ | refine Keeps.alloc ?_ _))).mono ?_; clear HCP2; rintro e w6 ⟨D2, f2, rfl, hr, hk5⟩; refine ⟨_, rfl, ?_⟩; go_must (have hkk := (show Keeps (fun _ => False) w5 _ from (by repeat (first | exact Keeps.refl _ _ | refine Keeps.drewN ?_ _ | refine Keeps.drew ?_ | refine Keeps.alloc ?_ _))).then_ hk5; have HW6 := Lib.hid (HW5.out.then_ hkk); have HGT6 := Lib.hid (hkk.blk HGT5.out (fun h => h)); have HGG6 := Lib.hid (hkk.blk HGG5.out (fun h => h)); have hsz6 : w5.heap.size ≤ w6.heap.size := hkk.size; have HR6 : Hid (ConR (fun i => w.heap.size ≤ i) w6 _ _) := Lib.hid (hr.mono (fun i hi => by have h2 : w5.heap.size ≤ i := hi; omega)); have HR56 := Lib.hid (HR5.out.keep hkk (fun _ _ h => h)); have gv6 := blkCell HGG6.out 3; simp only [List.getElem?_toArray, List.getElem?_cons_zero, List.getElem?_cons_succ] at gv6; have gl6 := blkLt HGG6.out; have tl6 := blkLt HGT6.out; obtain ⟨t06, t16, t26, t36, t46, t56⟩ := cells6 HGT6.out; clear hr hk5 hkk))
      | (refine step_app rfl _ _ 25 25 (by rfl) w.heap.size 92 _ 6 80 Tryz.underlying25 infoIncl1 rfl (by decide) (by decide) (.slice none 0 0) 0 [] (World.ownsRow_nil _ _ _ _) (by rfl) (.slice (some ⟨w6.heap.size, 0, none⟩) 1 1) 1 [.int .i64 c.op, .int .i64 c.n, .slice D1 c.args.length f1, .int .i64 d.op, .int .i64 d.n, .slice D2 d.args.length f2] (Src.ofBlock Tryz.underlying25 (cs := #[.int .i64 c.op, .int .i64 c.n, .slice D1 c.args.length f1, .int .i64 d.op, .int .i64 d.n, .slice D2 d.args.length f2]) (blkNew (by first | rfl | simp)) (by rfl) (by simp [Value.oneCell'])) (by rfl) (by decide) (by omega) (by simp; omega) ?_; intro h cap w7 ho3 hk3 hat hcap3 hlt3; have HO3 := Lib.hid ho3; have hk3e := hk3.emp; have HK7 := Lib.hid (HW6.out.then_ ((show Keeps (fun _ => False) w6 _ from (by repeat (first | exact Keeps.refl _ _ | refine Keeps.drewN ?_ _ | refine Keeps.drew ?_ | refine Keeps.alloc ?_ _))).then_ hk3e)); have HKL := Lib.hid ((show Keeps (fun _ => False) w6 _ from (by repeat (first | exact Keeps.refl _ _ | refine Keeps.drewN ?_ _ | refine Keeps.drew ?_ | refine Keeps.alloc ?_ _))).then_ hk3e); have HG7 := Lib.hid (HKL.out.blk HGG6.out (fun h => h)); have gf7 := blkFree HG7.out 3; have gv7 := blkCell HG7.out 3; simp only [List.getElem?_toArray, List.getElem?_cons_zero, List.getElem?_cons_succ] at gv7; clear ho3 hk3 hat hk3e)
      | fail)
  all_goals
    obtain ⟨q1, q2, q3, q4⟩ := ownOne HO3.out
    have hk8 : Keeps (fun i => i = g) w7 (w7.setCell ⟨g, 3, none⟩ (.slice (some ⟨h, 0, none⟩) (0 + 1) cap)) := Keeps.set1 _ _ _ _
    have hb8 := blkSet HG7.out 3 (.slice (some ⟨h, 0, none⟩) (0 + 1) cap)
    go_wp2_with fail
    refine bodyPost_end (results_none (by rfl) _ _ _) (by rfl) ?_
    refine ⟨⟨_, rfl⟩, h, cap, hb8, q3, fun _ => ⟨h, 0, rfl, q1, fun i hi => ?_⟩, HK7.out.of0.then_ hk8⟩
    obtain rfl : i = 0 := by simpa using hi
    exact ⟨D1, f1, D2, f2, hk8.cell (q4 0 _ rfl) (by omega), hk8.cell (q4 1 _ rfl) (by omega), hk8.cell (q4 2 _ rfl) (by omega), hk8.cell (q4 3 _ rfl) (by omega), hk8.cell (q4 4 _ rfl) (by omega), hk8.cell (q4 5 _ rfl) (by omega), (HR56.out.keep HKL.out (fun _ _ h => h)).keep hk8 (fun k hk e => by omega), (HR6.out.keep HKL.out (fun _ _ h => h)).keep hk8 (fun k hk e => by omega)⟩
set_option maxRecDepth 100000 in
set_option maxHeartbeats 4000000 in
theorem add_role_calls (r s : Int) (g : Nat) (n0 n1 n2 : Value) (w : World) (hg : w.heap[g]? = some (.cells (noAx n0 n1 n2) 30 (0, 0))) :
    Calls Tryz.prog 169 #[.agg #[.int .i64 r, .int .i64 s], .pointer (some ⟨g, 0, none⟩)] w fun e w' => (∃ u, e = .returned u) ∧ ∃ h cap, w'.heap[g]? = some (.cells #[n0, n1, n2, .slice none 0 0, .slice (some ⟨h, 0, none⟩) 1 cap, .slice none 0 0, .slice none 0 0] 30 (0, 0)) ∧ 1 ≤ cap ∧ RolesR (fun k => w.heap.size ≤ k) w' [(r, s)] (some ⟨h, 0, none⟩) ∧ Keeps (fun i => i = g) w w' := by
  have hgl := blkLt hg
  have HGG := Lib.hid hg
  clear hg
  go_enter Tryz.func169, Tryz.ntmps169
  go_wp2_with fail
  generalize hW4 : World.alloc _ _ = W4
  have hK4 : Keeps (fun _ => False) w W4 := by rw [← hW4]; repeat (first | exact Keeps.refl _ _ | refine Keeps.drewN ?_ _ | refine Keeps.drew ?_ | refine Keeps.alloc ?_ _ | refine Keeps.set ?_ (Or.inl (by rfl)) _)
  have hg4 : W4.heap[w.heap.size]? = some (.cells #[.int .i64 r, .int .i64 s] 163 (0, 0)) := by rw [← hW4]; exact blkNew rfl
  clear hW4
  have hgg := hK4.blk HGG.out (fun h => h)
  have gv4 := blkCell hgg 4
  simp only [List.getElem?_toArray, List.getElem?_cons_zero, List.getElem?_cons_succ] at gv4
  have gf4 := blkFree hgg 4
  have gl4 := blkLt hgg
  have tl4 := blkLt hg4
  obtain ⟨t0, t1⟩ := cells2 hg4
  have HGT4 := Lib.hid hg4
  have HGG4 := Lib.hid hgg
  have HW4 := Lib.hid hK4
  have hz4 : w.heap.size ≤ W4.heap.size := hK4.size
  clear hg4 hK4 hgg HGG
  go_region_law
    (first
      | (refine step_app rfl _ _ 26 26 (by rfl) w.heap.size 84 _ 2 16 Tryz.underlying26 infoRole1 rfl (by decide) (by decide) (.slice none 0 0) 0 [] (World.ownsRow_nil _ _ _ _) (by rfl) (.slice (some ⟨W4.heap.size, 0, none⟩) 1 1) 1 [.int .i64 r, .int .i64 s] (Src.ofBlock Tryz.underlying26 (cs := #[.int .i64 r, .int .i64 s]) (blkNew (by first | rfl | simp)) (by rfl) (by simp [Value.oneCell'])) (by rfl) (by decide) (by omega) (by simp; omega) ?_; intro h cap w7 ho3 hk3 hat hcap3 hlt3; have HO3 := Lib.hid ho3; have hk3e := hk3.emp; have HK7 := Lib.hid (HW4.out.then_ ((show Keeps (fun _ => False) W4 _ from (by repeat (first | exact Keeps.refl _ _ | refine Keeps.drewN ?_ _ | refine Keeps.drew ?_ | refine Keeps.alloc ?_ _))).then_ hk3e)); have HKL := Lib.hid ((show Keeps (fun _ => False) W4 _ from (by repeat (first | exact Keeps.refl _ _ | refine Keeps.drewN ?_ _ | refine Keeps.drew ?_ | refine Keeps.alloc ?_ _))).then_ hk3e); have HG7 := Lib.hid (HKL.out.blk HGG4.out (fun h => h)); have gf7 := blkFree HG7.out 4; have gv7 := blkCell HG7.out 4; simp only [List.getElem?_toArray, List.getElem?_cons_zero, List.getElem?_cons_succ] at gv7; clear ho3 hk3 hat hk3e)
      | fail)
  all_goals
    obtain ⟨q1, q2, q3, q4⟩ := ownOne HO3.out
    have hk8 : Keeps (fun i => i = g) w7 (w7.setCell ⟨g, 4, none⟩ (.slice (some ⟨h, 0, none⟩) (0 + 1) cap)) := Keeps.set1 _ _ _ _
    have hb8 := blkSet HG7.out 4 (.slice (some ⟨h, 0, none⟩) (0 + 1) cap)
    go_wp2_with fail
    refine bodyPost_end (results_none (by rfl) _ _ _) (by rfl) ?_
    refine ⟨⟨_, rfl⟩, h, cap, hb8, q3, fun _ => ⟨h, 0, rfl, q1, fun i hi => ?_⟩, HK7.out.of0.then_ hk8⟩
    obtain rfl : i = 0 := by simpa using hi
    exact ⟨hk8.cell (q4 0 _ rfl) (by omega), hk8.cell (q4 1 _ rfl) (by omega)⟩
set_option maxRecDepth 100000 in
set_option maxHeartbeats 4000000 in
theorem add_fact_calls (x : Int) (c : Con) (A1 : Option Addr) (e1 : Nat) (ok : Nat → Prop) (g : Nat) (n0 n1 n2 : Value) (w : World) (hg : w.heap[g]? = some (.cells (noAx n0 n1 n2) 30 (0, 0))) (s1 : shapeC c = true) (r1 : ConR ok w c [.int .i64 c.op, .int .i64 c.n, .slice A1 c.args.length e1]) :
    Calls Tryz.prog 171 #[.agg #[.int .i64 x, .int .i64 c.op, .int .i64 c.n, .slice A1 c.args.length e1], .pointer (some ⟨g, 0, none⟩)] w fun e w' => (∃ u, e = .returned u) ∧ ∃ h cap, w'.heap[g]? = some (.cells #[n0, n1, n2, .slice none 0 0, .slice none 0 0, .slice (some ⟨h, 0, none⟩) 1 cap, .slice none 0 0] 30 (0, 0)) ∧ 1 ≤ cap ∧ FactsR (fun k => w.heap.size ≤ k) w' [(x, c)] (some ⟨h, 0, none⟩) ∧ Keeps (fun i => i = g) w w' := by
  have HCP1 : Hid (∀ W, Keeps (fun _ => False) w W → Calls Tryz.prog 168 #[.agg #[.int .i64 c.op, .int .i64 c.n, .slice A1 c.args.length e1]] W (RetCon c W)) := fun W hk => copied_calls _ c A1 e1 ok W (Nat.lt_succ_self _) s1 (r1.keep hk (fun _ _ h => h))
  have hgl := blkLt hg
  have HGG := Lib.hid hg
  clear s1 r1 hg
  go_enter Tryz.func171, Tryz.ntmps171
  go_wp2_with fail
  generalize hW4 : World.alloc _ _ = W4
  have hK4 : Keeps (fun _ => False) w W4 := by rw [← hW4]; repeat (first | exact Keeps.refl _ _ | refine Keeps.drewN ?_ _ | refine Keeps.drew ?_ | refine Keeps.alloc ?_ _ | refine Keeps.set ?_ (Or.inl (by rfl)) _)
  have hg4 : W4.heap[w.heap.size]? = some (.cells #[.int .i64 x, .int .i64 c.op, .int .i64 c.n, .slice A1 c.args.length e1] 164 (0, 0)) := by rw [← hW4]; exact blkNew rfl
  clear hW4
  have hgg := hK4.blk HGG.out (fun h => h)
  have gv4 := blkCell hgg 5
  simp only [List.getElem?_toArray, List.getElem?_cons_zero, List.getElem?_cons_succ] at gv4
  have gf4 := blkFree hgg 5
  have gl4 := blkLt hgg
  have tl4 := blkLt hg4
  obtain ⟨t0, t1, t2, t3⟩ := cells4 hg4
  have HGT4 := Lib.hid hg4
  have HGG4 := Lib.hid hgg
  have HW4 := Lib.hid hK4
  have hz4 : w.heap.size ≤ W4.heap.size := hK4.size
  clear hg4 hK4 hgg HGG
  go_region_law
    (first
      | (refine step_call (by rfl) 168 #[.agg #[.int .i64 c.op, .int .i64 c.n, .slice A1 c.args.length e1]] (by first | (go_simp; done) | (go_simp; rfl)) ?_; refine (HCP1.out _ (by repeat (first | exact HW4.out | refine Keeps.drewN ?_ _ | refine Keeps.drew ?_ | refine Keeps.alloc ?_ _))).mono ?_; clear HCP1; rintro e w5 ⟨D1, f1, rfl, hr, hk5⟩; refine ⟨_, rfl, ?_⟩; go_must (have hkk := (show Keeps (fun _ => False) W4 _ from (by repeat (first | exact Keeps.refl _ _ | refine Keeps.drewN ?_ _ | refine Keeps.drew ?_ | refine Keeps.alloc ?_ _))).then_ hk5; have HW5 := Lib.hid (HW4.out.then_ hkk); have HGT5 := Lib.hid (hkk.blk HGT4.out (fun h => h)); have HGG5 := Lib.hid (hkk.blk HGG4.out (fun h => h)); have hsz5 : W4.heap.size ≤ w5.heap.size := hkk.size; have HR5 : Hid (ConR (fun i => w.heap.size ≤ i) w5 _ _) := Lib.hid (hr.mono (fun i hi => by have h2 : W4.heap.size ≤ i := hi; omega)); have gv5 := blkCell HGG5.out 5; simp only [List.getElem?_toArray, List.getElem?_cons_zero, List.getElem?_cons_succ] at gv5; have gl5 := blkLt HGG5.out; have tl5 := blkLt HGT5.out; obtain ⟨t05, t15, t25, t35⟩ := cells4 HGT5.out; clear hr hk5 hkk))
      | (refine step_app rfl _ _ 27 27 (by rfl) w.heap.size 87 _ 4 48 Tryz.underlying27 infoFact1 rfl (by decide) (by decide) (.slice none 0 0) 0 [] (World.ownsRow_nil _ _ _ _) (by rfl) (.slice (some ⟨w5.heap.size, 0, none⟩) 1 1) 1 [.int .i64 x, .int .i64 c.op, .int .i64 c.n, .slice D1 c.args.length f1] (Src.ofBlock Tryz.underlying27 (cs := #[.int .i64 x, .int .i64 c.op, .int .i64 c.n, .slice D1 c.args.length f1]) (blkNew (by first | rfl | simp)) (by rfl) (by simp [Value.oneCell'])) (by rfl) (by decide) (by omega) (by simp; omega) ?_; intro h cap w7 ho3 hk3 hat hcap3 hlt3; have HO3 := Lib.hid ho3; have hk3e := hk3.emp; have HK7 := Lib.hid (HW5.out.then_ ((show Keeps (fun _ => False) w5 _ from (by repeat (first | exact Keeps.refl _ _ | refine Keeps.drewN ?_ _ | refine Keeps.drew ?_ | refine Keeps.alloc ?_ _))).then_ hk3e)); have HKL := Lib.hid ((show Keeps (fun _ => False) w5 _ from (by repeat (first | exact Keeps.refl _ _ | refine Keeps.drewN ?_ _ | refine Keeps.drew ?_ | refine Keeps.alloc ?_ _))).then_ hk3e); have HG7 := Lib.hid (HKL.out.blk HGG5.out (fun h => h)); have gf7 := blkFree HG7.out 5; have gv7 := blkCell HG7.out 5; simp only [List.getElem?_toArray, List.getElem?_cons_zero, List.getElem?_cons_succ] at gv7; clear ho3 hk3 hat hk3e)
      | fail)
  all_goals
    obtain ⟨q1, q2, q3, q4⟩ := ownOne HO3.out
    have hk8 : Keeps (fun i => i = g) w7 (w7.setCell ⟨g, 5, none⟩ (.slice (some ⟨h, 0, none⟩) (0 + 1) cap)) := Keeps.set1 _ _ _ _
    have hb8 := blkSet HG7.out 5 (.slice (some ⟨h, 0, none⟩) (0 + 1) cap)
    go_wp2_with fail
    refine bodyPost_end (results_none (by rfl) _ _ _) (by rfl) ?_
    refine ⟨⟨_, rfl⟩, h, cap, hb8, q3, fun _ => ⟨h, 0, rfl, q1, fun i hi => ?_⟩, HK7.out.of0.then_ hk8⟩
    obtain rfl : i = 0 := by simpa using hi
    exact ⟨D1, f1, hk8.cell (q4 0 _ rfl) (by omega), hk8.cell (q4 1 _ rfl) (by omega), hk8.cell (q4 2 _ rfl) (by omega), hk8.cell (q4 3 _ rfl) (by omega), (HR5.out.keep HKL.out (fun _ _ h => h)).keep hk8 (fun k hk e => by omega)⟩
set_option maxRecDepth 100000 in
set_option maxHeartbeats 4000000 in
theorem add_link_calls (r f t : Int) (g : Nat) (n0 n1 n2 : Value) (w : World) (hg : w.heap[g]? = some (.cells (noAx n0 n1 n2) 30 (0, 0))) :
    Calls Tryz.prog 173 #[.agg #[.int .i64 r, .int .i64 f, .int .i64 t], .pointer (some ⟨g, 0, none⟩)] w fun e w' => (∃ u, e = .returned u) ∧ ∃ h cap, w'.heap[g]? = some (.cells #[n0, n1, n2, .slice none 0 0, .slice none 0 0, .slice none 0 0, .slice (some ⟨h, 0, none⟩) 1 cap] 30 (0, 0)) ∧ 1 ≤ cap ∧ LinksR (fun k => w.heap.size ≤ k) w' [(r, f, t)] (some ⟨h, 0, none⟩) ∧ Keeps (fun i => i = g) w w' := by
  have hgl := blkLt hg
  have HGG := Lib.hid hg
  clear hg
  go_enter Tryz.func173, Tryz.ntmps173
  go_wp2_with fail
  generalize hW4 : World.alloc _ _ = W4
  have hK4 : Keeps (fun _ => False) w W4 := by rw [← hW4]; repeat (first | exact Keeps.refl _ _ | refine Keeps.drewN ?_ _ | refine Keeps.drew ?_ | refine Keeps.alloc ?_ _ | refine Keeps.set ?_ (Or.inl (by rfl)) _)
  have hg4 : W4.heap[w.heap.size]? = some (.cells #[.int .i64 r, .int .i64 f, .int .i64 t] 165 (0, 0)) := by rw [← hW4]; exact blkNew rfl
  clear hW4
  have hgg := hK4.blk HGG.out (fun h => h)
  have gv4 := blkCell hgg 6
  simp only [List.getElem?_toArray, List.getElem?_cons_zero, List.getElem?_cons_succ] at gv4
  have gf4 := blkFree hgg 6
  have gl4 := blkLt hgg
  have tl4 := blkLt hg4
  obtain ⟨t0, t1, t2⟩ := cells3 hg4
  have HGT4 := Lib.hid hg4
  have HGG4 := Lib.hid hgg
  have HW4 := Lib.hid hK4
  have hz4 : w.heap.size ≤ W4.heap.size := hK4.size
  clear hg4 hK4 hgg HGG
  go_region_law
    (first
      | (refine step_app rfl _ _ 28 28 (by rfl) w.heap.size 89 _ 3 24 Tryz.underlying28 infoLink1 rfl (by decide) (by decide) (.slice none 0 0) 0 [] (World.ownsRow_nil _ _ _ _) (by rfl) (.slice (some ⟨W4.heap.size, 0, none⟩) 1 1) 1 [.int .i64 r, .int .i64 f, .int .i64 t] (Src.ofBlock Tryz.underlying28 (cs := #[.int .i64 r, .int .i64 f, .int .i64 t]) (blkNew (by first | rfl | simp)) (by rfl) (by simp [Value.oneCell'])) (by rfl) (by decide) (by omega) (by simp; omega) ?_; intro h cap w7 ho3 hk3 hat hcap3 hlt3; have HO3 := Lib.hid ho3; have hk3e := hk3.emp; have HK7 := Lib.hid (HW4.out.then_ ((show Keeps (fun _ => False) W4 _ from (by repeat (first | exact Keeps.refl _ _ | refine Keeps.drewN ?_ _ | refine Keeps.drew ?_ | refine Keeps.alloc ?_ _))).then_ hk3e)); have HKL := Lib.hid ((show Keeps (fun _ => False) W4 _ from (by repeat (first | exact Keeps.refl _ _ | refine Keeps.drewN ?_ _ | refine Keeps.drew ?_ | refine Keeps.alloc ?_ _))).then_ hk3e); have HG7 := Lib.hid (HKL.out.blk HGG4.out (fun h => h)); have gf7 := blkFree HG7.out 6; have gv7 := blkCell HG7.out 6; simp only [List.getElem?_toArray, List.getElem?_cons_zero, List.getElem?_cons_succ] at gv7; clear ho3 hk3 hat hk3e)
      | fail)
  all_goals
    obtain ⟨q1, q2, q3, q4⟩ := ownOne HO3.out
    have hk8 : Keeps (fun i => i = g) w7 (w7.setCell ⟨g, 6, none⟩ (.slice (some ⟨h, 0, none⟩) (0 + 1) cap)) := Keeps.set1 _ _ _ _
    have hb8 := blkSet HG7.out 6 (.slice (some ⟨h, 0, none⟩) (0 + 1) cap)
    go_wp2_with fail
    refine bodyPost_end (results_none (by rfl) _ _ _) (by rfl) ?_
    refine ⟨⟨_, rfl⟩, h, cap, hb8, q3, fun _ => ⟨h, 0, rfl, q1, fun i hi => ?_⟩, HK7.out.of0.then_ hk8⟩
    obtain rfl : i = 0 := by simpa using hi
    exact ⟨hk8.cell (q4 0 _ rfl) (by omega), hk8.cell (q4 1 _ rfl) (by omega), hk8.cell (q4 2 _ rfl) (by omega)⟩
end Go.Proofs.YthiclhbnggehoaaGreatDoor
