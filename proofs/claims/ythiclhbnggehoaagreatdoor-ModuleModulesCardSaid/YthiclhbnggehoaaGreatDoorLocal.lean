/- module: whether an axiom is local, as a judge judges it. -/
import Derived.Test.YthiclhbnggehoaaGreatDoorJudge
import Derived.Test.YthiclhbnggehoaaGreatDoorPKb
import Derived.Deep.RegionLaw
namespace Go.Proofs.YthiclhbnggehoaaGreatDoor
open Go.RowKit
set_option linter.unusedVariables false
set_option linter.unusedSimpArgs false
theorem getD_app_left {α : Type} (l m : List α) (k : Nat) (d : α) (h : k < l.length) : (l ++ m).getD k d = l.getD k d := by simp [List.getD, List.getElem?_append_left h]
theorem getD_app_right {α : Type} (l m : List α) (k : Nat) (d : α) : (l ++ m).getD (l.length + k) d = m.getD k d := by simp [List.getD, List.getElem?_append_right]
theorem axAt_incl {b : Kb} {k : Nat} (h : k < b.incls.length) : axAt b k = .incl b.incls[k].1 b.incls[k].2 := by
  unfold axAt axs
  rw [getD_app_left _ _ _ _ (by simp; omega), getD_app_left _ _ _ _ (by simp; omega), getD_app_left _ _ _ _ (by simp; omega)]
  simp [List.getD, h]
theorem axAt_role {b : Kb} {k : Nat} (h : k < b.roles.length) : axAt b (b.incls.length + k) = .role b.roles[k].1 b.roles[k].2 := by
  unfold axAt axs
  rw [getD_app_left _ _ _ _ (by simp; omega), getD_app_left _ _ _ _ (by simp; omega)]
  have := getD_app_right (b.incls.map (fun x => Ax.incl x.1 x.2)) (b.roles.map (fun x => Ax.role x.1 x.2)) k (.role 0 0)
  rw [List.length_map] at this
  rw [this]
  simp [List.getD, h]
theorem axAt_fact {b : Kb} {k : Nat} (h : k < b.facts.length) : axAt b (b.incls.length + b.roles.length + k) = .fact b.facts[k].1 b.facts[k].2 := by
  unfold axAt axs
  rw [getD_app_left _ _ _ _ (by simp; omega)]
  have := getD_app_right (b.incls.map (fun x => Ax.incl x.1 x.2) ++ b.roles.map (fun x => Ax.role x.1 x.2)) (b.facts.map (fun x => Ax.fact x.1 x.2)) k (.role 0 0)
  rw [List.length_append, List.length_map, List.length_map] at this
  rw [this]
  simp [List.getD, h]
theorem axAt_link {b : Kb} {k : Nat} (h : k < b.links.length) : axAt b (b.incls.length + b.roles.length + b.facts.length + k) = .link b.links[k].1 b.links[k].2.1 b.links[k].2.2 := by
  unfold axAt axs
  have := getD_app_right (b.incls.map (fun x => Ax.incl x.1 x.2) ++ b.roles.map (fun x => Ax.role x.1 x.2) ++ b.facts.map (fun x => Ax.fact x.1 x.2)) (b.links.map (fun x => Ax.link x.1 x.2.1 x.2.2)) k (.role 0 0)
  rw [List.length_append, List.length_append, List.length_map, List.length_map, List.length_map] at this
  rw [this]
  simp [List.getD, h]
/-- A call that returns a Bool. -/
def RetB (x : Bool) (w : World) (e : Ending) (w' : World) : Prop := e = .returned (.bool x) ∧ Keeps (fun _ => False) w w'
/-- What the walks of local ask of a knowledge base. -/
structure KbFit (b : Kb) : Prop where
  n : b.rs.length ≤ 100000
  i : ∀ x ∈ b.incls, fitC b.cs.length b.rs.length x.1 = true ∧ fitC b.cs.length b.rs.length x.2 = true
  r : ∀ x ∈ b.roles, (0 ≤ x.1 ∧ x.1 < 2 * b.rs.length) ∧ 0 ≤ x.2 ∧ x.2 < 2 * b.rs.length
  f : ∀ x ∈ b.facts, fitC b.cs.length b.rs.length x.2 = true
  l : ∀ x ∈ b.links, 0 ≤ x.1 ∧ x.1 < b.rs.length

theorem fieldS0 (x y : Bool) (w : World) : (Instr.field 112 (.agg #[.bool x, .bool y]) 0).run Tryz.prog w = .ok (.bool x) w := by kernel_rfl
theorem fieldS1 (x y : Bool) (w : World) : (Instr.field 112 (.agg #[.bool x, .bool y]) 1).run Tryz.prog w = .ok (.bool y) w := by kernel_rfl
theorem outV_eq (top : Bool) : outV top = .iface (if top then 142 else 141) (.agg #[]) := by cases top <;> rfl
set_option maxRecDepth 100000 in
set_option maxHeartbeats 4000000 in
theorem local1_calls (top : Bool) (C R : List Int) (b : Kb) (p : KbA) (b1 b2 g k : Nat) (ok : Nat → Prop) (w : World) (hb : KbR ok w b p) (hv : KbFit b) (hj : JudgeR w C R b1 b2 g) (hk : k < b.incls.length) (hlen : b.incls.length ≤ 1000000) :
    Calls Tryz.prog 46 #[JV top b1 b2 g, .agg #[.slice p.a0 b.cs.length p.c0, .slice p.a1 b.rs.length p.c1, .slice p.a2 b.is.length p.c2, .slice p.a3 b.incls.length p.c3, .slice p.a4 b.roles.length p.c4, .slice p.a5 b.facts.length p.c5, .slice p.a6 b.links.length p.c6], .int .i64 k] w (RetB (localX top (inL C) (inL R) (.incl b.incls[k].1 b.incls[k].2)) w) := by
  have hxm : b.incls[k] ∈ b.incls := List.getElem_mem _
  obtain ⟨bb, o, ha3, hbb, hcl⟩ := hb.incls (by intro h; rw [h] at hk; simp at hk)
  obtain ⟨A1, c1, A2, c2, e0, e1, e2, e3, e4, e5, r1, r2⟩ := hcl k hk
  have hof1 : ∀ W, Keeps (fun _ => False) w W → Calls Tryz.prog 55 #[JV top b1 b2 g, conV b.incls[k].1 A1 c1] W (RetSt (shapeM top (inL C) (inL R) b.incls[k].1) W) :=
    fun W hK => jof_calls top C R _ _ hv.n _ _ A1 c1 b1 b2 g ok W (Nat.lt_succ_self _) (hv.i _ hxm).1 (r1.keep hK (fun _ _ h => h)) (hj.still hK)
  have hof2 : ∀ W, Keeps (fun _ => False) w W → Calls Tryz.prog 55 #[JV top b1 b2 g, conV b.incls[k].2 A2 c2] W (RetSt (shapeM top (inL C) (inL R) b.incls[k].2) W) :=
    fun W hK => jof_calls top C R _ _ hv.n _ _ A2 c2 b1 b2 g ok W (Nat.lt_succ_self _) (hv.i _ hxm).2 (r2.keep hK (fun _ _ h => h)) (hj.still hK)
  simp only [localX]
  generalize shapeM top (inL C) (inL R) b.incls[k].1 = q1 at *
  generalize shapeM top (inL C) (inL R) b.incls[k].2 = q2 at *
  generalize b.incls[k].1 = d1 at *
  generalize b.incls[k].2 = d2 at *
  obtain ⟨op1, n1, args1⟩ := d1
  obtain ⟨op2, n2, args2⟩ := d2
  unfold conV JV at hof1 hof2
  simp only [Con.op, Con.n, Con.args] at *
  have HJ := Lib.hid hj
  have HB := Lib.hid hb
  obtain ⟨T, hT⟩ : ∃ T, outV top = .iface T (.agg #[]) := ⟨_, outV_eq top⟩
  have HT := Lib.hid hT
  unfold JV
  rw [hT]
  rw [hT] at hof1 hof2
  have HO1 := Lib.hid hof1
  have HO2 := Lib.hid hof2
  have HE : Hid (∀ w', Keeps (fun _ => False) w w' → w'.cell? ⟨bb, o + k * 6, none⟩ = some (.int .i64 op1) ∧ w'.cell? ⟨bb, o + k * 6 + 1, none⟩ = some (.int .i64 n1) ∧ w'.cell? ⟨bb, o + k * 6 + 2, none⟩ = some (.slice A1 args1.length c1) ∧ w'.cell? ⟨bb, o + k * 6 + 3, none⟩ = some (.int .i64 op2) ∧ w'.cell? ⟨bb, o + k * 6 + 3 + 1, none⟩ = some (.int .i64 n2) ∧ w'.cell? ⟨bb, o + k * 6 + 3 + 2, none⟩ = some (.slice A2 args2.length c2)) :=
    fun w' hK => ⟨hK.cell e0 (fun h => h), hK.cell e1 (fun h => h), hK.cell e2 (fun h => h), hK.cell e3 (fun h => h), hK.cell e4 (fun h => h), hK.cell e5 (fun h => h)⟩
  clear hof1 hof2 e0 e1 e2 e3 e4 e5 r1 r2 hcl hxm hj hb
  have hk1 : (k : Int) < b.incls.length := by omega
  have hk0 : (0 : Int) ≤ k := by omega
  obtain ⟨a0, a1, a2, a3, a4, a5, a6, cc0, cc1, cc2, cc3, cc4, cc5, cc6⟩ := p
  simp only at ha3 ⊢
  subst ha3
  go_enter Tryz.func46, Tryz.ntmps46
  go_wp2_with fail
  generalize hW0 : World.alloc _ _ = W0
  have hK0 : Keeps (fun _ => False) w W0 := by rw [← hW0]; repeat (first | exact Keeps.refl _ _ | refine Keeps.drewN ?_ _ | refine Keeps.drew ?_ | refine Keeps.alloc ?_ _ | refine Keeps.set ?_ (Or.inl (by rfl)) _)
  have hb0 : W0.heap[w.heap.size]? = some (.cells #[.iface T (.agg #[]), .map (some b1), .map (some b2), .pointer (some ⟨g, 0, none⟩)] 101 (0, 0)) := by rw [← hW0]; exact blkAlloc (blkNew rfl) _
  have hb1 : W0.heap[w.heap.size + 1]? = some (.cells #[.slice a0 b.cs.length cc0, .slice a1 b.rs.length cc1, .slice a2 b.is.length cc2, .slice (some ⟨bb, o, none⟩) b.incls.length cc3, .slice a4 b.roles.length cc4, .slice a5 b.facts.length cc5, .slice a6 b.links.length cc6] 30 (0, 0)) := by rw [← hW0]; exact blkNew (by simp)
  clear hW0
  have HK0 := Lib.hid hK0
  have HB0 := Lib.hid hb0
  have HB1 := Lib.hid hb1
  have hH : ∀ w', Keeps (fun _ => False) W0 w' → (w'.cell? ⟨w.heap.size, 0, none⟩ = some (.iface T (.agg #[])) ∧ w'.cell? ⟨w.heap.size, 1, none⟩ = some (.map (some b1)) ∧ w'.cell? ⟨w.heap.size, 2, none⟩ = some (.map (some b2)) ∧ w'.cell? ⟨w.heap.size, 3, none⟩ = some (.pointer (some ⟨g, 0, none⟩)) ∧ w'.cell? ⟨w.heap.size + 1, 3, none⟩ = some (.slice (some ⟨bb, o, none⟩) b.incls.length cc3) ∧ w'.cell? ⟨bb, o + k * 6, none⟩ = some (.int .i64 op1) ∧ w'.cell? ⟨bb, o + k * 6 + 1, none⟩ = some (.int .i64 n1) ∧ w'.cell? ⟨bb, o + k * 6 + 2, none⟩ = some (.slice A1 args1.length c1) ∧ w'.cell? ⟨bb, o + k * 6 + 3, none⟩ = some (.int .i64 op2) ∧ w'.cell? ⟨bb, o + k * 6 + 3 + 1, none⟩ = some (.int .i64 n2) ∧ w'.cell? ⟨bb, o + k * 6 + 3 + 2, none⟩ = some (.slice A2 args2.length c2)) := by
    intro w' hK
    obtain ⟨x0, x1, x2, x3⟩ := cells4 (hK.blk HB0.out (fun h => h))
    obtain ⟨z0, z1, z2, z3, z4, z5⟩ := HE.out w' (HK0.out.then_ hK)
    exact ⟨x0, x1, x2, x3, (blkCell (hK.blk HB1.out (fun h => h)) 3).trans rfl, z0, z1, z2, z3, z4, z5⟩
  have HH := Lib.hid hH
  clear hK0 hb0 hb1 hH
  have fs0 := fieldS0
  have fs1 := fieldS1
  cases hq : q1.1
  · go_region_held3 (fun w' => (w'.cell? ⟨w.heap.size, 0, none⟩ = some (.iface T (.agg #[])) ∧ w'.cell? ⟨w.heap.size, 1, none⟩ = some (.map (some b1)) ∧ w'.cell? ⟨w.heap.size, 2, none⟩ = some (.map (some b2)) ∧ w'.cell? ⟨w.heap.size, 3, none⟩ = some (.pointer (some ⟨g, 0, none⟩)) ∧ w'.cell? ⟨w.heap.size + 1, 3, none⟩ = some (.slice (some ⟨bb, o, none⟩) b.incls.length cc3) ∧ w'.cell? ⟨bb, o + k * 6, none⟩ = some (.int .i64 op1) ∧ w'.cell? ⟨bb, o + k * 6 + 1, none⟩ = some (.int .i64 n1) ∧ w'.cell? ⟨bb, o + k * 6 + 2, none⟩ = some (.slice A1 args1.length c1) ∧ w'.cell? ⟨bb, o + k * 6 + 3, none⟩ = some (.int .i64 op2) ∧ w'.cell? ⟨bb, o + k * 6 + 3 + 1, none⟩ = some (.int .i64 n2) ∧ w'.cell? ⟨bb, o + k * 6 + 3 + 2, none⟩ = some (.slice A2 args2.length c2)))
      (first | exact HH.out _ (Keeps.refl _ _) | exact HH.out _ (Keeps.refl _ _).drew | exact HH.out _ HK2.out | exact HH.out _ (HK2.out.then_ HK3.out))
      ((first
        | ((with_reducible show Calls _ _ #[_, .agg #[.int .i64 op1, _, _]] _ _); go_at_call 55; refine (HO1.out W0.drew (HK0.out.drew)).mono ?_; rintro e w2 ⟨rfl, hk2⟩; (try simp only [hq]); have HK2 := Lib.hid hk2.undrew; clear hk2)
        | ((with_reducible show Calls _ _ #[_, .agg #[.int .i64 op2, _, _]] _ _); go_at_call 55; refine (HO2.out w2 (HK0.out.then_ HK2.out)).mono ?_; rintro e w3 ⟨rfl, hk3⟩; have HK3 := Lib.hid hk3; clear hk3)))
    all_goals
      go_wp2_with fail
      go_ret
      exact ⟨by simp [hq], HK0.out.then_ (HK2.out.then_ HK3.out)⟩
  · obtain ⟨x0, x1, x2, x3, x4, x5, x6, x7, x8, x9, x10⟩ := HH.out _ (Keeps.refl _ _)
    first
    | (go_region_law
        (first
          | (refine step_call (by rfl) 55 #[.agg #[.iface T (.agg #[]), .map (some b1), .map (some b2), .pointer (some ⟨g, 0, none⟩)], .agg #[.int .i64 op1, .int .i64 n1, .slice A1 args1.length c1]] (by first | (go_simp; done) | (go_simp; rfl)) ?_; refine (HO1.out W0.drew (HK0.out.drew)).mono ?_; rintro e w2 ⟨rfl, hk2⟩; refine ⟨_, rfl, ?_⟩; (try simp only [hq]); have HK2 := Lib.hid hk2.undrew; clear hk2)
          | fail))
    | fail
    all_goals
      go_wp2_with fail
      go_ret
      exact ⟨by simp [hq, Act.put], HK0.out.then_ HK2.out⟩
end Go.Proofs.YthiclhbnggehoaaGreatDoor
/- module: whether a role inclusion, a fact or a link is local. -/
namespace Go.Proofs.YthiclhbnggehoaaGreatDoor
open Go.RowKit
set_option linter.unusedVariables false
set_option linter.unusedSimpArgs false
set_option maxRecDepth 100000 in
set_option maxHeartbeats 4000000 in
theorem local2n_calls (C R : List Int) (b : Kb) (p : KbA) (b1 b2 g k : Nat) (ok : Nat → Prop) (w : World) (hb : KbR ok w b p) (hv : KbFit b) (hj : JudgeR w C R b1 b2 g) (hk : k < b.roles.length) (hl1 : b.incls.length ≤ 1000000) (hl2 : b.roles.length ≤ 1000000) (hl3 : b.facts.length ≤ 1000000) (hl4 : b.links.length ≤ 1000000) :
    Calls Tryz.prog 46 #[JV false b1 b2 g, .agg #[.slice p.a0 b.cs.length p.c0, .slice p.a1 b.rs.length p.c1, .slice p.a2 b.is.length p.c2, .slice p.a3 b.incls.length p.c3, .slice p.a4 b.roles.length p.c4, .slice p.a5 b.facts.length p.c5, .slice p.a6 b.links.length p.c6], .int .i64 ((b.incls.length + k : Nat) : Int)] w (RetB (localX false (inL C) (inL R) (.role b.roles[k].1 b.roles[k].2)) w) := by
  have hxm : b.roles[k] ∈ b.roles := List.getElem_mem _
  obtain ⟨bb, o, hat, hbb, hcl⟩ := hb.roles (by intro h; rw [h] at hk; simp at hk)
  have hrr := hv.r _ hxm
  have hec := hcl k hk
  obtain ⟨⟨M, m1, m2⟩, -⟩ : MapS w b2 R ∧ True := ⟨hj.r, trivial⟩
  have HM := Lib.hid m1
  simp only [localX]
  have HR1 : Hid (((findL M (b.roles[k].1 / 2)).map Value.bool).getD (.bool false) = .bool (inL R (b.roles[k].1 / 2))) := m2.look _
  have HR2 : Hid (((findL M (b.roles[k].2 / 2)).map Value.bool).getD (.bool false) = .bool (inL R (b.roles[k].2 / 2))) := m2.look _
  generalize inL R (b.roles[k].1 / 2) = v1 at *
  generalize inL R (b.roles[k].2 / 2) = v2 at *
  generalize b.roles[k].1 = x1 at *
  generalize b.roles[k].2 = x2 at *
  have hw1 : wrap64 (x1.tdiv 2) = x1 / 2 := half_z (by omega) (by have := hv.n; omega)
  have hw2 : wrap64 (x2.tdiv 2) = x2 / 2 := half_z (by omega) (by have := hv.n; omega)
  have hv1 : IntKind.i64.wrap (x1.tdiv 2) = x1 / 2 := by rw [Int.tdiv_eq_ediv_of_nonneg (by omega)]; exact IntWalk.i64_in _ (by have := hv.n; omega)
  have hv2 : IntKind.i64.wrap (x2.tdiv 2) = x2 / 2 := by rw [Int.tdiv_eq_ediv_of_nonneg (by omega)]; exact IntWalk.i64_in _ (by have := hv.n; omega)
  have HE : Hid (∀ w', Keeps (fun _ => False) w w' → w'.cell? ⟨bb, o + k * 2, none⟩ = some (.int .i64 x1) ∧ w'.cell? ⟨bb, o + k * 2 + 1, none⟩ = some (.int .i64 x2)) := fun w' hK => ⟨hK.cell hec.1 (fun h => h), hK.cell hec.2 (fun h => h)⟩
  clear hrr hec hcl hxm hj hb m1 m2
  have hk1 : (k : Int) < b.roles.length := by omega
  have hk0 : (0 : Int) ≤ k := by omega
  obtain ⟨a0, a1, a2, a3, a4, a5, a6, cc0, cc1, cc2, cc3, cc4, cc5, cc6⟩ := p
  simp only at hat ⊢
  subst hat
  obtain ⟨N0, hN0⟩ : ∃ N0 : Nat, N0 = b.incls.length + k := ⟨_, rfl⟩
  rw [← hN0]
  have g0 : ¬ ((N0 : Int) < (b.incls.length : Int)) := by omega
  have s0 : wrap64 ((N0 : Int) - (b.incls.length : Int)) = (k : Int) := by unfold wrap64; omega
  clear hN0
  change Calls Tryz.prog _ #[.agg #[.iface 141 (.agg #[]), .map (some b1), .map (some b2), .pointer (some ⟨g, 0, none⟩)], _, _] _ _
  go_enter Tryz.func46, Tryz.ntmps46
  go_wp2_with fail
  generalize hW0 : World.alloc _ _ = W0
  have hK0 : Keeps (fun _ => False) w W0 := by rw [← hW0]; repeat (first | exact Keeps.refl _ _ | refine Keeps.drewN ?_ _ | refine Keeps.drew ?_ | refine Keeps.alloc ?_ _ | refine Keeps.set ?_ (Or.inl (by rfl)) _)
  have hb0 : W0.heap[w.heap.size]? = some (.cells #[.iface 141 (.agg #[]), .map (some b1), .map (some b2), .pointer (some ⟨g, 0, none⟩)] 101 (0, 0)) := by rw [← hW0]; exact blkAlloc (blkNew rfl) _
  have hb1 : W0.heap[w.heap.size + 1]? = some (.cells #[.slice a0 b.cs.length cc0, .slice a1 b.rs.length cc1, .slice a2 b.is.length cc2, .slice a3 b.incls.length cc3, .slice (some ⟨bb, o, none⟩) b.roles.length cc4, .slice a5 b.facts.length cc5, .slice a6 b.links.length cc6] 30 (0, 0)) := by rw [← hW0]; exact blkNew (by simp)
  clear hW0
  have HK0 := Lib.hid hK0
  have HB0 := Lib.hid hb0
  have HB1 := Lib.hid hb1
  have hH : ∀ w', Keeps (fun _ => False) W0 w' → (w'.cell? ⟨w.heap.size, 0, none⟩ = some (.iface 141 (.agg #[])) ∧ w'.cell? ⟨w.heap.size, 1, none⟩ = some (.map (some b1)) ∧ w'.cell? ⟨w.heap.size, 2, none⟩ = some (.map (some b2)) ∧ w'.cell? ⟨w.heap.size, 3, none⟩ = some (.pointer (some ⟨g, 0, none⟩)) ∧ w'.cell? ⟨w.heap.size + 1, 4, none⟩ = some (.slice (some ⟨bb, o, none⟩) b.roles.length cc4) ∧ w'.cell? ⟨bb, o + k * 2, none⟩ = some (.int .i64 x1) ∧ w'.cell? ⟨bb, o + k * 2 + 1, none⟩ = some (.int .i64 x2)) := by
    intro w' hK
    obtain ⟨x0, x1', x2', x3⟩ := cells4 (hK.blk HB0.out (fun h => h))
    exact ⟨x0, x1', x2', x3, (blkCell (hK.blk HB1.out (fun h => h)) 4).trans rfl, HE.out w' (HK0.out.then_ hK)⟩
  have HH := Lib.hid hH
  clear hK0 hb0 hb1 hH
  have m1 := m_n_role
  have m2 := a_n_role
  have lk1 : (Instr.lookup 98 (.map (some b2)) (.int .i64 (x1 / 2)) false).run Tryz.prog W0.drew = .ok (.bool v1) W0.drew := by
    have h := (HM.out.keep (HK0.out.drew) (fun h => h)).look (keyInt Tryz.underlying3) Tryz.underlying98 (zeroBool _) (x1 / 2) false
    simp only [Bool.false_eq_true, if_false] at h
    rw [HR1.out] at h; exact h
  have lk2 : (Instr.lookup 98 (.map (some b2)) (.int .i64 (x2 / 2)) false).run Tryz.prog W0.drew = .ok (.bool v2) W0.drew := by
    have h := (HM.out.keep (HK0.out.drew) (fun h => h)).look (keyInt Tryz.underlying3) Tryz.underlying98 (zeroBool _) (x2 / 2) false
    simp only [Bool.false_eq_true, if_false] at h
    rw [HR2.out] at h; exact h
  first
    | (go_region_held3 (fun w' => (w'.cell? ⟨w.heap.size, 0, none⟩ = some (.iface 141 (.agg #[])) ∧ w'.cell? ⟨w.heap.size, 1, none⟩ = some (.map (some b1)) ∧ w'.cell? ⟨w.heap.size, 2, none⟩ = some (.map (some b2)) ∧ w'.cell? ⟨w.heap.size, 3, none⟩ = some (.pointer (some ⟨g, 0, none⟩)) ∧ w'.cell? ⟨w.heap.size + 1, 4, none⟩ = some (.slice (some ⟨bb, o, none⟩) b.roles.length cc4) ∧ w'.cell? ⟨bb, o + k * 2, none⟩ = some (.int .i64 x1) ∧ w'.cell? ⟨bb, o + k * 2 + 1, none⟩ = some (.int .i64 x2)))
        (first | exact HH.out _ (Keeps.refl _ _) | exact HH.out _ (Keeps.refl _ _).drew | exact HH.out _ HK2.out)
        ((go_at_call 159; refine (n_role v1 v2 W0.drew).mono ?_; rintro e w2 ⟨rfl, hk2⟩; have HK2 := Lib.hid hk2.undrew; clear hk2)))
    | fail
  all_goals
    go_wp2_with fail
    go_ret
    exact ⟨by simp, HK0.out.then_ HK2.out⟩
set_option maxRecDepth 100000 in
set_option maxHeartbeats 4000000 in
theorem local2e_calls (C R : List Int) (b : Kb) (p : KbA) (b1 b2 g k : Nat) (ok : Nat → Prop) (w : World) (hb : KbR ok w b p) (hv : KbFit b) (hj : JudgeR w C R b1 b2 g) (hk : k < b.roles.length) (hl1 : b.incls.length ≤ 1000000) (hl2 : b.roles.length ≤ 1000000) (hl3 : b.facts.length ≤ 1000000) (hl4 : b.links.length ≤ 1000000) :
    Calls Tryz.prog 46 #[JV true b1 b2 g, .agg #[.slice p.a0 b.cs.length p.c0, .slice p.a1 b.rs.length p.c1, .slice p.a2 b.is.length p.c2, .slice p.a3 b.incls.length p.c3, .slice p.a4 b.roles.length p.c4, .slice p.a5 b.facts.length p.c5, .slice p.a6 b.links.length p.c6], .int .i64 ((b.incls.length + k : Nat) : Int)] w (RetB (localX true (inL C) (inL R) (.role b.roles[k].1 b.roles[k].2)) w) := by
  have hxm : b.roles[k] ∈ b.roles := List.getElem_mem _
  obtain ⟨bb, o, hat, hbb, hcl⟩ := hb.roles (by intro h; rw [h] at hk; simp at hk)
  have hrr := hv.r _ hxm
  have hec := hcl k hk
  obtain ⟨⟨M, m1, m2⟩, -⟩ : MapS w b2 R ∧ True := ⟨hj.r, trivial⟩
  have HM := Lib.hid m1
  simp only [localX]
  have HR1 : Hid (((findL M (b.roles[k].1 / 2)).map Value.bool).getD (.bool false) = .bool (inL R (b.roles[k].1 / 2))) := m2.look _
  have HR2 : Hid (((findL M (b.roles[k].2 / 2)).map Value.bool).getD (.bool false) = .bool (inL R (b.roles[k].2 / 2))) := m2.look _
  generalize inL R (b.roles[k].1 / 2) = v1 at *
  generalize inL R (b.roles[k].2 / 2) = v2 at *
  generalize b.roles[k].1 = x1 at *
  generalize b.roles[k].2 = x2 at *
  have hw1 : wrap64 (x1.tdiv 2) = x1 / 2 := half_z (by omega) (by have := hv.n; omega)
  have hw2 : wrap64 (x2.tdiv 2) = x2 / 2 := half_z (by omega) (by have := hv.n; omega)
  have hv1 : IntKind.i64.wrap (x1.tdiv 2) = x1 / 2 := by rw [Int.tdiv_eq_ediv_of_nonneg (by omega)]; exact IntWalk.i64_in _ (by have := hv.n; omega)
  have hv2 : IntKind.i64.wrap (x2.tdiv 2) = x2 / 2 := by rw [Int.tdiv_eq_ediv_of_nonneg (by omega)]; exact IntWalk.i64_in _ (by have := hv.n; omega)
  have HE : Hid (∀ w', Keeps (fun _ => False) w w' → w'.cell? ⟨bb, o + k * 2, none⟩ = some (.int .i64 x1) ∧ w'.cell? ⟨bb, o + k * 2 + 1, none⟩ = some (.int .i64 x2)) := fun w' hK => ⟨hK.cell hec.1 (fun h => h), hK.cell hec.2 (fun h => h)⟩
  clear hrr hec hcl hxm hj hb m1 m2
  have hk1 : (k : Int) < b.roles.length := by omega
  have hk0 : (0 : Int) ≤ k := by omega
  obtain ⟨a0, a1, a2, a3, a4, a5, a6, cc0, cc1, cc2, cc3, cc4, cc5, cc6⟩ := p
  simp only at hat ⊢
  subst hat
  obtain ⟨N0, hN0⟩ : ∃ N0 : Nat, N0 = b.incls.length + k := ⟨_, rfl⟩
  rw [← hN0]
  have g0 : ¬ ((N0 : Int) < (b.incls.length : Int)) := by omega
  have s0 : wrap64 ((N0 : Int) - (b.incls.length : Int)) = (k : Int) := by unfold wrap64; omega
  clear hN0
  change Calls Tryz.prog _ #[.agg #[.iface 142 (.agg #[]), .map (some b1), .map (some b2), .pointer (some ⟨g, 0, none⟩)], _, _] _ _
  go_enter Tryz.func46, Tryz.ntmps46
  go_wp2_with fail
  generalize hW0 : World.alloc _ _ = W0
  have hK0 : Keeps (fun _ => False) w W0 := by rw [← hW0]; repeat (first | exact Keeps.refl _ _ | refine Keeps.drewN ?_ _ | refine Keeps.drew ?_ | refine Keeps.alloc ?_ _ | refine Keeps.set ?_ (Or.inl (by rfl)) _)
  have hb0 : W0.heap[w.heap.size]? = some (.cells #[.iface 142 (.agg #[]), .map (some b1), .map (some b2), .pointer (some ⟨g, 0, none⟩)] 101 (0, 0)) := by rw [← hW0]; exact blkAlloc (blkNew rfl) _
  have hb1 : W0.heap[w.heap.size + 1]? = some (.cells #[.slice a0 b.cs.length cc0, .slice a1 b.rs.length cc1, .slice a2 b.is.length cc2, .slice a3 b.incls.length cc3, .slice (some ⟨bb, o, none⟩) b.roles.length cc4, .slice a5 b.facts.length cc5, .slice a6 b.links.length cc6] 30 (0, 0)) := by rw [← hW0]; exact blkNew (by simp)
  clear hW0
  have HK0 := Lib.hid hK0
  have HB0 := Lib.hid hb0
  have HB1 := Lib.hid hb1
  have hH : ∀ w', Keeps (fun _ => False) W0 w' → (w'.cell? ⟨w.heap.size, 0, none⟩ = some (.iface 142 (.agg #[])) ∧ w'.cell? ⟨w.heap.size, 1, none⟩ = some (.map (some b1)) ∧ w'.cell? ⟨w.heap.size, 2, none⟩ = some (.map (some b2)) ∧ w'.cell? ⟨w.heap.size, 3, none⟩ = some (.pointer (some ⟨g, 0, none⟩)) ∧ w'.cell? ⟨w.heap.size + 1, 4, none⟩ = some (.slice (some ⟨bb, o, none⟩) b.roles.length cc4) ∧ w'.cell? ⟨bb, o + k * 2, none⟩ = some (.int .i64 x1) ∧ w'.cell? ⟨bb, o + k * 2 + 1, none⟩ = some (.int .i64 x2)) := by
    intro w' hK
    obtain ⟨x0, x1', x2', x3⟩ := cells4 (hK.blk HB0.out (fun h => h))
    exact ⟨x0, x1', x2', x3, (blkCell (hK.blk HB1.out (fun h => h)) 4).trans rfl, HE.out w' (HK0.out.then_ hK)⟩
  have HH := Lib.hid hH
  clear hK0 hb0 hb1 hH
  have m1 := m_e_role
  have m2 := a_e_role
  have lk1 : (Instr.lookup 98 (.map (some b2)) (.int .i64 (x1 / 2)) false).run Tryz.prog W0.drew = .ok (.bool v1) W0.drew := by
    have h := (HM.out.keep (HK0.out.drew) (fun h => h)).look (keyInt Tryz.underlying3) Tryz.underlying98 (zeroBool _) (x1 / 2) false
    simp only [Bool.false_eq_true, if_false] at h
    rw [HR1.out] at h; exact h
  have lk2 : (Instr.lookup 98 (.map (some b2)) (.int .i64 (x2 / 2)) false).run Tryz.prog W0.drew = .ok (.bool v2) W0.drew := by
    have h := (HM.out.keep (HK0.out.drew) (fun h => h)).look (keyInt Tryz.underlying3) Tryz.underlying98 (zeroBool _) (x2 / 2) false
    simp only [Bool.false_eq_true, if_false] at h
    rw [HR2.out] at h; exact h
  first
    | (go_region_held3 (fun w' => (w'.cell? ⟨w.heap.size, 0, none⟩ = some (.iface 142 (.agg #[])) ∧ w'.cell? ⟨w.heap.size, 1, none⟩ = some (.map (some b1)) ∧ w'.cell? ⟨w.heap.size, 2, none⟩ = some (.map (some b2)) ∧ w'.cell? ⟨w.heap.size, 3, none⟩ = some (.pointer (some ⟨g, 0, none⟩)) ∧ w'.cell? ⟨w.heap.size + 1, 4, none⟩ = some (.slice (some ⟨bb, o, none⟩) b.roles.length cc4) ∧ w'.cell? ⟨bb, o + k * 2, none⟩ = some (.int .i64 x1) ∧ w'.cell? ⟨bb, o + k * 2 + 1, none⟩ = some (.int .i64 x2)))
        (first | exact HH.out _ (Keeps.refl _ _) | exact HH.out _ (Keeps.refl _ _).drew | exact HH.out _ HK2.out)
        ((go_at_call 164; refine (e_role v1 v2 W0.drew).mono ?_; rintro e w2 ⟨rfl, hk2⟩; have HK2 := Lib.hid hk2.undrew; clear hk2)))
    | fail
  all_goals
    go_wp2_with fail
    go_ret
    exact ⟨by simp, HK0.out.then_ HK2.out⟩
set_option maxRecDepth 100000 in
set_option maxHeartbeats 4000000 in
theorem local3n_calls (C R : List Int) (b : Kb) (p : KbA) (b1 b2 g k : Nat) (ok : Nat → Prop) (w : World) (hb : KbR ok w b p) (hv : KbFit b) (hj : JudgeR w C R b1 b2 g) (hk : k < b.facts.length) (hl1 : b.incls.length ≤ 1000000) (hl2 : b.roles.length ≤ 1000000) (hl3 : b.facts.length ≤ 1000000) (hl4 : b.links.length ≤ 1000000) :
    Calls Tryz.prog 46 #[JV false b1 b2 g, .agg #[.slice p.a0 b.cs.length p.c0, .slice p.a1 b.rs.length p.c1, .slice p.a2 b.is.length p.c2, .slice p.a3 b.incls.length p.c3, .slice p.a4 b.roles.length p.c4, .slice p.a5 b.facts.length p.c5, .slice p.a6 b.links.length p.c6], .int .i64 ((b.incls.length + b.roles.length + k : Nat) : Int)] w (RetB (localX false (inL C) (inL R) (.fact b.facts[k].1 b.facts[k].2)) w) := by
  have hxm : b.facts[k] ∈ b.facts := List.getElem_mem _
  obtain ⟨bb, o, hat, hbb, hcl⟩ := hb.facts (by intro h; rw [h] at hk; simp at hk)
  obtain ⟨A1, c1, e0, e1, e2, e3, r1⟩ := hcl k hk
  have hof1 : ∀ W, Keeps (fun _ => False) w W → Calls Tryz.prog 55 #[JV false b1 b2 g, conV b.facts[k].2 A1 c1] W (RetSt (shapeM false (inL C) (inL R) b.facts[k].2) W) :=
    fun W hK => jof_calls false C R _ _ hv.n _ _ A1 c1 b1 b2 g ok W (Nat.lt_succ_self _) (hv.f _ hxm) (r1.keep hK (fun _ _ h => h)) (hj.still hK)
  simp only [localX]
  generalize shapeM false (inL C) (inL R) b.facts[k].2 = q1 at *
  generalize b.facts[k].2 = d1 at *
  obtain ⟨op1, n1, args1⟩ := d1
  unfold conV JV at hof1
  simp only [Con.op, Con.n, Con.args] at *
  have HO1 : Hid (∀ W, Keeps (fun _ => False) w W → Calls Tryz.prog 55 #[.agg #[.iface 141 (.agg #[]), .map (some b1), .map (some b2), .pointer (some ⟨g, 0, none⟩)], .agg #[.int .i64 op1, .int .i64 n1, .slice A1 args1.length c1]] W (RetSt q1 W)) := hof1
  have HE : Hid (∀ w', Keeps (fun _ => False) w w' → w'.cell? ⟨bb, o + k * 4 + 1, none⟩ = some (.int .i64 op1) ∧ w'.cell? ⟨bb, o + k * 4 + 1 + 1, none⟩ = some (.int .i64 n1) ∧ w'.cell? ⟨bb, o + k * 4 + 1 + 2, none⟩ = some (.slice A1 args1.length c1)) := fun w' hK => ⟨hK.cell e1 (fun h => h), hK.cell e2 (fun h => h), hK.cell e3 (fun h => h)⟩
  clear hof1 e0 e1 e2 e3 r1 hcl hxm hj hb
  have hk1 : (k : Int) < b.facts.length := by omega
  have hk0 : (0 : Int) ≤ k := by omega
  obtain ⟨a0, a1, a2, a3, a4, a5, a6, cc0, cc1, cc2, cc3, cc4, cc5, cc6⟩ := p
  simp only at hat ⊢
  subst hat
  obtain ⟨N0, hN0⟩ : ∃ N0 : Nat, N0 = b.incls.length + b.roles.length + k := ⟨_, rfl⟩
  rw [← hN0]
  obtain ⟨N1, hN1⟩ : ∃ m : Nat, m = N0 - b.incls.length := ⟨_, rfl⟩
  have g0 : ¬ ((N0 : Int) < (b.incls.length : Int)) := by omega
  have s0 : wrap64 ((N0 : Int) - (b.incls.length : Int)) = (N1 : Int) := by unfold wrap64; omega
  have g1 : ¬ ((N1 : Int) < (b.roles.length : Int)) := by omega
  have s1 : wrap64 ((N1 : Int) - (b.roles.length : Int)) = (k : Int) := by unfold wrap64; omega
  clear hN0 hN1
  change Calls Tryz.prog _ #[.agg #[.iface 141 (.agg #[]), .map (some b1), .map (some b2), .pointer (some ⟨g, 0, none⟩)], _, _] _ _
  go_enter Tryz.func46, Tryz.ntmps46
  go_wp2_with fail
  generalize hW0 : World.alloc _ _ = W0
  have hK0 : Keeps (fun _ => False) w W0 := by rw [← hW0]; repeat (first | exact Keeps.refl _ _ | refine Keeps.drewN ?_ _ | refine Keeps.drew ?_ | refine Keeps.alloc ?_ _ | refine Keeps.set ?_ (Or.inl (by rfl)) _)
  have hb0 : W0.heap[w.heap.size]? = some (.cells #[.iface 141 (.agg #[]), .map (some b1), .map (some b2), .pointer (some ⟨g, 0, none⟩)] 101 (0, 0)) := by rw [← hW0]; exact blkAlloc (blkNew rfl) _
  have hb1 : W0.heap[w.heap.size + 1]? = some (.cells #[.slice a0 b.cs.length cc0, .slice a1 b.rs.length cc1, .slice a2 b.is.length cc2, .slice a3 b.incls.length cc3, .slice a4 b.roles.length cc4, .slice (some ⟨bb, o, none⟩) b.facts.length cc5, .slice a6 b.links.length cc6] 30 (0, 0)) := by rw [← hW0]; exact blkNew (by simp)
  clear hW0
  have HK0 := Lib.hid hK0
  have HB0 := Lib.hid hb0
  have HB1 := Lib.hid hb1
  have hH : ∀ w', Keeps (fun _ => False) W0 w' → (w'.cell? ⟨w.heap.size, 0, none⟩ = some (.iface 141 (.agg #[])) ∧ w'.cell? ⟨w.heap.size, 1, none⟩ = some (.map (some b1)) ∧ w'.cell? ⟨w.heap.size, 2, none⟩ = some (.map (some b2)) ∧ w'.cell? ⟨w.heap.size, 3, none⟩ = some (.pointer (some ⟨g, 0, none⟩)) ∧ w'.cell? ⟨w.heap.size + 1, 5, none⟩ = some (.slice (some ⟨bb, o, none⟩) b.facts.length cc5) ∧ w'.cell? ⟨bb, o + k * 4 + 1, none⟩ = some (.int .i64 op1) ∧ w'.cell? ⟨bb, o + k * 4 + 1 + 1, none⟩ = some (.int .i64 n1) ∧ w'.cell? ⟨bb, o + k * 4 + 1 + 2, none⟩ = some (.slice A1 args1.length c1)) := by
    intro w' hK
    obtain ⟨x0, x1', x2', x3⟩ := cells4 (hK.blk HB0.out (fun h => h))
    exact ⟨x0, x1', x2', x3, (blkCell (hK.blk HB1.out (fun h => h)) 5).trans rfl, HE.out w' (HK0.out.then_ hK)⟩
  have HH := Lib.hid hH
  clear hK0 hb0 hb1 hH
  have fs1 := fieldS1
  first
    | (go_region_held3 (fun w' => (w'.cell? ⟨w.heap.size, 0, none⟩ = some (.iface 141 (.agg #[])) ∧ w'.cell? ⟨w.heap.size, 1, none⟩ = some (.map (some b1)) ∧ w'.cell? ⟨w.heap.size, 2, none⟩ = some (.map (some b2)) ∧ w'.cell? ⟨w.heap.size, 3, none⟩ = some (.pointer (some ⟨g, 0, none⟩)) ∧ w'.cell? ⟨w.heap.size + 1, 5, none⟩ = some (.slice (some ⟨bb, o, none⟩) b.facts.length cc5) ∧ w'.cell? ⟨bb, o + k * 4 + 1, none⟩ = some (.int .i64 op1) ∧ w'.cell? ⟨bb, o + k * 4 + 1 + 1, none⟩ = some (.int .i64 n1) ∧ w'.cell? ⟨bb, o + k * 4 + 1 + 2, none⟩ = some (.slice A1 args1.length c1)))
        (first | exact HH.out _ (Keeps.refl _ _) | exact HH.out _ (Keeps.refl _ _).drew | exact HH.out _ HK2.out)
        ((go_at_call 55; refine (HO1.out W0.drew (HK0.out.drew)).mono ?_; rintro e w2 ⟨rfl, hk2⟩; have HK2 := Lib.hid hk2.undrew; clear hk2)))
    | fail
  all_goals
    go_wp2_with fail
    go_ret
    exact ⟨by simp, HK0.out.then_ HK2.out⟩
set_option maxRecDepth 100000 in
set_option maxHeartbeats 4000000 in
theorem local3e_calls (C R : List Int) (b : Kb) (p : KbA) (b1 b2 g k : Nat) (ok : Nat → Prop) (w : World) (hb : KbR ok w b p) (hv : KbFit b) (hj : JudgeR w C R b1 b2 g) (hk : k < b.facts.length) (hl1 : b.incls.length ≤ 1000000) (hl2 : b.roles.length ≤ 1000000) (hl3 : b.facts.length ≤ 1000000) (hl4 : b.links.length ≤ 1000000) :
    Calls Tryz.prog 46 #[JV true b1 b2 g, .agg #[.slice p.a0 b.cs.length p.c0, .slice p.a1 b.rs.length p.c1, .slice p.a2 b.is.length p.c2, .slice p.a3 b.incls.length p.c3, .slice p.a4 b.roles.length p.c4, .slice p.a5 b.facts.length p.c5, .slice p.a6 b.links.length p.c6], .int .i64 ((b.incls.length + b.roles.length + k : Nat) : Int)] w (RetB (localX true (inL C) (inL R) (.fact b.facts[k].1 b.facts[k].2)) w) := by
  have hxm : b.facts[k] ∈ b.facts := List.getElem_mem _
  obtain ⟨bb, o, hat, hbb, hcl⟩ := hb.facts (by intro h; rw [h] at hk; simp at hk)
  obtain ⟨A1, c1, e0, e1, e2, e3, r1⟩ := hcl k hk
  have hof1 : ∀ W, Keeps (fun _ => False) w W → Calls Tryz.prog 55 #[JV true b1 b2 g, conV b.facts[k].2 A1 c1] W (RetSt (shapeM true (inL C) (inL R) b.facts[k].2) W) :=
    fun W hK => jof_calls true C R _ _ hv.n _ _ A1 c1 b1 b2 g ok W (Nat.lt_succ_self _) (hv.f _ hxm) (r1.keep hK (fun _ _ h => h)) (hj.still hK)
  simp only [localX]
  generalize shapeM true (inL C) (inL R) b.facts[k].2 = q1 at *
  generalize b.facts[k].2 = d1 at *
  obtain ⟨op1, n1, args1⟩ := d1
  unfold conV JV at hof1
  simp only [Con.op, Con.n, Con.args] at *
  have HO1 : Hid (∀ W, Keeps (fun _ => False) w W → Calls Tryz.prog 55 #[.agg #[.iface 142 (.agg #[]), .map (some b1), .map (some b2), .pointer (some ⟨g, 0, none⟩)], .agg #[.int .i64 op1, .int .i64 n1, .slice A1 args1.length c1]] W (RetSt q1 W)) := hof1
  have HE : Hid (∀ w', Keeps (fun _ => False) w w' → w'.cell? ⟨bb, o + k * 4 + 1, none⟩ = some (.int .i64 op1) ∧ w'.cell? ⟨bb, o + k * 4 + 1 + 1, none⟩ = some (.int .i64 n1) ∧ w'.cell? ⟨bb, o + k * 4 + 1 + 2, none⟩ = some (.slice A1 args1.length c1)) := fun w' hK => ⟨hK.cell e1 (fun h => h), hK.cell e2 (fun h => h), hK.cell e3 (fun h => h)⟩
  clear hof1 e0 e1 e2 e3 r1 hcl hxm hj hb
  have hk1 : (k : Int) < b.facts.length := by omega
  have hk0 : (0 : Int) ≤ k := by omega
  obtain ⟨a0, a1, a2, a3, a4, a5, a6, cc0, cc1, cc2, cc3, cc4, cc5, cc6⟩ := p
  simp only at hat ⊢
  subst hat
  obtain ⟨N0, hN0⟩ : ∃ N0 : Nat, N0 = b.incls.length + b.roles.length + k := ⟨_, rfl⟩
  rw [← hN0]
  obtain ⟨N1, hN1⟩ : ∃ m : Nat, m = N0 - b.incls.length := ⟨_, rfl⟩
  have g0 : ¬ ((N0 : Int) < (b.incls.length : Int)) := by omega
  have s0 : wrap64 ((N0 : Int) - (b.incls.length : Int)) = (N1 : Int) := by unfold wrap64; omega
  have g1 : ¬ ((N1 : Int) < (b.roles.length : Int)) := by omega
  have s1 : wrap64 ((N1 : Int) - (b.roles.length : Int)) = (k : Int) := by unfold wrap64; omega
  clear hN0 hN1
  change Calls Tryz.prog _ #[.agg #[.iface 142 (.agg #[]), .map (some b1), .map (some b2), .pointer (some ⟨g, 0, none⟩)], _, _] _ _
  go_enter Tryz.func46, Tryz.ntmps46
  go_wp2_with fail
  generalize hW0 : World.alloc _ _ = W0
  have hK0 : Keeps (fun _ => False) w W0 := by rw [← hW0]; repeat (first | exact Keeps.refl _ _ | refine Keeps.drewN ?_ _ | refine Keeps.drew ?_ | refine Keeps.alloc ?_ _ | refine Keeps.set ?_ (Or.inl (by rfl)) _)
  have hb0 : W0.heap[w.heap.size]? = some (.cells #[.iface 142 (.agg #[]), .map (some b1), .map (some b2), .pointer (some ⟨g, 0, none⟩)] 101 (0, 0)) := by rw [← hW0]; exact blkAlloc (blkNew rfl) _
  have hb1 : W0.heap[w.heap.size + 1]? = some (.cells #[.slice a0 b.cs.length cc0, .slice a1 b.rs.length cc1, .slice a2 b.is.length cc2, .slice a3 b.incls.length cc3, .slice a4 b.roles.length cc4, .slice (some ⟨bb, o, none⟩) b.facts.length cc5, .slice a6 b.links.length cc6] 30 (0, 0)) := by rw [← hW0]; exact blkNew (by simp)
  clear hW0
  have HK0 := Lib.hid hK0
  have HB0 := Lib.hid hb0
  have HB1 := Lib.hid hb1
  have hH : ∀ w', Keeps (fun _ => False) W0 w' → (w'.cell? ⟨w.heap.size, 0, none⟩ = some (.iface 142 (.agg #[])) ∧ w'.cell? ⟨w.heap.size, 1, none⟩ = some (.map (some b1)) ∧ w'.cell? ⟨w.heap.size, 2, none⟩ = some (.map (some b2)) ∧ w'.cell? ⟨w.heap.size, 3, none⟩ = some (.pointer (some ⟨g, 0, none⟩)) ∧ w'.cell? ⟨w.heap.size + 1, 5, none⟩ = some (.slice (some ⟨bb, o, none⟩) b.facts.length cc5) ∧ w'.cell? ⟨bb, o + k * 4 + 1, none⟩ = some (.int .i64 op1) ∧ w'.cell? ⟨bb, o + k * 4 + 1 + 1, none⟩ = some (.int .i64 n1) ∧ w'.cell? ⟨bb, o + k * 4 + 1 + 2, none⟩ = some (.slice A1 args1.length c1)) := by
    intro w' hK
    obtain ⟨x0, x1', x2', x3⟩ := cells4 (hK.blk HB0.out (fun h => h))
    exact ⟨x0, x1', x2', x3, (blkCell (hK.blk HB1.out (fun h => h)) 5).trans rfl, HE.out w' (HK0.out.then_ hK)⟩
  have HH := Lib.hid hH
  clear hK0 hb0 hb1 hH
  have fs1 := fieldS1
  first
    | (go_region_held3 (fun w' => (w'.cell? ⟨w.heap.size, 0, none⟩ = some (.iface 142 (.agg #[])) ∧ w'.cell? ⟨w.heap.size, 1, none⟩ = some (.map (some b1)) ∧ w'.cell? ⟨w.heap.size, 2, none⟩ = some (.map (some b2)) ∧ w'.cell? ⟨w.heap.size, 3, none⟩ = some (.pointer (some ⟨g, 0, none⟩)) ∧ w'.cell? ⟨w.heap.size + 1, 5, none⟩ = some (.slice (some ⟨bb, o, none⟩) b.facts.length cc5) ∧ w'.cell? ⟨bb, o + k * 4 + 1, none⟩ = some (.int .i64 op1) ∧ w'.cell? ⟨bb, o + k * 4 + 1 + 1, none⟩ = some (.int .i64 n1) ∧ w'.cell? ⟨bb, o + k * 4 + 1 + 2, none⟩ = some (.slice A1 args1.length c1)))
        (first | exact HH.out _ (Keeps.refl _ _) | exact HH.out _ (Keeps.refl _ _).drew | exact HH.out _ HK2.out)
        ((go_at_call 55; refine (HO1.out W0.drew (HK0.out.drew)).mono ?_; rintro e w2 ⟨rfl, hk2⟩; have HK2 := Lib.hid hk2.undrew; clear hk2)))
    | fail
  all_goals
    go_wp2_with fail
    go_ret
    exact ⟨by simp, HK0.out.then_ HK2.out⟩
set_option maxRecDepth 100000 in
set_option maxHeartbeats 4000000 in
theorem local4n_calls (C R : List Int) (b : Kb) (p : KbA) (b1 b2 g k : Nat) (ok : Nat → Prop) (w : World) (hb : KbR ok w b p) (hv : KbFit b) (hj : JudgeR w C R b1 b2 g) (hk : k < b.links.length) (hl1 : b.incls.length ≤ 1000000) (hl2 : b.roles.length ≤ 1000000) (hl3 : b.facts.length ≤ 1000000) (hl4 : b.links.length ≤ 1000000) :
    Calls Tryz.prog 46 #[JV false b1 b2 g, .agg #[.slice p.a0 b.cs.length p.c0, .slice p.a1 b.rs.length p.c1, .slice p.a2 b.is.length p.c2, .slice p.a3 b.incls.length p.c3, .slice p.a4 b.roles.length p.c4, .slice p.a5 b.facts.length p.c5, .slice p.a6 b.links.length p.c6], .int .i64 ((b.incls.length + b.roles.length + b.facts.length + k : Nat) : Int)] w (RetB (localX false (inL C) (inL R) (.link b.links[k].1 b.links[k].2.1 b.links[k].2.2)) w) := by
  have hxm : b.links[k] ∈ b.links := List.getElem_mem _
  obtain ⟨bb, o, hat, hbb, hcl⟩ := hb.links (by intro h; rw [h] at hk; simp at hk)
  have hrr := hv.l _ hxm
  have hec := (hcl k hk).1
  obtain ⟨⟨M, m1, m2⟩, -⟩ : MapS w b2 R ∧ True := ⟨hj.r, trivial⟩
  have HM := Lib.hid m1
  simp only [localX]
  have HR1 : Hid (((findL M (b.links[k].1)).map Value.bool).getD (.bool false) = .bool (inL R (b.links[k].1))) := m2.look _
  generalize inL R (b.links[k].1) = v1 at *
  generalize b.links[k].1 = x1 at *
  have HE : Hid (∀ w', Keeps (fun _ => False) w w' → w'.cell? ⟨bb, o + k * 3, none⟩ = some (.int .i64 x1)) := fun w' hK => hK.cell hec (fun h => h)
  clear hrr hec hcl hxm hj hb m1 m2
  have hk1 : (k : Int) < b.links.length := by omega
  have hk0 : (0 : Int) ≤ k := by omega
  obtain ⟨a0, a1, a2, a3, a4, a5, a6, cc0, cc1, cc2, cc3, cc4, cc5, cc6⟩ := p
  simp only at hat ⊢
  subst hat
  obtain ⟨N0, hN0⟩ : ∃ N0 : Nat, N0 = b.incls.length + b.roles.length + b.facts.length + k := ⟨_, rfl⟩
  rw [← hN0]
  obtain ⟨N1, hN1⟩ : ∃ m : Nat, m = N0 - b.incls.length := ⟨_, rfl⟩
  have g0 : ¬ ((N0 : Int) < (b.incls.length : Int)) := by omega
  have s0 : wrap64 ((N0 : Int) - (b.incls.length : Int)) = (N1 : Int) := by unfold wrap64; omega
  obtain ⟨N2, hN2⟩ : ∃ m : Nat, m = N1 - b.roles.length := ⟨_, rfl⟩
  have g1 : ¬ ((N1 : Int) < (b.roles.length : Int)) := by omega
  have s1 : wrap64 ((N1 : Int) - (b.roles.length : Int)) = (N2 : Int) := by unfold wrap64; omega
  have g2 : ¬ ((N2 : Int) < (b.facts.length : Int)) := by omega
  have s2 : wrap64 ((N2 : Int) - (b.facts.length : Int)) = (k : Int) := by unfold wrap64; omega
  have t2 : IntKind.i64.wrap ((N2 : Int) - (b.facts.length : Int)) = (k : Int) := by rw [show (N2 : Int) - (b.facts.length : Int) = (k : Int) by omega]; exact IntWalk.i64_in _ (by omega)
  clear hN0 hN1 hN2
  change Calls Tryz.prog _ #[.agg #[.iface 141 (.agg #[]), .map (some b1), .map (some b2), .pointer (some ⟨g, 0, none⟩)], _, _] _ _
  go_enter Tryz.func46, Tryz.ntmps46
  go_wp2_with fail
  generalize hW0 : World.alloc _ _ = W0
  have hK0 : Keeps (fun _ => False) w W0 := by rw [← hW0]; repeat (first | exact Keeps.refl _ _ | refine Keeps.drewN ?_ _ | refine Keeps.drew ?_ | refine Keeps.alloc ?_ _ | refine Keeps.set ?_ (Or.inl (by rfl)) _)
  have hb0 : W0.heap[w.heap.size]? = some (.cells #[.iface 141 (.agg #[]), .map (some b1), .map (some b2), .pointer (some ⟨g, 0, none⟩)] 101 (0, 0)) := by rw [← hW0]; exact blkAlloc (blkNew rfl) _
  have hb1 : W0.heap[w.heap.size + 1]? = some (.cells #[.slice a0 b.cs.length cc0, .slice a1 b.rs.length cc1, .slice a2 b.is.length cc2, .slice a3 b.incls.length cc3, .slice a4 b.roles.length cc4, .slice a5 b.facts.length cc5, .slice (some ⟨bb, o, none⟩) b.links.length cc6] 30 (0, 0)) := by rw [← hW0]; exact blkNew (by simp)
  clear hW0
  have HK0 := Lib.hid hK0
  have HB0 := Lib.hid hb0
  have HB1 := Lib.hid hb1
  have hH : ∀ w', Keeps (fun _ => False) W0 w' → (w'.cell? ⟨w.heap.size, 0, none⟩ = some (.iface 141 (.agg #[])) ∧ w'.cell? ⟨w.heap.size, 1, none⟩ = some (.map (some b1)) ∧ w'.cell? ⟨w.heap.size, 2, none⟩ = some (.map (some b2)) ∧ w'.cell? ⟨w.heap.size, 3, none⟩ = some (.pointer (some ⟨g, 0, none⟩)) ∧ w'.cell? ⟨w.heap.size + 1, 5, none⟩ = some (.slice a5 b.facts.length cc5) ∧ w'.cell? ⟨w.heap.size + 1, 6, none⟩ = some (.slice (some ⟨bb, o, none⟩) b.links.length cc6) ∧ w'.cell? ⟨bb, o + k * 3, none⟩ = some (.int .i64 x1)) := by
    intro w' hK
    obtain ⟨x0, x1', x2', x3⟩ := cells4 (hK.blk HB0.out (fun h => h))
    exact ⟨x0, x1', x2', x3, (blkCell (hK.blk HB1.out (fun h => h)) 5).trans rfl, (blkCell (hK.blk HB1.out (fun h => h)) 6).trans rfl, HE.out w' (HK0.out.then_ hK)⟩
  have HH := Lib.hid hH
  clear hK0 hb0 hb1 hH
  have m1 := m_n_link
  have m2 := a_n_link
  have lk1 : (Instr.lookup 98 (.map (some b2)) (.int .i64 (x1)) false).run Tryz.prog W0.drew = .ok (.bool v1) W0.drew := by
    have h := (HM.out.keep (HK0.out.drew) (fun h => h)).look (keyInt Tryz.underlying3) Tryz.underlying98 (zeroBool _) (x1) false
    simp only [Bool.false_eq_true, if_false] at h
    rw [HR1.out] at h; exact h
  first
    | (go_region_held3 (fun w' => (w'.cell? ⟨w.heap.size, 0, none⟩ = some (.iface 141 (.agg #[])) ∧ w'.cell? ⟨w.heap.size, 1, none⟩ = some (.map (some b1)) ∧ w'.cell? ⟨w.heap.size, 2, none⟩ = some (.map (some b2)) ∧ w'.cell? ⟨w.heap.size, 3, none⟩ = some (.pointer (some ⟨g, 0, none⟩)) ∧ w'.cell? ⟨w.heap.size + 1, 5, none⟩ = some (.slice a5 b.facts.length cc5) ∧ w'.cell? ⟨w.heap.size + 1, 6, none⟩ = some (.slice (some ⟨bb, o, none⟩) b.links.length cc6) ∧ w'.cell? ⟨bb, o + k * 3, none⟩ = some (.int .i64 x1)))
        (first | exact HH.out _ (Keeps.refl _ _) | exact HH.out _ (Keeps.refl _ _).drew | exact HH.out _ HK2.out)
        ((go_at_call 158; refine (n_link v1 W0.drew).mono ?_; rintro e w2 ⟨rfl, hk2⟩; have HK2 := Lib.hid hk2.undrew; clear hk2)))
    | fail
  all_goals
    go_wp2_with fail
    go_ret
    exact ⟨by simp, HK0.out.then_ HK2.out⟩
set_option maxRecDepth 100000 in
set_option maxHeartbeats 4000000 in
theorem local4e_calls (C R : List Int) (b : Kb) (p : KbA) (b1 b2 g k : Nat) (ok : Nat → Prop) (w : World) (hb : KbR ok w b p) (hv : KbFit b) (hj : JudgeR w C R b1 b2 g) (hk : k < b.links.length) (hl1 : b.incls.length ≤ 1000000) (hl2 : b.roles.length ≤ 1000000) (hl3 : b.facts.length ≤ 1000000) (hl4 : b.links.length ≤ 1000000) :
    Calls Tryz.prog 46 #[JV true b1 b2 g, .agg #[.slice p.a0 b.cs.length p.c0, .slice p.a1 b.rs.length p.c1, .slice p.a2 b.is.length p.c2, .slice p.a3 b.incls.length p.c3, .slice p.a4 b.roles.length p.c4, .slice p.a5 b.facts.length p.c5, .slice p.a6 b.links.length p.c6], .int .i64 ((b.incls.length + b.roles.length + b.facts.length + k : Nat) : Int)] w (RetB (localX true (inL C) (inL R) (.link b.links[k].1 b.links[k].2.1 b.links[k].2.2)) w) := by
  have hxm : b.links[k] ∈ b.links := List.getElem_mem _
  obtain ⟨bb, o, hat, hbb, hcl⟩ := hb.links (by intro h; rw [h] at hk; simp at hk)
  have hrr := hv.l _ hxm
  have hec := (hcl k hk).1
  obtain ⟨⟨M, m1, m2⟩, -⟩ : MapS w b2 R ∧ True := ⟨hj.r, trivial⟩
  have HM := Lib.hid m1
  simp only [localX]
  have HR1 : Hid (((findL M (b.links[k].1)).map Value.bool).getD (.bool false) = .bool (inL R (b.links[k].1))) := m2.look _
  generalize inL R (b.links[k].1) = v1 at *
  generalize b.links[k].1 = x1 at *
  have HE : Hid (∀ w', Keeps (fun _ => False) w w' → w'.cell? ⟨bb, o + k * 3, none⟩ = some (.int .i64 x1)) := fun w' hK => hK.cell hec (fun h => h)
  clear hrr hec hcl hxm hj hb m1 m2
  have hk1 : (k : Int) < b.links.length := by omega
  have hk0 : (0 : Int) ≤ k := by omega
  obtain ⟨a0, a1, a2, a3, a4, a5, a6, cc0, cc1, cc2, cc3, cc4, cc5, cc6⟩ := p
  simp only at hat ⊢
  subst hat
  obtain ⟨N0, hN0⟩ : ∃ N0 : Nat, N0 = b.incls.length + b.roles.length + b.facts.length + k := ⟨_, rfl⟩
  rw [← hN0]
  obtain ⟨N1, hN1⟩ : ∃ m : Nat, m = N0 - b.incls.length := ⟨_, rfl⟩
  have g0 : ¬ ((N0 : Int) < (b.incls.length : Int)) := by omega
  have s0 : wrap64 ((N0 : Int) - (b.incls.length : Int)) = (N1 : Int) := by unfold wrap64; omega
  obtain ⟨N2, hN2⟩ : ∃ m : Nat, m = N1 - b.roles.length := ⟨_, rfl⟩
  have g1 : ¬ ((N1 : Int) < (b.roles.length : Int)) := by omega
  have s1 : wrap64 ((N1 : Int) - (b.roles.length : Int)) = (N2 : Int) := by unfold wrap64; omega
  have g2 : ¬ ((N2 : Int) < (b.facts.length : Int)) := by omega
  have s2 : wrap64 ((N2 : Int) - (b.facts.length : Int)) = (k : Int) := by unfold wrap64; omega
  have t2 : IntKind.i64.wrap ((N2 : Int) - (b.facts.length : Int)) = (k : Int) := by rw [show (N2 : Int) - (b.facts.length : Int) = (k : Int) by omega]; exact IntWalk.i64_in _ (by omega)
  clear hN0 hN1 hN2
  change Calls Tryz.prog _ #[.agg #[.iface 142 (.agg #[]), .map (some b1), .map (some b2), .pointer (some ⟨g, 0, none⟩)], _, _] _ _
  go_enter Tryz.func46, Tryz.ntmps46
  go_wp2_with fail
  generalize hW0 : World.alloc _ _ = W0
  have hK0 : Keeps (fun _ => False) w W0 := by rw [← hW0]; repeat (first | exact Keeps.refl _ _ | refine Keeps.drewN ?_ _ | refine Keeps.drew ?_ | refine Keeps.alloc ?_ _ | refine Keeps.set ?_ (Or.inl (by rfl)) _)
  have hb0 : W0.heap[w.heap.size]? = some (.cells #[.iface 142 (.agg #[]), .map (some b1), .map (some b2), .pointer (some ⟨g, 0, none⟩)] 101 (0, 0)) := by rw [← hW0]; exact blkAlloc (blkNew rfl) _
  have hb1 : W0.heap[w.heap.size + 1]? = some (.cells #[.slice a0 b.cs.length cc0, .slice a1 b.rs.length cc1, .slice a2 b.is.length cc2, .slice a3 b.incls.length cc3, .slice a4 b.roles.length cc4, .slice a5 b.facts.length cc5, .slice (some ⟨bb, o, none⟩) b.links.length cc6] 30 (0, 0)) := by rw [← hW0]; exact blkNew (by simp)
  clear hW0
  have HK0 := Lib.hid hK0
  have HB0 := Lib.hid hb0
  have HB1 := Lib.hid hb1
  have hH : ∀ w', Keeps (fun _ => False) W0 w' → (w'.cell? ⟨w.heap.size, 0, none⟩ = some (.iface 142 (.agg #[])) ∧ w'.cell? ⟨w.heap.size, 1, none⟩ = some (.map (some b1)) ∧ w'.cell? ⟨w.heap.size, 2, none⟩ = some (.map (some b2)) ∧ w'.cell? ⟨w.heap.size, 3, none⟩ = some (.pointer (some ⟨g, 0, none⟩)) ∧ w'.cell? ⟨w.heap.size + 1, 5, none⟩ = some (.slice a5 b.facts.length cc5) ∧ w'.cell? ⟨w.heap.size + 1, 6, none⟩ = some (.slice (some ⟨bb, o, none⟩) b.links.length cc6) ∧ w'.cell? ⟨bb, o + k * 3, none⟩ = some (.int .i64 x1)) := by
    intro w' hK
    obtain ⟨x0, x1', x2', x3⟩ := cells4 (hK.blk HB0.out (fun h => h))
    exact ⟨x0, x1', x2', x3, (blkCell (hK.blk HB1.out (fun h => h)) 5).trans rfl, (blkCell (hK.blk HB1.out (fun h => h)) 6).trans rfl, HE.out w' (HK0.out.then_ hK)⟩
  have HH := Lib.hid hH
  clear hK0 hb0 hb1 hH
  have m1 := m_e_link
  have m2 := a_e_link
  have lk1 : (Instr.lookup 98 (.map (some b2)) (.int .i64 (x1)) false).run Tryz.prog W0.drew = .ok (.bool v1) W0.drew := by
    have h := (HM.out.keep (HK0.out.drew) (fun h => h)).look (keyInt Tryz.underlying3) Tryz.underlying98 (zeroBool _) (x1) false
    simp only [Bool.false_eq_true, if_false] at h
    rw [HR1.out] at h; exact h
  first
    | (go_region_held3 (fun w' => (w'.cell? ⟨w.heap.size, 0, none⟩ = some (.iface 142 (.agg #[])) ∧ w'.cell? ⟨w.heap.size, 1, none⟩ = some (.map (some b1)) ∧ w'.cell? ⟨w.heap.size, 2, none⟩ = some (.map (some b2)) ∧ w'.cell? ⟨w.heap.size, 3, none⟩ = some (.pointer (some ⟨g, 0, none⟩)) ∧ w'.cell? ⟨w.heap.size + 1, 5, none⟩ = some (.slice a5 b.facts.length cc5) ∧ w'.cell? ⟨w.heap.size + 1, 6, none⟩ = some (.slice (some ⟨bb, o, none⟩) b.links.length cc6) ∧ w'.cell? ⟨bb, o + k * 3, none⟩ = some (.int .i64 x1)))
        (first | exact HH.out _ (Keeps.refl _ _) | exact HH.out _ (Keeps.refl _ _).drew | exact HH.out _ HK2.out)
        ((go_at_call 163; refine (e_link v1 W0.drew).mono ?_; rintro e w2 ⟨rfl, hk2⟩; have HK2 := Lib.hid hk2.undrew; clear hk2)))
    | fail
  all_goals
    go_wp2_with fail
    go_ret
    exact ⟨by simp, HK0.out.then_ HK2.out⟩
theorem local_calls (top : Bool) (C R : List Int) (b : Kb) (p : KbA) (b1 b2 g k : Nat) (ok : Nat → Prop) (w : World) (hb : KbR ok w b p) (hv : KbFit b) (hj : JudgeR w C R b1 b2 g) (hk : k < kbCount b) (hl1 : b.incls.length ≤ 1000000) (hl2 : b.roles.length ≤ 1000000) (hl3 : b.facts.length ≤ 1000000) (hl4 : b.links.length ≤ 1000000) :
    Calls Tryz.prog 46 #[JV top b1 b2 g, .agg #[.slice p.a0 b.cs.length p.c0, .slice p.a1 b.rs.length p.c1, .slice p.a2 b.is.length p.c2, .slice p.a3 b.incls.length p.c3, .slice p.a4 b.roles.length p.c4, .slice p.a5 b.facts.length p.c5, .slice p.a6 b.links.length p.c6], .int .i64 (k : Int)] w (RetB (localX top (inL C) (inL R) (axAt b k)) w) := by
  unfold kbCount at hk
  by_cases h1 : k < b.incls.length
  · rw [axAt_incl h1]; exact local1_calls top C R b p b1 b2 g k ok w hb hv hj h1 hl1
  by_cases h2 : k < b.incls.length + b.roles.length
  · obtain ⟨j, rfl⟩ : ∃ j, k = b.incls.length + j := ⟨k - b.incls.length, by omega⟩
    have hj2 : j < b.roles.length := by omega
    rw [axAt_role hj2]
    cases top
    · exact local2n_calls C R b p b1 b2 g j ok w hb hv hj hj2 hl1 hl2 hl3 hl4
    · exact local2e_calls C R b p b1 b2 g j ok w hb hv hj hj2 hl1 hl2 hl3 hl4
  by_cases h3 : k < b.incls.length + b.roles.length + b.facts.length
  · obtain ⟨j, rfl⟩ : ∃ j, k = b.incls.length + b.roles.length + j := ⟨k - (b.incls.length + b.roles.length), by omega⟩
    have hj2 : j < b.facts.length := by omega
    rw [axAt_fact hj2]
    cases top
    · exact local3n_calls C R b p b1 b2 g j ok w hb hv hj hj2 hl1 hl2 hl3 hl4
    · exact local3e_calls C R b p b1 b2 g j ok w hb hv hj hj2 hl1 hl2 hl3 hl4
  · obtain ⟨j, rfl⟩ : ∃ j, k = b.incls.length + b.roles.length + b.facts.length + j := ⟨k - (b.incls.length + b.roles.length + b.facts.length), by omega⟩
    have hj2 : j < b.links.length := by omega
    rw [axAt_link hj2]
    cases top
    · exact local4n_calls C R b p b1 b2 g j ok w hb hv hj hj2 hl1 hl2 hl3 hl4
    · exact local4e_calls C R b p b1 b2 g j ok w hb hv hj hj2 hl1 hl2 hl3 hl4
end Go.Proofs.YthiclhbnggehoaaGreatDoor
