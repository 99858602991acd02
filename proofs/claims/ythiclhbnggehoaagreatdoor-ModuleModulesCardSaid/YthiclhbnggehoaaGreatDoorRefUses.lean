/- isagogeref19.add, Uses: the names that occur in an axiom, put into a signature of the call's own. -/
import Derived.Test.YthiclhbnggehoaaGreatDoorGrowsR
import Derived.Test.YthiclhbnggehoaaGreatDoorLocal
import Derived.Test.YthiclhbnggehoaaGreatDoorSetM
namespace Go.Proofs.YthiclhbnggehoaaGreatDoor
open Go.RowKit
set_option linter.unusedVariables false
set_option linter.unusedSimpArgs false
theorem AccU.offS {base : Nat} {v0 u0 v u : Value} {w0 w w' : World} {p : List Int × List Int} {S : Nat → Prop} (h : AccU base v0 u0 w0 p v u w) (hk : Keeps S w w') (hs : ∀ k, S k → w0.heap.size ≤ k ∧ v.ownBlock ≠ some k ∧ u.ownBlock ≠ some k) : AccU base v0 u0 w0 p v u w' :=
  ⟨h.a.keep' hk (fun b hb e => (hs b e).2.1 hb), h.b.keep' hk (fun b hb e => (hs b e).2.2 hb), h.ne, h.keep.trans hk (fun i hi => .inr (hs i hi).1), h.at1, h.at2⟩
theorem Keeps.monoS {S T : Nat → Prop} {w w' : World} (h : Keeps S w w') (f : ∀ k, S k → T k) : Keeps T w w' := ⟨h.os, h.tape, h.output, h.size, fun k hk hn => h.block k hk (fun hs => hn (f k hs))⟩
/-- A signature of the call's own is returned, to which names were added. -/
def RetU (base : Nat) (v u : Value) (w : World) (q : List Int × List Int) (e : Ending) (w' : World) : Prop := ∃ v' u', e = .returned (.agg #[v', u']) ∧ AccU base v u w q v' u' w'
set_option maxRecDepth 100000 in
set_option maxHeartbeats 16000000 in
theorem add19_calls (base : Nat) (c : Con) (A : Option Addr) (cap : Nat) (ok : Nat → Prop) (v u : Value) (p : List Int × List Int) (w : World) (hl1 : p.1.length + c.size ≤ 100000) (hl2 : p.2.length + c.size ≤ 100000) (hbw : base ≤ w.heap.size) (hc : ConR ok w c [.int .i64 c.op, .int .i64 c.n, .slice A c.args.length cap])
    (hoff : OffU ok v u) (ha : AccU base v u w p v u w) : Calls Tryz.prog 76 #[.agg #[v, u], .agg #[.int .i64 c.op, .int .i64 c.n, .slice A c.args.length cap]] w (RetU base v u w (usesC c p)) := by
  have HA := Lib.hid ha
  have HU : Hid (∀ W, Keeps (fun _ => False) w W → Calls Tryz.prog 97 #[.agg #[.int .i64 c.op, .int .i64 c.n, .slice A c.args.length cap], v, u] W fun e w' => ∃ v' u', e = .returned (.tuple #[v', u']) ∧ AccU base v u W (usesC c p) v' u' w') :=
    fun W h => uses_calls base (c.size + 1) c A cap ok v u p W (Nat.lt_succ_self _) hl1 hl2 (Nat.le_trans hbw h.size) (hc.keep h (fun _ _ h => h)) hoff (AccU.start (ha.a.keep' h (fun _ _ h => h)) (ha.b.keep' h (fun _ _ h => h)) ha.ne)
  obtain ⟨A1, d1, rfl, -⟩ := ownSl ha.a
  obtain ⟨A2, d2, rfl, -⟩ := ownSl ha.b
  clear ha hc hoff
  generalize usesC c p = q at *
  go_enter Tryz.func76, Tryz.ntmps76
  go_wp2_with fail
  generalize hW0 : World.alloc _ _ = W0
  have hk0 : Keeps (fun _ => False) w W0 := by rw [← hW0]; repeat (first | exact Keeps.refl _ _ | refine Keeps.drewN ?_ _ | refine Keeps.drew ?_ | refine Keeps.alloc ?_ _ | refine Keeps.set ?_ (Or.inl (by rfl)) _)
  have hb0 : W0.heap[w.heap.size]? = some (.cells #[.slice A1 p.1.length d1, .slice A2 p.2.length d2] 33 (0, 0)) := by rw [← hW0]; exact blkAlloc (blkAlloc (blkNew rfl) _) _
  have hb2 : W0.heap[w.heap.size + 1 + 1]? = some (.cells #[.slice none 0 0, .slice none 0 0] 33 (0, 0)) := by rw [← hW0]; exact blkNew (by simp)
  clear hW0
  have HK0 := Lib.hid hk0
  have HB0 := Lib.hid hb0
  have HB2 := Lib.hid hb2
  have hz0 := hk0.size
  clear hk0 hb0 hb2
  refine (HU.out W0 HK0.out).mono ?_
  rintro e w1 ⟨v', u', rfl, hac⟩
  have hov : ∀ k, (Value.slice A1 p.1.length d1).ownBlock = some k → k < w.heap.size := fun k e => (HA.out.a.lt' e).2
  have hou : ∀ k, (Value.slice A2 p.2.length d2).ownBlock = some k → k < w.heap.size := fun k e => (HA.out.b.lt' e).2
  have hb0 := hac.keep.blk HB0.out (fun e => by rcases e with e | e; (have := hov _ e; omega); (have := hou _ e; omega))
  have hb2 := hac.keep.blk HB2.out (fun e => by rcases e with e | e; (have := hov _ e; omega); (have := hou _ e; omega))
  have HAC := Lib.hid hac
  have HN : Hid (∀ k, (k = w.heap.size ∨ k = w.heap.size + 1 + 1) → w.heap.size ≤ k ∧ v'.ownBlock ≠ some k ∧ u'.ownBlock ≠ some k) := by
    rintro k (rfl | rfl)
    · exact ⟨Nat.le_refl _, hac.a.notBox hb0, hac.b.notBox hb0⟩
    · exact ⟨by omega, hac.a.notBox hb2, hac.b.notBox hb2⟩
  have HAT := Lib.hid ((HA.out.more HK0.out).trans hac)
  obtain ⟨A3, d3, rfl, -⟩ := ownSl hac.a
  obtain ⟨A4, d4, rfl, -⟩ := ownSl hac.b
  have f00 := blkFree hb0 0
  have f01 := blkFree hb0 1
  have f20 := blkFree hb2 0
  have f21 := blkFree hb2 1
  obtain ⟨y0, y1⟩ := cells2 hb0
  obtain ⟨z0, z1⟩ := cells2 hb2
  have ul0 := blkLt hb0
  have ul2 := blkLt hb2
  clear hac hb0 hb2 hov hou HU
  go_wp2_with fail
  generalize hW4 : World.setCell _ _ _ = W4
  have hk4 : Keeps (fun i => i = w.heap.size ∨ i = w.heap.size + 1 + 1) w1 W4 := by rw [← hW4]; repeat (first | exact Keeps.refl _ _ | refine Keeps.drew ?_ | refine Keeps.set ?_ (Or.inl (Or.inl rfl)) _ | refine Keeps.set ?_ (Or.inl (Or.inr rfl)) _)
  refine bodyPost_ret (v := .agg #[.slice A3 q.1.length d3, .slice A4 q.2.length d4]) ?g1 rfl ⟨_, _, rfl, HAT.out.offS hk4 HN.out⟩
  case g1 =>
    rw [← hW4]
    simp [results, Tryz.results76, go_sem, y0, y1, z0, z1, f00, f01, f20, f21, ul0, ul2]
/-- The names of an axiom, put in. -/
def useAx : Ax → List Int × List Int → List Int × List Int
  | .incl c d, p => usesC d (usesC c p)
  | .role r s, p => (p.1, insZ (s / 2) (insZ (r / 2) p.2))
  | .fact _ c, p => usesC c p
  | .link r _ _, p => (p.1, insZ r p.2)
theorem AccU.insS {base : Nat} {v0 u0 v u u' : Value} {w0 w w' : World} {p : List Int × List Int} {l : List Int} (h : AccU base v0 u0 w0 p v u w) (k : AccN base u w l u' w') : AccU base v0 u0 w0 (p.1, l) v u' w' := h.ins2 k
set_option maxRecDepth 100000 in
set_option maxHeartbeats 16000000 in
theorem uses19a_calls (base : Nat) (b : Kb) (p : KbA) (k : Nat) (v u : Value) (q : List Int × List Int) (ok : Nat → Prop) (w : World) (hb : KbR ok w b p) (hv : KbFit b) (hbw : base ≤ w.heap.size) (hoff : OffU ok v u) (ha : AccU base v u w q v u w) (hk : k < b.incls.length) (hl1 : b.incls.length ≤ 1000000) (hl2 : b.roles.length ≤ 1000000) (hl3 : b.facts.length ≤ 1000000) (hl4 : b.links.length ≤ 1000000) (hs1 : q.1.length + (b.incls[k].1.size + b.incls[k].2.size) ≤ 100000) (hs2 : q.2.length + (b.incls[k].1.size + b.incls[k].2.size) ≤ 100000) :
    Calls Tryz.prog 56 #[.agg #[.slice p.a0 b.cs.length p.c0, .slice p.a1 b.rs.length p.c1, .slice p.a2 b.is.length p.c2, .slice p.a3 b.incls.length p.c3, .slice p.a4 b.roles.length p.c4, .slice p.a5 b.facts.length p.c5, .slice p.a6 b.links.length p.c6], .int .i64 (k : Int), .agg #[v, u]] w (RetU base v u w (useAx (.incl b.incls[k].1 b.incls[k].2) q)) := by
  have hxm : b.incls[k] ∈ b.incls := List.getElem_mem _
  obtain ⟨bb, o, hat, hbb, hcl⟩ := hb.incls (by intro h; rw [h] at hk; simp at hk)
  have hbo := hoff bb hbb
  have HA := Lib.hid ha
  have HBL : Hid (bb < w.heap.size) := by unfold Hid; exact World.block_lt_of_cell? w _ (by obtain ⟨A1, c1, A2, c2, e0, _⟩ := hcl k hk; exact e0)
  obtain ⟨B1, c1, B2, c2, e0, e1, e2, e3, e4, e5, r1, r2⟩ := hcl k hk
  have hof1 : ∀ W, Keeps (fun _ => False) w W → Calls Tryz.prog 76 #[.agg #[v, u], .agg #[.int .i64 b.incls[k].1.op, .int .i64 b.incls[k].1.n, .slice B1 b.incls[k].1.args.length c1]] W (RetU base v u W (usesC b.incls[k].1 q)) :=
    fun W h => add19_calls base _ B1 c1 ok v u q W (by omega) (by omega) (Nat.le_trans hbw h.size) (r1.keep h (fun _ _ h => h)) hoff (AccU.start (ha.a.keep' h (fun _ _ h => h)) (ha.b.keep' h (fun _ _ h => h)) ha.ne)
  have hof2 : ∀ W w2 v' u', Keeps (fun _ => False) w W → AccU base v u W (usesC b.incls[k].1 q) v' u' w2 → Calls Tryz.prog 76 #[.agg #[v', u'], .agg #[.int .i64 b.incls[k].2.op, .int .i64 b.incls[k].2.n, .slice B2 b.incls[k].2.args.length c2]] w2 (RetU base v' u' w2 (usesC b.incls[k].2 (usesC b.incls[k].1 q))) :=
    fun W w2 v' u' h hac => add19_calls base _ B2 c2 (fun k => ok k ∧ k < W.heap.size) v' u' _ w2 (by have := (usesC_len b.incls[k].1 q).1; omega) (by have := (usesC_len b.incls[k].1 q).2; omega) (by have := hac.keep.size; have := h.size; omega) ((r2.keep h (fun _ _ h => h)).lim.keep hac.keep (fun j hj e => by rcases e with e | e; exact (hoff j hj.1).1 e; exact (hoff j hj.1).2 e)) (hac.off hoff) (AccU.start hac.a hac.b hac.ne)
  simp only [useAx]
  generalize usesC b.incls[k].2 (usesC b.incls[k].1 q) = q2 at *
  generalize usesC b.incls[k].1 q = q1 at *
  generalize b.incls[k].1 = dd1 at *
  generalize b.incls[k].2 = dd2 at *
  obtain ⟨op1, n1, args1⟩ := dd1
  obtain ⟨op2, n2, args2⟩ := dd2
  simp only [Con.op, Con.n, Con.args] at *
  have HO1 := Lib.hid hof1
  have HO2 := Lib.hid hof2
  have HE := Lib.hid (And.intro e0 (And.intro e1 (And.intro e2 (And.intro e3 (And.intro e4 e5)))))
  clear hof1 hof2 e0 e1 e2 e3 e4 e5 r1 r2
  obtain ⟨A1, d1, rfl, -⟩ := ownSl ha.a
  obtain ⟨A2, d2, rfl, -⟩ := ownSl ha.b
  clear hxm hb hcl ha
  have HOF := Lib.hid hoff
  have HBO := Lib.hid hbo
  clear hoff hbo
  have hk1 : (k : Int) < b.incls.length := by omega
  have hk0 : (0 : Int) ≤ k := by omega
  obtain ⟨a0, a1, a2, a3, a4, a5, a6, cc0, cc1, cc2, cc3, cc4, cc5, cc6⟩ := p
  simp only at hat ⊢
  subst hat
  have hov : ∀ k, (Value.slice A1 q.1.length d1).ownBlock = some k → k < w.heap.size := fun k e => (HA.out.a.lt' e).2
  have hou : ∀ k, (Value.slice A2 q.2.length d2).ownBlock = some k → k < w.heap.size := fun k e => (HA.out.b.lt' e).2
  have HOV := Lib.hid hov
  have HOU := Lib.hid hou
  clear hov hou

  go_enter Tryz.func56, Tryz.ntmps56
  go_wp2_with fail
  generalize hW0 : World.alloc _ _ = W0
  have hK0 : Keeps (fun _ => False) w W0 := by rw [← hW0]; repeat (first | exact Keeps.refl _ _ | refine Keeps.drewN ?_ _ | refine Keeps.drew ?_ | refine Keeps.alloc ?_ _ | refine Keeps.set ?_ (Or.inl (by rfl)) _)
  have hb0 : W0.heap[w.heap.size]? = some (.cells #[.slice a0 b.cs.length cc0, .slice a1 b.rs.length cc1, .slice a2 b.is.length cc2, .slice (some ⟨bb, o, none⟩) b.incls.length cc3, .slice a4 b.roles.length cc4, .slice a5 b.facts.length cc5, .slice a6 b.links.length cc6] 30 (0, 0)) := by rw [← hW0]; exact blkAlloc (blkAlloc (blkNew rfl) _) _
  have hb1 : W0.heap[w.heap.size + 1]? = some (.cells #[.slice A1 q.1.length d1, .slice A2 q.2.length d2] 33 (0, 0)) := by rw [← hW0]; exact blkAlloc (blkNew (by simp)) _
  have hb2 : W0.heap[w.heap.size + 1 + 1]? = some (.cells #[.slice none 0 0, .slice none 0 0] 33 (0, 0)) := by rw [← hW0]; exact blkNew (by simp)
  clear hW0
  have HK0 := Lib.hid hK0
  have HB0 := Lib.hid hb0
  have HB1 := Lib.hid hb1
  have HB2 := Lib.hid hb2
  have hz0 := hK0.size
  have hub : w.heap.size + 1 + 1 < W0.heap.size := blkLt hb2
  have hH : ∀ w', Keeps (fun k => (Value.slice A1 q.1.length d1).ownBlock = some k ∨ (Value.slice A2 q.2.length d2).ownBlock = some k ∨ k = w.heap.size + 1 + 1) W0 w' → (w'.cell? ⟨w.heap.size, 3, none⟩ = some (.slice (some ⟨bb, o, none⟩) b.incls.length cc3) ∧ w'.cell? ⟨w.heap.size + 1, 0, none⟩ = some (.slice A1 q.1.length d1) ∧ w'.cell? ⟨w.heap.size + 1, 1, none⟩ = some (.slice A2 q.2.length d2) ∧ w'.cell? ⟨bb, o + k * 6, none⟩ = some (.int .i64 op1) ∧ w'.cell? ⟨bb, o + k * 6 + 1, none⟩ = some (.int .i64 n1) ∧ w'.cell? ⟨bb, o + k * 6 + 2, none⟩ = some (.slice B1 args1.length c1) ∧ w'.cell? ⟨bb, o + k * 6 + 3, none⟩ = some (.int .i64 op2) ∧ w'.cell? ⟨bb, o + k * 6 + 3 + 1, none⟩ = some (.int .i64 n2) ∧ w'.cell? ⟨bb, o + k * 6 + 3 + 2, none⟩ = some (.slice B2 args2.length c2)) := by
    intro w' hK
    obtain ⟨x0, x1, x2, x3, x4, x5, x6⟩ := cells7 (hK.blk HB0.out (fun e => by rcases e with e | e | e; (have := HOV.out _ e; omega); (have := HOU.out _ e; omega); omega))
    obtain ⟨y0, y1⟩ := cells2 (hK.blk HB1.out (fun e => by rcases e with e | e | e; (have := HOV.out _ e; omega); (have := HOU.out _ e; omega); omega))
    have hbw' : bb ≠ w.heap.size + 1 + 1 := by rintro rfl; have := HBL.out; omega
    obtain ⟨e0, e1, e2, e3, e4, e5⟩ := HE.out
    have kc : ∀ a v, w.cell? ⟨bb, a, none⟩ = some v → w'.cell? ⟨bb, a, none⟩ = some v := fun a v h => hK.cell (HK0.out.cell h (fun h => h)) (fun e => by rcases e with e | e | e; exact HBO.out.1 e; exact HBO.out.2 e; exact hbw' e)
    exact ⟨x3, y0, y1, kc _ _ e0, kc _ _ e1, kc _ _ e2, kc _ _ e3, kc _ _ e4, kc _ _ e5⟩
  have HH := Lib.hid hH
  clear hK0 hb0 hb1 hb2 hH
  obtain ⟨b0, b1, b2, b3, b4, b5, b6, b7, b8⟩ := HH.out _ (Keeps.refl _ _)
  go_wp2_with fail
  clear b0 b1 b2 b3 b4 b5 b6 b7 b8
  go_region_held3 (fun w' => (w'.cell? ⟨w.heap.size, 3, none⟩ = some (.slice (some ⟨bb, o, none⟩) b.incls.length cc3) ∧ w'.cell? ⟨w.heap.size + 1, 0, none⟩ = some (.slice A1 q.1.length d1) ∧ w'.cell? ⟨w.heap.size + 1, 1, none⟩ = some (.slice A2 q.2.length d2) ∧ w'.cell? ⟨bb, o + k * 6, none⟩ = some (.int .i64 op1) ∧ w'.cell? ⟨bb, o + k * 6 + 1, none⟩ = some (.int .i64 n1) ∧ w'.cell? ⟨bb, o + k * 6 + 2, none⟩ = some (.slice B1 args1.length c1) ∧ w'.cell? ⟨bb, o + k * 6 + 3, none⟩ = some (.int .i64 op2) ∧ w'.cell? ⟨bb, o + k * 6 + 3 + 1, none⟩ = some (.int .i64 n2) ∧ w'.cell? ⟨bb, o + k * 6 + 3 + 2, none⟩ = some (.slice B2 args2.length c2)))
    (first | exact HH.out _ (Keeps.refl _ _) | exact HH.out _ (Keeps.refl _ _).drew | exact HH.out _ HX2.out | exact HH.out _ HX3.out | exact HH.out _ ((HX3.out.set (Or.inl (Or.inr (Or.inr rfl))) _).set (Or.inl (Or.inr (Or.inr rfl))) _))
    ((first
      | ((with_reducible show Calls _ _ #[_, .agg #[.int .i64 op1, _, _]] _ _); go_at_call 76; refine (HO1.out W0.drew (HK0.out.drew)).mono ?_; rintro e w2 ⟨v2, u2, rfl, hac⟩; have HK2 := Lib.hid hac.keep.undrew; have HX2 := Lib.hid (hac.keep.undrew.monoS (T := fun k => (Value.slice A1 q.1.length d1).ownBlock = some k ∨ (Value.slice A2 q.2.length d2).ownBlock = some k ∨ k = w.heap.size + 1 + 1) (fun k h => by rcases h with h | h; exact .inl h; exact .inr (.inl h))); have HAC := Lib.hid hac; have HO2' := Lib.hid (HO2.out W0.drew w2 v2 u2 (HK0.out.drew) hac); clear hac)
      | ((with_reducible show Calls _ _ #[_, .agg #[.int .i64 op2, _, _]] _ _); go_at_call 76; refine HO2'.out.mono ?_; rintro e w3 ⟨v3, u3, rfl, hac3⟩; have HT3 := Lib.hid (HAC.out.trans hac3); have HK3 := Lib.hid (HAC.out.trans hac3).keep.undrew; have HX3 := Lib.hid ((HAC.out.trans hac3).keep.undrew.monoS (T := fun k => (Value.slice A1 q.1.length d1).ownBlock = some k ∨ (Value.slice A2 q.2.length d2).ownBlock = some k ∨ k = w.heap.size + 1 + 1) (fun k h => by rcases h with h | h; exact .inl h; exact .inr (.inl h))); have HAC3 := Lib.hid hac3; obtain ⟨A3, d3, hA3, -⟩ := ownSl hac3.a; obtain ⟨A4, d4, hA4, -⟩ := ownSl hac3.b; subst hA3; subst hA4; have hb3 := HK3.out.blk HB2.out (fun e => by rcases e with e | e; (have := HOV.out _ e; omega); (have := HOU.out _ e; omega)); have f0 := blkFree hb3 0; have f1 := blkFree hb3 1; have ul3 := blkLt hb3; obtain ⟨z0, z1⟩ := cells2 hb3; have HB3 := Lib.hid hb3; clear hac3 hb3)))
  all_goals
    go_wp2_with fail
    have hb4 := blkSet (blkSet HB3.out 0 (.slice A3 q2.1.length d3)) 1 (.slice A4 q2.2.length d4)
    obtain ⟨t0, t1⟩ := cells2 hb4
    refine bodyPost_ret (v := .agg #[.slice A3 q2.1.length d3, .slice A4 q2.2.length d4]) ?g1 rfl ⟨_, _, rfl, AccU.offS (S := fun i => i = w.heap.size + 1 + 1) ((HA.out.more HK0.out.drew).trans HT3.out) ?g2 ?g3⟩
    case g1 => simp [results, Tryz.results56, go_sem, t0, t1]
    case g2 => repeat (first | exact Keeps.refl _ _ | refine Keeps.drew ?_ | refine Keeps.set ?_ (Or.inl (by rfl)) _)
    case g3 => rintro k rfl; exact ⟨by omega, HAC3.out.a.notBox HB3.out, HAC3.out.b.notBox HB3.out⟩
set_option maxRecDepth 100000 in
set_option maxHeartbeats 16000000 in
theorem uses19c_calls (base : Nat) (b : Kb) (p : KbA) (k : Nat) (v u : Value) (q : List Int × List Int) (ok : Nat → Prop) (w : World) (hb : KbR ok w b p) (hv : KbFit b) (hbw : base ≤ w.heap.size) (hoff : OffU ok v u) (ha : AccU base v u w q v u w) (hk : k < b.facts.length) (hl1 : b.incls.length ≤ 1000000) (hl2 : b.roles.length ≤ 1000000) (hl3 : b.facts.length ≤ 1000000) (hl4 : b.links.length ≤ 1000000) (hs1 : q.1.length + b.facts[k].2.size ≤ 100000) (hs2 : q.2.length + b.facts[k].2.size ≤ 100000) :
    Calls Tryz.prog 56 #[.agg #[.slice p.a0 b.cs.length p.c0, .slice p.a1 b.rs.length p.c1, .slice p.a2 b.is.length p.c2, .slice p.a3 b.incls.length p.c3, .slice p.a4 b.roles.length p.c4, .slice p.a5 b.facts.length p.c5, .slice p.a6 b.links.length p.c6], .int .i64 ((b.incls.length + b.roles.length + k : Nat) : Int), .agg #[v, u]] w (RetU base v u w (useAx (.fact b.facts[k].1 b.facts[k].2) q)) := by
  have hxm : b.facts[k] ∈ b.facts := List.getElem_mem _
  obtain ⟨bb, o, hat, hbb, hcl⟩ := hb.facts (by intro h; rw [h] at hk; simp at hk)
  have hbo := hoff bb hbb
  have HA := Lib.hid ha
  have HBL : Hid (bb < w.heap.size) := by unfold Hid; exact World.block_lt_of_cell? w _ (by obtain ⟨A1, c1, e0, _⟩ := hcl k hk; exact e0)
  obtain ⟨B1, c1, e0, e1, e2, e3, r1⟩ := hcl k hk
  have hof1 : ∀ W, Keeps (fun _ => False) w W → Calls Tryz.prog 76 #[.agg #[v, u], .agg #[.int .i64 b.facts[k].2.op, .int .i64 b.facts[k].2.n, .slice B1 b.facts[k].2.args.length c1]] W (RetU base v u W (usesC b.facts[k].2 q)) :=
    fun W h => add19_calls base _ B1 c1 ok v u q W (by omega) (by omega) (Nat.le_trans hbw h.size) (r1.keep h (fun _ _ h => h)) hoff (AccU.start (ha.a.keep' h (fun _ _ h => h)) (ha.b.keep' h (fun _ _ h => h)) ha.ne)
  simp only [useAx]
  generalize usesC b.facts[k].2 q = q1 at *
  generalize b.facts[k].1 = ff1 at *
  generalize b.facts[k].2 = dd1 at *
  obtain ⟨op1, n1, args1⟩ := dd1
  simp only [Con.op, Con.n, Con.args] at *
  have HO1 := Lib.hid hof1
  have HE := Lib.hid (And.intro e1 (And.intro e2 e3))
  clear hof1 e0 e1 e2 e3 r1
  obtain ⟨A1, d1, rfl, -⟩ := ownSl ha.a
  obtain ⟨A2, d2, rfl, -⟩ := ownSl ha.b
  clear hxm hb hcl ha
  have HOF := Lib.hid hoff
  have HBO := Lib.hid hbo
  clear hoff hbo
  have hk1 : (k : Int) < b.facts.length := by omega
  have hk0 : (0 : Int) ≤ k := by omega
  obtain ⟨a0, a1, a2, a3, a4, a5, a6, cc0, cc1, cc2, cc3, cc4, cc5, cc6⟩ := p
  simp only at hat ⊢
  subst hat
  have hov : ∀ k, (Value.slice A1 q.1.length d1).ownBlock = some k → k < w.heap.size := fun k e => (HA.out.a.lt' e).2
  have hou : ∀ k, (Value.slice A2 q.2.length d2).ownBlock = some k → k < w.heap.size := fun k e => (HA.out.b.lt' e).2
  have HOV := Lib.hid hov
  have HOU := Lib.hid hou
  clear hov hou
  obtain ⟨N0, hN0⟩ : ∃ N0 : Nat, N0 = b.incls.length + b.roles.length + k := ⟨_, rfl⟩
  rw [← hN0]
  obtain ⟨N1, hN1⟩ : ∃ m : Nat, m = N0 - b.incls.length := ⟨_, rfl⟩
  have g0 : ¬ ((N0 : Int) < (b.incls.length : Int)) := by omega
  have s0 : wrap64 ((N0 : Int) - (b.incls.length : Int)) = (N1 : Int) := by unfold wrap64; omega
  have g1 : ¬ ((N1 : Int) < (b.roles.length : Int)) := by omega
  have s1 : wrap64 ((N1 : Int) - (b.roles.length : Int)) = (k : Int) := by unfold wrap64; omega
  clear hN0 hN1
  go_enter Tryz.func56, Tryz.ntmps56
  go_wp2_with fail
  generalize hW0 : World.alloc _ _ = W0
  have hK0 : Keeps (fun _ => False) w W0 := by rw [← hW0]; repeat (first | exact Keeps.refl _ _ | refine Keeps.drewN ?_ _ | refine Keeps.drew ?_ | refine Keeps.alloc ?_ _ | refine Keeps.set ?_ (Or.inl (by rfl)) _)
  have hb0 : W0.heap[w.heap.size]? = some (.cells #[.slice a0 b.cs.length cc0, .slice a1 b.rs.length cc1, .slice a2 b.is.length cc2, .slice a3 b.incls.length cc3, .slice a4 b.roles.length cc4, .slice (some ⟨bb, o, none⟩) b.facts.length cc5, .slice a6 b.links.length cc6] 30 (0, 0)) := by rw [← hW0]; exact blkAlloc (blkAlloc (blkNew rfl) _) _
  have hb1 : W0.heap[w.heap.size + 1]? = some (.cells #[.slice A1 q.1.length d1, .slice A2 q.2.length d2] 33 (0, 0)) := by rw [← hW0]; exact blkAlloc (blkNew (by simp)) _
  have hb2 : W0.heap[w.heap.size + 1 + 1]? = some (.cells #[.slice none 0 0, .slice none 0 0] 33 (0, 0)) := by rw [← hW0]; exact blkNew (by simp)
  clear hW0
  have HK0 := Lib.hid hK0
  have HB0 := Lib.hid hb0
  have HB1 := Lib.hid hb1
  have HB2 := Lib.hid hb2
  have hz0 := hK0.size
  have hub : w.heap.size + 1 + 1 < W0.heap.size := blkLt hb2
  have hH : ∀ w', Keeps (fun k => (Value.slice A1 q.1.length d1).ownBlock = some k ∨ (Value.slice A2 q.2.length d2).ownBlock = some k ∨ k = w.heap.size + 1 + 1) W0 w' → (w'.cell? ⟨w.heap.size, 3, none⟩ = some (.slice a3 b.incls.length cc3) ∧ w'.cell? ⟨w.heap.size, 4, none⟩ = some (.slice a4 b.roles.length cc4) ∧ w'.cell? ⟨w.heap.size, 5, none⟩ = some (.slice (some ⟨bb, o, none⟩) b.facts.length cc5) ∧ w'.cell? ⟨w.heap.size + 1, 0, none⟩ = some (.slice A1 q.1.length d1) ∧ w'.cell? ⟨w.heap.size + 1, 1, none⟩ = some (.slice A2 q.2.length d2) ∧ w'.cell? ⟨bb, o + k * 4 + 1, none⟩ = some (.int .i64 op1) ∧ w'.cell? ⟨bb, o + k * 4 + 1 + 1, none⟩ = some (.int .i64 n1) ∧ w'.cell? ⟨bb, o + k * 4 + 1 + 2, none⟩ = some (.slice B1 args1.length c1)) := by
    intro w' hK
    obtain ⟨x0, x1, x2, x3, x4, x5, x6⟩ := cells7 (hK.blk HB0.out (fun e => by rcases e with e | e | e; (have := HOV.out _ e; omega); (have := HOU.out _ e; omega); omega))
    obtain ⟨y0, y1⟩ := cells2 (hK.blk HB1.out (fun e => by rcases e with e | e | e; (have := HOV.out _ e; omega); (have := HOU.out _ e; omega); omega))
    have hbw' : bb ≠ w.heap.size + 1 + 1 := by rintro rfl; have := HBL.out; omega
    obtain ⟨e1, e2, e3⟩ := HE.out
    have kc : ∀ a v, w.cell? ⟨bb, a, none⟩ = some v → w'.cell? ⟨bb, a, none⟩ = some v := fun a v h => hK.cell (HK0.out.cell h (fun h => h)) (fun e => by rcases e with e | e | e; exact HBO.out.1 e; exact HBO.out.2 e; exact hbw' e)
    exact ⟨x3, x4, x5, y0, y1, kc _ _ e1, kc _ _ e2, kc _ _ e3⟩
  have HH := Lib.hid hH
  clear hK0 hb0 hb1 hb2 hH
  obtain ⟨b0, b1, b2, b3, b4, b5, b6, b7⟩ := HH.out _ (Keeps.refl _ _)
  go_wp2_with fail
  clear b0 b1 b2 b3 b4 b5 b6 b7
  go_region_held3 (fun w' => (w'.cell? ⟨w.heap.size, 3, none⟩ = some (.slice a3 b.incls.length cc3) ∧ w'.cell? ⟨w.heap.size, 4, none⟩ = some (.slice a4 b.roles.length cc4) ∧ w'.cell? ⟨w.heap.size, 5, none⟩ = some (.slice (some ⟨bb, o, none⟩) b.facts.length cc5) ∧ w'.cell? ⟨w.heap.size + 1, 0, none⟩ = some (.slice A1 q.1.length d1) ∧ w'.cell? ⟨w.heap.size + 1, 1, none⟩ = some (.slice A2 q.2.length d2) ∧ w'.cell? ⟨bb, o + k * 4 + 1, none⟩ = some (.int .i64 op1) ∧ w'.cell? ⟨bb, o + k * 4 + 1 + 1, none⟩ = some (.int .i64 n1) ∧ w'.cell? ⟨bb, o + k * 4 + 1 + 2, none⟩ = some (.slice B1 args1.length c1)))
    (first | exact HH.out _ (Keeps.refl _ _) | exact HH.out _ (Keeps.refl _ _).drew | exact HH.out _ HX3.out | exact HH.out _ ((HX3.out.set (Or.inl (Or.inr (Or.inr rfl))) _).set (Or.inl (Or.inr (Or.inr rfl))) _))
    ((go_at_call 76; refine (HO1.out W0.drew (HK0.out.drew)).mono ?_; rintro e w3 ⟨v3, u3, rfl, hac3⟩; have HK3 := Lib.hid hac3.keep.undrew; have HX3 := Lib.hid (hac3.keep.undrew.monoS (T := fun k => (Value.slice A1 q.1.length d1).ownBlock = some k ∨ (Value.slice A2 q.2.length d2).ownBlock = some k ∨ k = w.heap.size + 1 + 1) (fun k h => by rcases h with h | h; exact .inl h; exact .inr (.inl h))); have HAC3 := Lib.hid hac3; obtain ⟨A3, d3, hA3, -⟩ := ownSl hac3.a; obtain ⟨A4, d4, hA4, -⟩ := ownSl hac3.b; subst hA3; subst hA4; have hb3 := HK3.out.blk HB2.out (fun e => by rcases e with e | e; (have := HOV.out _ e; omega); (have := HOU.out _ e; omega)); have f0 := blkFree hb3 0; have f1 := blkFree hb3 1; have ul3 := blkLt hb3; obtain ⟨z0, z1⟩ := cells2 hb3; have HB3 := Lib.hid hb3; clear hac3 hb3))
  all_goals
    go_wp2_with fail
    have hb4 := blkSet (blkSet HB3.out 0 (.slice A3 q1.1.length d3)) 1 (.slice A4 q1.2.length d4)
    obtain ⟨t0, t1⟩ := cells2 hb4
    refine bodyPost_ret (v := .agg #[.slice A3 q1.1.length d3, .slice A4 q1.2.length d4]) ?g1 rfl ⟨_, _, rfl, AccU.offS (S := fun i => i = w.heap.size + 1 + 1) ((HA.out.more HK0.out.drew).trans HAC3.out) ?g2 ?g3⟩
    case g1 => simp [results, Tryz.results56, go_sem, t0, t1]
    case g2 => repeat (first | exact Keeps.refl _ _ | refine Keeps.drew ?_ | refine Keeps.set ?_ (Or.inl (by rfl)) _)
    case g3 => rintro k rfl; exact ⟨by omega, HAC3.out.a.notBox HB3.out, HAC3.out.b.notBox HB3.out⟩
set_option maxRecDepth 100000 in
set_option maxHeartbeats 16000000 in
theorem uses19b_calls (base : Nat) (b : Kb) (p : KbA) (k : Nat) (v u : Value) (q : List Int × List Int) (ok : Nat → Prop) (w : World) (hb : KbR ok w b p) (hv : KbFit b) (hbw : base ≤ w.heap.size) (hoff : OffU ok v u) (ha : AccU base v u w q v u w) (hk : k < b.roles.length) (hl1 : b.incls.length ≤ 1000000) (hl2 : b.roles.length ≤ 1000000) (hl3 : b.facts.length ≤ 1000000) (hl4 : b.links.length ≤ 1000000) (hs2 : q.2.length ≤ 100000) :
    Calls Tryz.prog 56 #[.agg #[.slice p.a0 b.cs.length p.c0, .slice p.a1 b.rs.length p.c1, .slice p.a2 b.is.length p.c2, .slice p.a3 b.incls.length p.c3, .slice p.a4 b.roles.length p.c4, .slice p.a5 b.facts.length p.c5, .slice p.a6 b.links.length p.c6], .int .i64 ((b.incls.length + k : Nat) : Int), .agg #[v, u]] w (RetU base v u w (useAx (.role b.roles[k].1 b.roles[k].2) q)) := by
  have hxm : b.roles[k] ∈ b.roles := List.getElem_mem _
  obtain ⟨bb, o, hat, hbb, hcl⟩ := hb.roles (by intro h; rw [h] at hk; simp at hk)
  have hbo := hoff bb hbb
  have HA := Lib.hid ha
  have HBL : Hid (bb < w.heap.size) := by unfold Hid; exact World.block_lt_of_cell? w _ (hcl k hk).1
  have hrr := hv.r _ hxm
  have hec := hcl k hk
  have hin1 : ∀ W, Keeps (fun _ => False) w W → Calls Tryz.prog 16 #[u, .int .i64 (b.roles[k].1 / 2)] W fun e w' => ∃ u', e = .returned u' ∧ AccN base u W (insZ (b.roles[k].1 / 2) q.2) u' w' := fun W h => insert_calls base _ q.2 u W (by omega) (Nat.le_trans hbw h.size) (ha.b.keep' h (fun _ _ h => h))
  have hin2 : ∀ W w2 u', Keeps (fun _ => False) w W → AccN base u W (insZ (b.roles[k].1 / 2) q.2) u' w2 → Calls Tryz.prog 16 #[u', .int .i64 (b.roles[k].2 / 2)] w2 fun e w' => ∃ u2, e = .returned u2 ∧ AccN base u' w2 (insZ (b.roles[k].2 / 2) (insZ (b.roles[k].1 / 2) q.2)) u2 w' := fun W w2 u' h hn => insert_calls base _ _ u' w2 (by have := insZ_len (b.roles[k].1 / 2) q.2; omega) (by have := h.size; have := hn.keep.size; omega) hn.own
  simp only [useAx]
  generalize insZ (b.roles[k].2 / 2) (insZ (b.roles[k].1 / 2) q.2) = L2 at *
  generalize insZ (b.roles[k].1 / 2) q.2 = L1 at *
  generalize b.roles[k].1 = x1 at *
  generalize b.roles[k].2 = x2 at *
  have hw1 : wrap64 (x1.tdiv 2) = x1 / 2 := half_z (by omega) (by have := hv.n; omega)
  have hw2 : wrap64 (x2.tdiv 2) = x2 / 2 := half_z (by omega) (by have := hv.n; omega)
  have hv1 : IntKind.i64.wrap (x1.tdiv 2) = x1 / 2 := by rw [Int.tdiv_eq_ediv_of_nonneg (by omega)]; exact IntWalk.i64_in _ (by have := hv.n; omega)
  have hv2 : IntKind.i64.wrap (x2.tdiv 2) = x2 / 2 := by rw [Int.tdiv_eq_ediv_of_nonneg (by omega)]; exact IntWalk.i64_in _ (by have := hv.n; omega)
  have HI1 := Lib.hid hin1
  have HI2 := Lib.hid hin2
  have HE := Lib.hid hec
  clear hin1 hin2 hec hrr
  obtain ⟨A1, d1, rfl, -⟩ := ownSl ha.a
  obtain ⟨A2, d2, rfl, -⟩ := ownSl ha.b
  clear hxm hb hcl ha
  have HOF := Lib.hid hoff
  have HBO := Lib.hid hbo
  clear hoff hbo
  have hk1 : (k : Int) < b.roles.length := by omega
  have hk0 : (0 : Int) ≤ k := by omega
  obtain ⟨a0, a1, a2, a3, a4, a5, a6, cc0, cc1, cc2, cc3, cc4, cc5, cc6⟩ := p
  simp only at hat ⊢
  subst hat
  have hov : ∀ k, (Value.slice A1 q.1.length d1).ownBlock = some k → k < w.heap.size := fun k e => (HA.out.a.lt' e).2
  have hou : ∀ k, (Value.slice A2 q.2.length d2).ownBlock = some k → k < w.heap.size := fun k e => (HA.out.b.lt' e).2
  have HOV := Lib.hid hov
  have HOU := Lib.hid hou
  clear hov hou
  obtain ⟨N0, hN0⟩ : ∃ N0 : Nat, N0 = b.incls.length + k := ⟨_, rfl⟩
  rw [← hN0]
  have g0 : ¬ ((N0 : Int) < (b.incls.length : Int)) := by omega
  have s0 : wrap64 ((N0 : Int) - (b.incls.length : Int)) = (k : Int) := by unfold wrap64; omega
  clear hN0
  go_enter Tryz.func56, Tryz.ntmps56
  go_wp2_with fail
  generalize hW0 : World.alloc _ _ = W0
  have hK0 : Keeps (fun _ => False) w W0 := by rw [← hW0]; repeat (first | exact Keeps.refl _ _ | refine Keeps.drewN ?_ _ | refine Keeps.drew ?_ | refine Keeps.alloc ?_ _ | refine Keeps.set ?_ (Or.inl (by rfl)) _)
  have hb0 : W0.heap[w.heap.size]? = some (.cells #[.slice a0 b.cs.length cc0, .slice a1 b.rs.length cc1, .slice a2 b.is.length cc2, .slice a3 b.incls.length cc3, .slice (some ⟨bb, o, none⟩) b.roles.length cc4, .slice a5 b.facts.length cc5, .slice a6 b.links.length cc6] 30 (0, 0)) := by rw [← hW0]; exact blkAlloc (blkAlloc (blkNew rfl) _) _
  have hb1 : W0.heap[w.heap.size + 1]? = some (.cells #[.slice A1 q.1.length d1, .slice A2 q.2.length d2] 33 (0, 0)) := by rw [← hW0]; exact blkAlloc (blkNew (by simp)) _
  have hb2 : W0.heap[w.heap.size + 1 + 1]? = some (.cells #[.slice none 0 0, .slice none 0 0] 33 (0, 0)) := by rw [← hW0]; exact blkNew (by simp)
  clear hW0
  have HK0 := Lib.hid hK0
  have HB0 := Lib.hid hb0
  have HB1 := Lib.hid hb1
  have HB2 := Lib.hid hb2
  have hz0 := hK0.size
  have hub : w.heap.size + 1 + 1 < W0.heap.size := blkLt hb2
  have hH : ∀ w', Keeps (fun k => (Value.slice A1 q.1.length d1).ownBlock = some k ∨ (Value.slice A2 q.2.length d2).ownBlock = some k ∨ k = w.heap.size + 1 + 1) W0 w' → (w'.cell? ⟨w.heap.size, 3, none⟩ = some (.slice a3 b.incls.length cc3) ∧ w'.cell? ⟨w.heap.size, 4, none⟩ = some (.slice (some ⟨bb, o, none⟩) b.roles.length cc4) ∧ w'.cell? ⟨w.heap.size + 1, 0, none⟩ = some (.slice A1 q.1.length d1) ∧ w'.cell? ⟨w.heap.size + 1, 1, none⟩ = some (.slice A2 q.2.length d2) ∧ w'.cell? ⟨bb, o + k * 2, none⟩ = some (.int .i64 x1) ∧ w'.cell? ⟨bb, o + k * 2 + 1, none⟩ = some (.int .i64 x2) ∧ bb < w'.heap.size) := by
    intro w' hK
    obtain ⟨x0, x1, x2, x3, x4, x5, x6⟩ := cells7 (hK.blk HB0.out (fun e => by rcases e with e | e | e; (have := HOV.out _ e; omega); (have := HOU.out _ e; omega); omega))
    obtain ⟨y0, y1⟩ := cells2 (hK.blk HB1.out (fun e => by rcases e with e | e | e; (have := HOV.out _ e; omega); (have := HOU.out _ e; omega); omega))
    have hbw' : bb ≠ w.heap.size + 1 + 1 := by rintro rfl; have := HBL.out; omega
    obtain ⟨e0, e1⟩ := HE.out
    have kc : ∀ a v, w.cell? ⟨bb, a, none⟩ = some v → w'.cell? ⟨bb, a, none⟩ = some v := fun a v h => hK.cell (HK0.out.cell h (fun h => h)) (fun e => by rcases e with e | e | e; exact HBO.out.1 e; exact HBO.out.2 e; exact hbw' e)
    exact ⟨x3, x4, y0, y1, kc _ _ e0, kc _ _ e1, World.block_lt_of_cell? _ _ (kc _ _ e0)⟩
  have HH := Lib.hid hH
  clear hK0 hb0 hb1 hb2 hH
  obtain ⟨b0, b1, b2, b3, b4, b5, b6⟩ := HH.out _ (Keeps.refl _ _)
  have ub := blkLt HB0.out
  have ub1 := blkLt HB1.out
  go_wp2_with fail
  go_cut [6] from 7 (fun v wc => v = .pointer (some ⟨w.heap.size + 1 + 1, 0, none⟩) ∧ ∃ u' w4, AccN base (.slice A2 q.2.length d2) W0.drew L2 u' w4 ∧ wc = w4.setCell ⟨w.heap.size + 1, 1, none⟩ u')
  case first =>
    go_region_law
      (first
        | (refine step_call (by rfl) 16 #[.slice A2 q.2.length d2, .int .i64 (x1 / 2)] (by first | (go_simp; done) | (go_simp; rfl)) ?_; refine (HI1.out W0.drew HK0.out.drew).mono ?_; rintro e w2 ⟨u2, rfl, hn⟩; refine ⟨_, rfl, ?_⟩; have HI2' := Lib.hid (HI2.out W0.drew w2 u2 HK0.out.drew hn); have HN5 := Lib.hid hn; obtain ⟨A5, d5, hA5, -⟩ := ownSl hn.own; subst hA5; have HK5 := Lib.hid HN5.out.keep.undrew; clear hn; obtain ⟨c50, c51, c52, c53, c54, c55, c56⟩ := HH.out w2 (HK5.out.monoS (T := fun k => (Value.slice A1 q.1.length d1).ownBlock = some k ∨ (Value.slice A2 q.2.length d2).ownBlock = some k ∨ k = w.heap.size + 1 + 1) (fun k h => .inr (.inl h))); have hbx5 := HK5.out.blk HB1.out (fun e => by have := HOU.out _ e; omega); have ff5 := blkFree hbx5 1; have HBX5 := Lib.hid hbx5; have hbz5 := HK5.out.blk HB2.out (fun e => by have := HOU.out _ e; omega); have fz5 := blkFree hbz5 0; have fy5 := blkFree hbz5 1; obtain ⟨zz5, zy5⟩ := cells2 hbz5; have HBZ5 := Lib.hid hbz5; have ul5 := blkLt hbx5; have uz5 := blkLt hbz5; clear hbx5 hbz5)
        | (refine step_call (by rfl) 16 #[.slice A5 L1.length d5, .int .i64 (x2 / 2)] (by first | (go_simp; done) | (go_simp; rfl)) ?_; refine HI2'.out.mono ?_; rintro e w3 ⟨u3, rfl, hn⟩; refine ⟨_, rfl, ?_⟩; have HN6 := Lib.hid (HN5.out.trans hn); obtain ⟨A6, d6, hA6, -⟩ := ownSl hn.own; subst hA6; have HK6 := Lib.hid HN6.out.keep.undrew; clear hn; obtain ⟨c60, c61, c62, c63, c64, c65, c66⟩ := HH.out w3 (HK6.out.monoS (T := fun k => (Value.slice A1 q.1.length d1).ownBlock = some k ∨ (Value.slice A2 q.2.length d2).ownBlock = some k ∨ k = w.heap.size + 1 + 1) (fun k h => .inr (.inl h))); have hbx6 := HK6.out.blk HB1.out (fun e => by have := HOU.out _ e; omega); have ff6 := blkFree hbx6 1; have HBX6 := Lib.hid hbx6; have hbz6 := HK6.out.blk HB2.out (fun e => by have := HOU.out _ e; omega); have fz6 := blkFree hbz6 0; have fy6 := blkFree hbz6 1; obtain ⟨zz6, zy6⟩ := cells2 hbz6; have HBZ6 := Lib.hid hbz6; have ul6 := blkLt hbx6; have uz6 := blkLt hbz6; clear hbx6 hbz6)
        | fail)
    all_goals
      go_wp2_with fail
      go_meet
      exact ⟨rfl, _, _, HN6.out, rfl⟩
  case rest =>
    obtain ⟨rfl, u', w4, hn4, rfl⟩ := hcut
    obtain ⟨A6, d6, rfl, -⟩ := ownSl hn4.own
    have HN6 := Lib.hid hn4
    have HK6 := Lib.hid hn4.keep.undrew
    have HBX6 := Lib.hid (HK6.out.blk HB1.out (fun e => by have := HOU.out _ e; omega))
    have HBZ6 := Lib.hid (HK6.out.blk HB2.out (fun e => by have := HOU.out _ e; omega))
    clear hn4 b0 b1 b2 b3 b4 b5 b6
    have hs1 := blkSet HBX6.out 1 (.slice A6 L2.length d6)
    obtain ⟨r0, r1⟩ := cells2 hs1
    have hz1 : ((w4.setCell ⟨w.heap.size + 1, 1, none⟩ (.slice A6 L2.length d6))).heap[w.heap.size + 1 + 1]? = some (.cells #[.slice none 0 0, .slice none 0 0] 33 (0, 0)) := ((Keeps.refl (fun i => i = w.heap.size + 1) w4).set (g := w.heap.size + 1) (Or.inl (by rfl)) _).blk HBZ6.out (by omega)
    have q0 := blkFree hz1 0
    have q1' := blkFree hz1 1
    obtain ⟨zc0, zc1⟩ := cells2 hz1
    have lq := blkLt hz1
    have lq1 := blkLt hs1
    have HZ1 := Lib.hid hz1
    clear hs1 hz1
    generalize hW5 : World.setCell w4 _ _ = W5 at *
    go_wp2_with fail
    have hb4 := blkSet (blkSet HZ1.out 0 (.slice A1 q.1.length d1)) 1 (.slice A6 L2.length d6)
    obtain ⟨t0, t1⟩ := cells2 hb4
    refine bodyPost_ret (v := .agg #[.slice A1 q.1.length d1, .slice A6 L2.length d6]) ?g1 rfl ⟨_, _, rfl, AccU.offS (S := fun i => i = w.heap.size + 1 ∨ i = w.heap.size + 1 + 1) ((HA.out.more HK0.out.drew).ins2 HN6.out) ?g2 ?g3⟩
    case g1 => simp [results, Tryz.results56, go_sem, t0, t1]
    case g2 => rw [← hW5]; repeat (first | exact Keeps.refl _ _ | refine Keeps.drew ?_ | refine Keeps.set ?_ (Or.inl (Or.inl rfl)) _ | refine Keeps.set ?_ (Or.inl (Or.inr rfl)) _)
    case g3 =>
      rintro k (rfl | rfl)
      · exact ⟨by omega, fun e => by have := HOV.out _ e; omega, HN6.out.own.notBox HBX6.out⟩
      · exact ⟨by omega, fun e => by have := HOV.out _ e; omega, HN6.out.own.notBox HBZ6.out⟩
set_option maxRecDepth 100000 in
set_option maxHeartbeats 16000000 in
theorem uses19d_calls (base : Nat) (b : Kb) (p : KbA) (k : Nat) (v u : Value) (q : List Int × List Int) (ok : Nat → Prop) (w : World) (hb : KbR ok w b p) (hv : KbFit b) (hbw : base ≤ w.heap.size) (hoff : OffU ok v u) (ha : AccU base v u w q v u w) (hk : k < b.links.length) (hl1 : b.incls.length ≤ 1000000) (hl2 : b.roles.length ≤ 1000000) (hl3 : b.facts.length ≤ 1000000) (hl4 : b.links.length ≤ 1000000) (hs2 : q.2.length ≤ 100000) :
    Calls Tryz.prog 56 #[.agg #[.slice p.a0 b.cs.length p.c0, .slice p.a1 b.rs.length p.c1, .slice p.a2 b.is.length p.c2, .slice p.a3 b.incls.length p.c3, .slice p.a4 b.roles.length p.c4, .slice p.a5 b.facts.length p.c5, .slice p.a6 b.links.length p.c6], .int .i64 ((b.incls.length + b.roles.length + b.facts.length + k : Nat) : Int), .agg #[v, u]] w (RetU base v u w (useAx (.link b.links[k].1 b.links[k].2.1 b.links[k].2.2) q)) := by
  have hxm : b.links[k] ∈ b.links := List.getElem_mem _
  obtain ⟨bb, o, hat, hbb, hcl⟩ := hb.links (by intro h; rw [h] at hk; simp at hk)
  have hbo := hoff bb hbb
  have HA := Lib.hid ha
  have HBL : Hid (bb < w.heap.size) := by unfold Hid; exact World.block_lt_of_cell? w _ (hcl k hk).1
  have hec := (hcl k hk).1
  have hin1 : ∀ W, Keeps (fun _ => False) w W → Calls Tryz.prog 16 #[u, .int .i64 b.links[k].1] W fun e w' => ∃ u', e = .returned u' ∧ AccN base u W (insZ b.links[k].1 q.2) u' w' := fun W h => insert_calls base _ q.2 u W (by omega) (Nat.le_trans hbw h.size) (ha.b.keep' h (fun _ _ h => h))
  simp only [useAx]
  generalize insZ b.links[k].1 q.2 = L2 at *
  generalize b.links[k].1 = x1 at *
  have HI1 := Lib.hid hin1
  have HE := Lib.hid hec
  clear hin1 hec
  obtain ⟨A1, d1, rfl, -⟩ := ownSl ha.a
  obtain ⟨A2, d2, rfl, -⟩ := ownSl ha.b
  clear hxm hb hcl ha
  have HOF := Lib.hid hoff
  have HBO := Lib.hid hbo
  clear hoff hbo
  have hk1 : (k : Int) < b.links.length := by omega
  have hk0 : (0 : Int) ≤ k := by omega
  obtain ⟨a0, a1, a2, a3, a4, a5, a6, cc0, cc1, cc2, cc3, cc4, cc5, cc6⟩ := p
  simp only at hat ⊢
  subst hat
  have hov : ∀ k, (Value.slice A1 q.1.length d1).ownBlock = some k → k < w.heap.size := fun k e => (HA.out.a.lt' e).2
  have hou : ∀ k, (Value.slice A2 q.2.length d2).ownBlock = some k → k < w.heap.size := fun k e => (HA.out.b.lt' e).2
  have HOV := Lib.hid hov
  have HOU := Lib.hid hou
  clear hov hou
  obtain ⟨N0, hN0⟩ : ∃ N0 : Nat, N0 = b.incls.length + b.roles.length + b.facts.length + k := ⟨_, rfl⟩
  rw [← hN0]
  obtain ⟨N1, hN1⟩ : ∃ m : Nat, m = N0 - b.incls.length := ⟨_, rfl⟩
  have g0 : ¬ ((N0 : Int) < (b.incls.length : Int)) := by omega
  have s0 : wrap64 ((N0 : Int) - (b.incls.length : Int)) = (N1 : Int) := by unfold wrap64; omega
  obtain ⟨N2, hN2⟩ : ∃ m : Nat, m = N1 - b.roles.length := ⟨_, rfl⟩
  have g1 : ¬ ((N1 : Int) < (b.roles.length : Int)) := by omega
  have s1 : wrap64 ((N1 : Int) - (b.roles.length : Int)) = (N2 : Int) := by unfold wrap64; omega
  have g2 : ¬ ((N2 : Int) < (b.facts.length : Int)) := by omega
  have s2 : wrap64 ((N2 : Int) - (b.facts.length : Int)) = (k : Int) := by unfold wrap64; omega
  have t2 : IntKind.i64.wrap ((N2 : Int) - (b.facts.length : Int)) = (k : Int) := by rw [show (N2 : Int) - (b.facts.length : Int) = (k : Int) by omega]; exact IntWalk.i64_in _ (by omega)
  clear hN0 hN1 hN2
  go_enter Tryz.func56, Tryz.ntmps56
  go_wp2_with fail
  generalize hW0 : World.alloc _ _ = W0
  have hK0 : Keeps (fun _ => False) w W0 := by rw [← hW0]; repeat (first | exact Keeps.refl _ _ | refine Keeps.drewN ?_ _ | refine Keeps.drew ?_ | refine Keeps.alloc ?_ _ | refine Keeps.set ?_ (Or.inl (by rfl)) _)
  have hb0 : W0.heap[w.heap.size]? = some (.cells #[.slice a0 b.cs.length cc0, .slice a1 b.rs.length cc1, .slice a2 b.is.length cc2, .slice a3 b.incls.length cc3, .slice a4 b.roles.length cc4, .slice a5 b.facts.length cc5, .slice (some ⟨bb, o, none⟩) b.links.length cc6] 30 (0, 0)) := by rw [← hW0]; exact blkAlloc (blkAlloc (blkNew rfl) _) _
  have hb1 : W0.heap[w.heap.size + 1]? = some (.cells #[.slice A1 q.1.length d1, .slice A2 q.2.length d2] 33 (0, 0)) := by rw [← hW0]; exact blkAlloc (blkNew (by simp)) _
  have hb2 : W0.heap[w.heap.size + 1 + 1]? = some (.cells #[.slice none 0 0, .slice none 0 0] 33 (0, 0)) := by rw [← hW0]; exact blkNew (by simp)
  clear hW0
  have HK0 := Lib.hid hK0
  have HB0 := Lib.hid hb0
  have HB1 := Lib.hid hb1
  have HB2 := Lib.hid hb2
  have hz0 := hK0.size
  have hub : w.heap.size + 1 + 1 < W0.heap.size := blkLt hb2
  have hH : ∀ w', Keeps (fun k => (Value.slice A1 q.1.length d1).ownBlock = some k ∨ (Value.slice A2 q.2.length d2).ownBlock = some k ∨ k = w.heap.size + 1 + 1) W0 w' → (w'.cell? ⟨w.heap.size, 3, none⟩ = some (.slice a3 b.incls.length cc3) ∧ w'.cell? ⟨w.heap.size, 4, none⟩ = some (.slice a4 b.roles.length cc4) ∧ w'.cell? ⟨w.heap.size, 5, none⟩ = some (.slice a5 b.facts.length cc5) ∧ w'.cell? ⟨w.heap.size, 6, none⟩ = some (.slice (some ⟨bb, o, none⟩) b.links.length cc6) ∧ w'.cell? ⟨w.heap.size + 1, 0, none⟩ = some (.slice A1 q.1.length d1) ∧ w'.cell? ⟨w.heap.size + 1, 1, none⟩ = some (.slice A2 q.2.length d2) ∧ w'.cell? ⟨bb, o + k * 3, none⟩ = some (.int .i64 x1) ∧ bb < w'.heap.size) := by
    intro w' hK
    obtain ⟨x0, x1, x2, x3, x4, x5, x6⟩ := cells7 (hK.blk HB0.out (fun e => by rcases e with e | e | e; (have := HOV.out _ e; omega); (have := HOU.out _ e; omega); omega))
    obtain ⟨y0, y1⟩ := cells2 (hK.blk HB1.out (fun e => by rcases e with e | e | e; (have := HOV.out _ e; omega); (have := HOU.out _ e; omega); omega))
    have hbw' : bb ≠ w.heap.size + 1 + 1 := by rintro rfl; have := HBL.out; omega
    have e0 := HE.out
    have kc : ∀ a v, w.cell? ⟨bb, a, none⟩ = some v → w'.cell? ⟨bb, a, none⟩ = some v := fun a v h => hK.cell (HK0.out.cell h (fun h => h)) (fun e => by rcases e with e | e | e; exact HBO.out.1 e; exact HBO.out.2 e; exact hbw' e)
    exact ⟨x3, x4, x5, x6, y0, y1, kc _ _ e0, World.block_lt_of_cell? _ _ (kc _ _ e0)⟩
  have HH := Lib.hid hH
  clear hK0 hb0 hb1 hb2 hH
  obtain ⟨b0, b1, b2, b3, b4, b5, b6, b7⟩ := HH.out _ (Keeps.refl _ _)
  have ub := blkLt HB0.out
  have ub1 := blkLt HB1.out
  go_wp2_with fail
  go_cut [6] from 7 (fun v wc => v = .pointer (some ⟨w.heap.size + 1 + 1, 0, none⟩) ∧ ∃ u' w4, AccN base (.slice A2 q.2.length d2) W0.drew L2 u' w4 ∧ wc = w4.setCell ⟨w.heap.size + 1, 1, none⟩ u')
  case first =>
    go_region_law
      (first
        | (refine step_call (by rfl) 16 #[.slice A2 q.2.length d2, .int .i64 (x1)] (by first | (go_simp; done) | (go_simp; rfl)) ?_; refine (HI1.out W0.drew HK0.out.drew).mono ?_; rintro e w3 ⟨u3, rfl, hn⟩; refine ⟨_, rfl, ?_⟩; have HN6 := Lib.hid hn; obtain ⟨A6, d6, hA6, -⟩ := ownSl hn.own; subst hA6; have HK6 := Lib.hid HN6.out.keep.undrew; clear hn; obtain ⟨c60, c61, c62, c63, c64, c65, c66, c67⟩ := HH.out w3 (HK6.out.monoS (T := fun k => (Value.slice A1 q.1.length d1).ownBlock = some k ∨ (Value.slice A2 q.2.length d2).ownBlock = some k ∨ k = w.heap.size + 1 + 1) (fun k h => .inr (.inl h))); have hbx6 := HK6.out.blk HB1.out (fun e => by have := HOU.out _ e; omega); have ff6 := blkFree hbx6 1; have HBX6 := Lib.hid hbx6; have hbz6 := HK6.out.blk HB2.out (fun e => by have := HOU.out _ e; omega); have fz6 := blkFree hbz6 0; have fy6 := blkFree hbz6 1; obtain ⟨zz6, zy6⟩ := cells2 hbz6; have HBZ6 := Lib.hid hbz6; have ul6 := blkLt hbx6; have uz6 := blkLt hbz6; clear hbx6 hbz6)
        | fail)
    all_goals
      go_wp2_with fail
      go_meet
      exact ⟨rfl, _, _, HN6.out, rfl⟩
  case rest =>
    obtain ⟨rfl, u', w4, hn4, rfl⟩ := hcut
    obtain ⟨A6, d6, rfl, -⟩ := ownSl hn4.own
    have HN6 := Lib.hid hn4
    have HK6 := Lib.hid hn4.keep.undrew
    have HBX6 := Lib.hid (HK6.out.blk HB1.out (fun e => by have := HOU.out _ e; omega))
    have HBZ6 := Lib.hid (HK6.out.blk HB2.out (fun e => by have := HOU.out _ e; omega))
    clear hn4 b0 b1 b2 b3 b4 b5 b6 b7
    have hs1 := blkSet HBX6.out 1 (.slice A6 L2.length d6)
    obtain ⟨r0, r1⟩ := cells2 hs1
    have hz1 : ((w4.setCell ⟨w.heap.size + 1, 1, none⟩ (.slice A6 L2.length d6))).heap[w.heap.size + 1 + 1]? = some (.cells #[.slice none 0 0, .slice none 0 0] 33 (0, 0)) := ((Keeps.refl (fun i => i = w.heap.size + 1) w4).set (g := w.heap.size + 1) (Or.inl (by rfl)) _).blk HBZ6.out (by omega)
    have q0 := blkFree hz1 0
    have q1' := blkFree hz1 1
    obtain ⟨zc0, zc1⟩ := cells2 hz1
    have lq := blkLt hz1
    have lq1 := blkLt hs1
    have HZ1 := Lib.hid hz1
    clear hs1 hz1
    generalize hW5 : World.setCell w4 _ _ = W5 at *
    go_wp2_with fail
    have hb4 := blkSet (blkSet HZ1.out 0 (.slice A1 q.1.length d1)) 1 (.slice A6 L2.length d6)
    obtain ⟨t0, t1⟩ := cells2 hb4
    refine bodyPost_ret (v := .agg #[.slice A1 q.1.length d1, .slice A6 L2.length d6]) ?g1 rfl ⟨_, _, rfl, AccU.offS (S := fun i => i = w.heap.size + 1 ∨ i = w.heap.size + 1 + 1) ((HA.out.more HK0.out.drew).ins2 HN6.out) ?g2 ?g3⟩
    case g1 => simp [results, Tryz.results56, go_sem, t0, t1]
    case g2 => rw [← hW5]; repeat (first | exact Keeps.refl _ _ | refine Keeps.drew ?_ | refine Keeps.set ?_ (Or.inl (Or.inl rfl)) _ | refine Keeps.set ?_ (Or.inl (Or.inr rfl)) _)
    case g3 =>
      rintro k (rfl | rfl)
      · exact ⟨by omega, fun e => by have := HOV.out _ e; omega, HN6.out.own.notBox HBX6.out⟩
      · exact ⟨by omega, fun e => by have := HOV.out _ e; omega, HN6.out.own.notBox HBZ6.out⟩
def axSize : Ax → Nat
  | .incl c d => c.size + d.size
  | .fact _ c => c.size
  | _ => 0
/-- isagogeref19.Uses. -/
theorem uses19_calls (base : Nat) (b : Kb) (p : KbA) (k : Nat) (v u : Value) (q : List Int × List Int) (ok : Nat → Prop) (w : World) (hb : KbR ok w b p) (hv : KbFit b) (hbw : base ≤ w.heap.size) (hoff : OffU ok v u) (ha : AccU base v u w q v u w) (hk : k < kbCount b) (hl1 : b.incls.length ≤ 1000000) (hl2 : b.roles.length ≤ 1000000) (hl3 : b.facts.length ≤ 1000000) (hl4 : b.links.length ≤ 1000000) (hs1 : q.1.length + axSize (axAt b k) ≤ 100000) (hs2 : q.2.length + axSize (axAt b k) ≤ 100000) :
    Calls Tryz.prog 56 #[.agg #[.slice p.a0 b.cs.length p.c0, .slice p.a1 b.rs.length p.c1, .slice p.a2 b.is.length p.c2, .slice p.a3 b.incls.length p.c3, .slice p.a4 b.roles.length p.c4, .slice p.a5 b.facts.length p.c5, .slice p.a6 b.links.length p.c6], .int .i64 (k : Int), .agg #[v, u]] w (RetU base v u w (useAx (axAt b k) q)) := by
  unfold kbCount at hk
  by_cases h1 : k < b.incls.length
  · rw [axAt_incl h1] at *; exact uses19a_calls base b p k v u q ok w hb hv hbw hoff ha h1 hl1 hl2 hl3 hl4 hs1 hs2
  · by_cases h2 : k < b.incls.length + b.roles.length
    · obtain ⟨j, rfl⟩ : ∃ j, k = b.incls.length + j := ⟨k - b.incls.length, by omega⟩
      rw [axAt_role (show j < b.roles.length by omega)] at *
      exact uses19b_calls base b p j v u q ok w hb hv hbw hoff ha (by omega) hl1 hl2 hl3 hl4 (by omega)
    · by_cases h3 : k < b.incls.length + b.roles.length + b.facts.length
      · obtain ⟨j, rfl⟩ : ∃ j, k = b.incls.length + b.roles.length + j := ⟨k - b.incls.length - b.roles.length, by omega⟩
        rw [axAt_fact (show j < b.facts.length by omega)] at *
        exact uses19c_calls base b p j v u q ok w hb hv hbw hoff ha (by omega) hl1 hl2 hl3 hl4 hs1 hs2
      · obtain ⟨j, rfl⟩ : ∃ j, k = b.incls.length + b.roles.length + b.facts.length + j := ⟨k - b.incls.length - b.roles.length - b.facts.length, by omega⟩
        rw [axAt_link (show j < b.links.length by omega)] at *
        exact uses19d_calls base b p j v u q ok w hb hv hbw hoff ha (by omega) hl1 hl2 hl3 hl4 (by omega)
end Go.Proofs.YthiclhbnggehoaaGreatDoor
