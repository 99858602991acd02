/- The walk of isagogelaw05.HierOwn. -/
import Derived.Test.YtoafelppnagpbaaDoorAwake
import Derived.Test.YtoafelppnagpbaaDoorConsRow
import Derived.Test.YtoafelppnagpbaaDoorCopyKb
import Derived.Test.YtoafelppnagpbaaDoorSameKb
import Derived.Test.YtoafelppnagpbaaDoorChange
namespace Go.Proofs.YtoafelppnagpbaaDoor
open Go.RowKit
set_option linter.unusedVariables false
set_option linter.unusedSimpArgs false
abbrev celKb (b : Kb) (q : KbA) : Array Value := #[.slice q.a0 b.cs.length q.c0, .slice q.a1 b.rs.length q.c1, .slice q.a2 b.is.length q.c2, .slice q.a3 b.incls.length q.c3, .slice q.a4 b.roles.length q.c4, .slice q.a5 b.facts.length q.c5, .slice q.a6 b.links.length q.c6]
abbrev celCon (c : Con) (A : Option Addr) (cap : Nat) : Array Value := #[.int .i64 c.op, .int .i64 c.n, .slice A c.args.length cap]
/-- What lies below B and stays: the boxes of the law's variables; the copies. -/
structure OldO (b : Kb) (c : Con) (B : Nat) (W : World) (g3 g5 g7 g8 : Nat) (p q : KbA) (A' : Option Addr) (cap' : Nat) (AC : Option Addr) (cc : Nat) : Prop where
  b3 : W.heap[g3]? = some (.cells (celKb b p) 30 (0, 0))
  b5 : W.heap[g5]? = some (.cells (celCon c A' cap') 48 (0, 0))
  b7 : W.heap[g7]? = some (.cells (celKb b q) 30 (0, 0))
  b8 : W.heap[g8]? = some (.cells (celCon c AC cc) 48 (0, 0))
  own : KbR (fun k => k < B) W b q
  mine : ConR (fun k => k < B) W c [.int .i64 c.op, .int .i64 c.n, .slice AC c.args.length cc]
  l3 : g3 < B
  l5 : g5 < B
  l7 : g7 < B
  l8 : g8 < B
theorem OldO.keep {b : Kb} {c : Con} {B : Nat} {W W' : World} {g3 g5 g7 g8 : Nat} {p q : KbA} {A' : Option Addr} {cap' : Nat} {AC : Option Addr} {cc : Nat} (h : OldO b c B W g3 g5 g7 g8 p q A' cap' AC cc) (hk : Keeps (fun k => B ≤ k) W W') : OldO b c B W' g3 g5 g7 g8 p q A' cap' AC cc where
  b3 := hk.blk h.b3 (by have := h.l3; omega)
  b5 := hk.blk h.b5 (by have := h.l5; omega)
  b7 := hk.blk h.b7 (by have := h.l7; omega)
  b8 := hk.blk h.b8 (by have := h.l8; omega)
  own := h.own.keep hk (fun k hk => by omega)
  mine := h.mine.keep hk (fun k hk => by omega)
  l3 := h.l3
  l5 := h.l5
  l7 := h.l7
  l8 := h.l8
theorem OldO.still {b : Kb} {c : Con} {B : Nat} {W W' : World} {g3 g5 g7 g8 : Nat} {p q : KbA} {A' : Option Addr} {cap' : Nat} {AC : Option Addr} {cc : Nat} (h : OldO b c B W g3 g5 g7 g8 p q A' cap' AC cc) (hk : Keeps (fun _ => False) W W') : OldO b c B W' g3 g5 g7 g8 p q A' cap' AC cc := h.keep hk.of0
theorem Keeps.rwCell {W W' : World} (h : Keeps (fun _ => False) W W') : ∀ g j, g < W.heap.size → W'.cell? ⟨g, j, none⟩ = W.cell? ⟨g, j, none⟩ := fun g j hg => World.cell?_of_block (w := W) (a := ⟨g, j, none⟩) (h.block g hg (fun h => h))
theorem Keeps.rwFz {W W' : World} (h : Keeps (fun _ => False) W W') : ∀ g j, g < W.heap.size → W'.frozen? ⟨g, j, none⟩ = W.frozen? ⟨g, j, none⟩ := fun g j hg => World.frozen?_of_block (w := W) (a := ⟨g, j, none⟩) (h.block g hg (fun h => h))
theorem Keeps.undrew {S : Nat → Prop} {w w' : World} (h : Keeps S w.drew w') : Keeps S w w' := ⟨h.os, h.tape, h.output, h.size, h.block⟩
/-- Behind the copies: where their boxes lie. -/
def OwnCut (b : Kb) (c : Con) (W0 : World) (v7 v8 : Value) (W : World) : Prop :=
  ∃ g7 g8 q AC cc, v7 = .pointer (some ⟨g7, 0, none⟩) ∧ v8 = .pointer (some ⟨g8, 0, none⟩) ∧ W.heap[g7]? = some (.cells (celKb b q) 30 (0, 0)) ∧ W.heap[g8]? = some (.cells (celCon c AC cc) 48 (0, 0)) ∧
    KbR (fun k => W0.heap.size ≤ k) W b q ∧ ConR (fun k => W0.heap.size ≤ k) W c [.int .i64 c.op, .int .i64 c.n, .slice AC c.args.length cc] ∧ Keeps (fun _ => False) W0 W
theorem KbR.range {n : Nat} {w : World} {b : Kb} {q : KbA} (h : KbR (fun k => n ≤ k) w b q) : ∃ lo, lo = n ∧ KbR (fun k => lo ≤ k ∧ k < w.heap.size) w b q := ⟨n, rfl, h.lim⟩
theorem ConR.range {n : Nat} {w : World} {c : Con} {cs : List Value} (h : ConR (fun k => n ≤ k) w c cs) : ∃ lo, lo = n ∧ ConR (fun k => lo ≤ k ∧ k < w.heap.size) w c cs := ⟨n, rfl, h.lim⟩
theorem keeps3 (w : World) (g : Nat) (v0 v1 v2 : Value) : Keeps (fun i => i = g) w (((w.setCell ⟨g, 0, none⟩ v0).setCell ⟨g, 1, none⟩ v1).setCell ⟨g, 2, none⟩ v2) :=
  ((((Keeps.refl (fun i => i = g) w).set (g := g) (Or.inl rfl) v0).set (g := g) (Or.inl rfl) v1).set (g := g) (Or.inl rfl) v2)
theorem ownCut_A {b : Kb} {c : Con} {w1 w6 : World} {q : KbA} {AC : Option Addr} {cc lo7 hi7 lo8 hi8 : Nat} (hk : Keeps (fun _ => False) w1 w6) (hq : KbR (fun k => lo7 ≤ k ∧ k < hi7) w6 b q) (hc : ConR (fun k => lo8 ≤ k ∧ k < hi8) w6 c [.int .i64 c.op, .int .i64 c.n, .slice AC c.args.length cc]) (hn : w1.heap.size ≤ lo7 ∧ w1.heap.size ≤ lo8) :
    OwnCut b c w1 (.pointer (some ⟨w6.heap.size, 0, none⟩)) (.pointer (some ⟨w6.heap.size + 1, 0, none⟩)) ((w6.alloc (.cells #[.slice q.a0 b.cs.length q.c0, .slice q.a1 b.rs.length q.c1, .slice q.a2 b.is.length q.c2, .slice q.a3 b.incls.length q.c3, .slice q.a4 b.roles.length q.c4, .slice q.a5 b.facts.length q.c5, .slice q.a6 b.links.length q.c6] 30)).alloc (.cells #[.int .i64 c.op, .int .i64 c.n, .slice AC c.args.length cc] 48)) := by
  have ha : Keeps (fun _ => False) w6 ((w6.alloc (.cells #[.slice q.a0 b.cs.length q.c0, .slice q.a1 b.rs.length q.c1, .slice q.a2 b.is.length q.c2, .slice q.a3 b.incls.length q.c3, .slice q.a4 b.roles.length q.c4, .slice q.a5 b.facts.length q.c5, .slice q.a6 b.links.length q.c6] 30)).alloc (.cells #[.int .i64 c.op, .int .i64 c.n, .slice AC c.args.length cc] 48)) := ((Keeps.refl _ _).alloc _).alloc _
  exact ⟨_, _, q, AC, cc, rfl, rfl, blkAlloc (blkNew rfl) _, blkNew (by simp), (hq.keep ha (fun _ _ h => h)).mono (fun k hk => by omega), (hc.keep ha (fun _ _ h => h)).mono (fun k hk => by omega), hk.then_ ha⟩
theorem ownCut_A' {b : Kb} {c : Con} {w1 w6 : World} {q : KbA} {AC : Option Addr} {cc lo7 hi7 lo8 hi8 : Nat} (hk : Keeps (fun _ => False) w1 w6) (hq : KbR (fun k => lo7 ≤ k ∧ k < hi7) w6 b q) (hc : ConR (fun k => lo8 ≤ k ∧ k < hi8) w6 c [.int .i64 c.op, .int .i64 c.n, .slice AC c.args.length cc]) (hn : w1.heap.size ≤ lo7 ∧ w1.heap.size ≤ lo8) :
    OwnCut b c w1 (.pointer (some ⟨w6.heap.size + 1, 0, none⟩)) (.pointer (some ⟨w6.heap.size, 0, none⟩)) ((w6.alloc (.cells #[.int .i64 c.op, .int .i64 c.n, .slice AC c.args.length cc] 48)).alloc (.cells #[.slice q.a0 b.cs.length q.c0, .slice q.a1 b.rs.length q.c1, .slice q.a2 b.is.length q.c2, .slice q.a3 b.incls.length q.c3, .slice q.a4 b.roles.length q.c4, .slice q.a5 b.facts.length q.c5, .slice q.a6 b.links.length q.c6] 30)) := by
  have ha : Keeps (fun _ => False) w6 ((w6.alloc (.cells #[.int .i64 c.op, .int .i64 c.n, .slice AC c.args.length cc] 48)).alloc (.cells #[.slice q.a0 b.cs.length q.c0, .slice q.a1 b.rs.length q.c1, .slice q.a2 b.is.length q.c2, .slice q.a3 b.incls.length q.c3, .slice q.a4 b.roles.length q.c4, .slice q.a5 b.facts.length q.c5, .slice q.a6 b.links.length q.c6] 30)) := ((Keeps.refl _ _).alloc _).alloc _
  exact ⟨_, _, q, AC, cc, rfl, rfl, blkNew (by simp), blkAlloc (blkNew rfl) _, (hq.keep ha (fun _ _ h => h)).mono (fun k hk => by omega), (hc.keep ha (fun _ _ h => h)).mono (fun k hk => by omega), hk.then_ ha⟩
theorem ownCut_B {b : Kb} {c : Con} {w1 w6 : World} {q : KbA} {AC : Option Addr} {cc lo7 hi7 lo8 hi8 g7 : Nat} (hk : Keeps (fun _ => False) w1 w6) (h7 : w6.heap[g7]? = some (.cells #[.slice none 0 0, .slice none 0 0, .slice none 0 0, .slice none 0 0, .slice none 0 0, .slice none 0 0, .slice none 0 0] 30 (0, 0))) (hq : KbR (fun k => lo7 ≤ k ∧ k < hi7) w6 b q) (hc : ConR (fun k => lo8 ≤ k ∧ k < hi8) w6 c [.int .i64 c.op, .int .i64 c.n, .slice AC c.args.length cc]) (hn : w1.heap.size ≤ lo7 ∧ w1.heap.size ≤ lo8) (hg : w1.heap.size ≤ g7) (n7 : (g7 < lo7 ∨ hi7 ≤ g7) ∧ (g7 < lo8 ∨ hi8 ≤ g7)) :
    OwnCut b c w1 (.pointer (some ⟨g7, 0, none⟩)) (.pointer (some ⟨w6.heap.size, 0, none⟩)) ((((((((w6.setCell ⟨g7, 0, none⟩ (.slice q.a0 b.cs.length q.c0)).setCell ⟨g7, 1, none⟩ (.slice q.a1 b.rs.length q.c1)).setCell ⟨g7, 2, none⟩ (.slice q.a2 b.is.length q.c2)).setCell ⟨g7, 3, none⟩ (.slice q.a3 b.incls.length q.c3)).setCell ⟨g7, 4, none⟩ (.slice q.a4 b.roles.length q.c4)).setCell ⟨g7, 5, none⟩ (.slice q.a5 b.facts.length q.c5)).setCell ⟨g7, 6, none⟩ (.slice q.a6 b.links.length q.c6)).alloc (.cells #[.int .i64 c.op, .int .i64 c.n, .slice AC c.args.length cc] 48)) := by
  have hs := keeps7 w6 g7 (.slice q.a0 b.cs.length q.c0) (.slice q.a1 b.rs.length q.c1) (.slice q.a2 b.is.length q.c2) (.slice q.a3 b.incls.length q.c3) (.slice q.a4 b.roles.length q.c4) (.slice q.a5 b.facts.length q.c5) (.slice q.a6 b.links.length q.c6)
  have hb := blkSet7 h7 (.slice q.a0 b.cs.length q.c0) (.slice q.a1 b.rs.length q.c1) (.slice q.a2 b.is.length q.c2) (.slice q.a3 b.incls.length q.c3) (.slice q.a4 b.roles.length q.c4) (.slice q.a5 b.facts.length q.c5) (.slice q.a6 b.links.length q.c6)
  generalize hW : (((((((w6.setCell ⟨g7, 0, none⟩ (.slice q.a0 b.cs.length q.c0)).setCell ⟨g7, 1, none⟩ (.slice q.a1 b.rs.length q.c1)).setCell ⟨g7, 2, none⟩ (.slice q.a2 b.is.length q.c2)).setCell ⟨g7, 3, none⟩ (.slice q.a3 b.incls.length q.c3)).setCell ⟨g7, 4, none⟩ (.slice q.a4 b.roles.length q.c4)).setCell ⟨g7, 5, none⟩ (.slice q.a5 b.facts.length q.c5)).setCell ⟨g7, 6, none⟩ (.slice q.a6 b.links.length q.c6)) = W at *
  have hz : W.heap.size = w6.heap.size := by rw [← hW]; simp [World.setCell]
  clear hW
  have ha : Keeps (fun _ => False) W (W.alloc (.cells #[.int .i64 c.op, .int .i64 c.n, .slice AC c.args.length cc] 48)) := (Keeps.refl _ _).alloc _
  refine ⟨_, _, q, AC, cc, rfl, rfl, blkAlloc hb _, blkNew hz.symm, ((hq.keep hs (fun k hk he => by omega)).keep ha (fun _ _ h => h)).mono (fun k hk => by omega), ((hc.keep hs (fun k hk he => by omega)).keep ha (fun _ _ h => h)).mono (fun k hk => by omega), ((hk.of0.then_ hs).new (fun i hi => by omega)).then_ ha⟩
theorem ownCut_C {b : Kb} {c : Con} {w1 w6 : World} {q : KbA} {AC : Option Addr} {cc lo7 hi7 lo8 hi8 g8 : Nat} (hk : Keeps (fun _ => False) w1 w6) (h8 : w6.heap[g8]? = some (.cells #[.int .i64 0, .int .i64 0, .slice none 0 0] 48 (0, 0))) (hq : KbR (fun k => lo7 ≤ k ∧ k < hi7) w6 b q) (hc : ConR (fun k => lo8 ≤ k ∧ k < hi8) w6 c [.int .i64 c.op, .int .i64 c.n, .slice AC c.args.length cc]) (hn : w1.heap.size ≤ lo7 ∧ w1.heap.size ≤ lo8) (hg : w1.heap.size ≤ g8) (n8 : (g8 < lo7 ∨ hi7 ≤ g8) ∧ (g8 < lo8 ∨ hi8 ≤ g8)) :
    OwnCut b c w1 (.pointer (some ⟨w6.heap.size, 0, none⟩)) (.pointer (some ⟨g8, 0, none⟩)) ((((w6.setCell ⟨g8, 0, none⟩ (.int .i64 c.op)).setCell ⟨g8, 1, none⟩ (.int .i64 c.n)).setCell ⟨g8, 2, none⟩ (.slice AC c.args.length cc)).alloc (.cells #[.slice q.a0 b.cs.length q.c0, .slice q.a1 b.rs.length q.c1, .slice q.a2 b.is.length q.c2, .slice q.a3 b.incls.length q.c3, .slice q.a4 b.roles.length q.c4, .slice q.a5 b.facts.length q.c5, .slice q.a6 b.links.length q.c6] 30)) := by
  have hs := keeps3 w6 g8 (.int .i64 c.op) (.int .i64 c.n) (.slice AC c.args.length cc)
  have hb : (((w6.setCell ⟨g8, 0, none⟩ (.int .i64 c.op)).setCell ⟨g8, 1, none⟩ (.int .i64 c.n)).setCell ⟨g8, 2, none⟩ (.slice AC c.args.length cc)).heap[g8]? = some (.cells #[.int .i64 c.op, .int .i64 c.n, .slice AC c.args.length cc] 48 (0, 0)) := blkSet (blkSet (blkSet h8 0 _) 1 _) 2 _
  generalize hW : (((w6.setCell ⟨g8, 0, none⟩ (.int .i64 c.op)).setCell ⟨g8, 1, none⟩ (.int .i64 c.n)).setCell ⟨g8, 2, none⟩ (.slice AC c.args.length cc)) = W at *
  have hz : W.heap.size = w6.heap.size := by rw [← hW]; simp [World.setCell]
  clear hW
  have ha : Keeps (fun _ => False) W (W.alloc (.cells #[.slice q.a0 b.cs.length q.c0, .slice q.a1 b.rs.length q.c1, .slice q.a2 b.is.length q.c2, .slice q.a3 b.incls.length q.c3, .slice q.a4 b.roles.length q.c4, .slice q.a5 b.facts.length q.c5, .slice q.a6 b.links.length q.c6] 30)) := (Keeps.refl _ _).alloc _
  refine ⟨_, _, q, AC, cc, rfl, rfl, blkNew hz.symm, blkAlloc hb _, ((hq.keep hs (fun k hk he => by omega)).keep ha (fun _ _ h => h)).mono (fun k hk => by omega), ((hc.keep hs (fun k hk he => by omega)).keep ha (fun _ _ h => h)).mono (fun k hk => by omega), ((hk.of0.then_ hs).new (fun i hi => by omega)).then_ ha⟩
theorem ownCut_D {b : Kb} {c : Con} {w1 w6 : World} {q : KbA} {AC : Option Addr} {cc lo7 hi7 lo8 hi8 g7 g8 : Nat} (hk : Keeps (fun _ => False) w1 w6) (h7 : w6.heap[g7]? = some (.cells #[.slice none 0 0, .slice none 0 0, .slice none 0 0, .slice none 0 0, .slice none 0 0, .slice none 0 0, .slice none 0 0] 30 (0, 0))) (h8 : w6.heap[g8]? = some (.cells #[.int .i64 0, .int .i64 0, .slice none 0 0] 48 (0, 0))) (hne : g7 ≠ g8) (hq : KbR (fun k => lo7 ≤ k ∧ k < hi7) w6 b q) (hc : ConR (fun k => lo8 ≤ k ∧ k < hi8) w6 c [.int .i64 c.op, .int .i64 c.n, .slice AC c.args.length cc]) (hn : w1.heap.size ≤ lo7 ∧ w1.heap.size ≤ lo8) (hg : w1.heap.size ≤ g7 ∧ w1.heap.size ≤ g8) (n7 : (g7 < lo7 ∨ hi7 ≤ g7) ∧ (g7 < lo8 ∨ hi8 ≤ g7) ∧ (g8 < lo7 ∨ hi7 ≤ g8) ∧ (g8 < lo8 ∨ hi8 ≤ g8)) :
    OwnCut b c w1 (.pointer (some ⟨g7, 0, none⟩)) (.pointer (some ⟨g8, 0, none⟩)) ((((((((((w6.setCell ⟨g7, 0, none⟩ (.slice q.a0 b.cs.length q.c0)).setCell ⟨g7, 1, none⟩ (.slice q.a1 b.rs.length q.c1)).setCell ⟨g7, 2, none⟩ (.slice q.a2 b.is.length q.c2)).setCell ⟨g7, 3, none⟩ (.slice q.a3 b.incls.length q.c3)).setCell ⟨g7, 4, none⟩ (.slice q.a4 b.roles.length q.c4)).setCell ⟨g7, 5, none⟩ (.slice q.a5 b.facts.length q.c5)).setCell ⟨g7, 6, none⟩ (.slice q.a6 b.links.length q.c6)).setCell ⟨g8, 0, none⟩ (.int .i64 c.op)).setCell ⟨g8, 1, none⟩ (.int .i64 c.n)).setCell ⟨g8, 2, none⟩ (.slice AC c.args.length cc)) := by
  have hs := keeps7 w6 g7 (.slice q.a0 b.cs.length q.c0) (.slice q.a1 b.rs.length q.c1) (.slice q.a2 b.is.length q.c2) (.slice q.a3 b.incls.length q.c3) (.slice q.a4 b.roles.length q.c4) (.slice q.a5 b.facts.length q.c5) (.slice q.a6 b.links.length q.c6)
  have hb := blkSet7 h7 (.slice q.a0 b.cs.length q.c0) (.slice q.a1 b.rs.length q.c1) (.slice q.a2 b.is.length q.c2) (.slice q.a3 b.incls.length q.c3) (.slice q.a4 b.roles.length q.c4) (.slice q.a5 b.facts.length q.c5) (.slice q.a6 b.links.length q.c6)
  have h8' := hs.blk h8 (fun e => hne e.symm)
  generalize hW : (((((((w6.setCell ⟨g7, 0, none⟩ (.slice q.a0 b.cs.length q.c0)).setCell ⟨g7, 1, none⟩ (.slice q.a1 b.rs.length q.c1)).setCell ⟨g7, 2, none⟩ (.slice q.a2 b.is.length q.c2)).setCell ⟨g7, 3, none⟩ (.slice q.a3 b.incls.length q.c3)).setCell ⟨g7, 4, none⟩ (.slice q.a4 b.roles.length q.c4)).setCell ⟨g7, 5, none⟩ (.slice q.a5 b.facts.length q.c5)).setCell ⟨g7, 6, none⟩ (.slice q.a6 b.links.length q.c6)) = W at *
  clear hW
  have hs2 := keeps3 W g8 (.int .i64 c.op) (.int .i64 c.n) (.slice AC c.args.length cc)
  have hb8 : (((W.setCell ⟨g8, 0, none⟩ (.int .i64 c.op)).setCell ⟨g8, 1, none⟩ (.int .i64 c.n)).setCell ⟨g8, 2, none⟩ (.slice AC c.args.length cc)).heap[g8]? = some (.cells #[.int .i64 c.op, .int .i64 c.n, .slice AC c.args.length cc] 48 (0, 0)) := blkSet (blkSet (blkSet h8' 0 _) 1 _) 2 _
  have hz := hs.size
  have hz0 := hk.size
  refine ⟨_, _, q, AC, cc, rfl, rfl, hs2.blk hb hne, hb8, ((hq.keep hs (fun k hk he => by omega)).keep hs2 (fun k hk he => by omega)).mono (fun k hk => by omega), ((hc.keep hs (fun k hk he => by omega)).keep hs2 (fun k hk he => by omega)).mono (fun k hk => by omega), ((((hk.of0.then_ hs).new (fun i hi => by omega)).of0.then_ hs2).new (fun i hi => by omega))⟩
theorem fewOwn_parts {b : Kb} {c : Con} {more : List Con} (h : fewLawB b (c :: more) = true) : c.size ≤ 500 ∧ (∀ d ∈ more, d.size ≤ 500) ∧ (∀ x ∈ b.incls, x.1.size ≤ 500 ∧ x.2.size ≤ 500) ∧ (∀ x ∈ b.facts, x.2.size ≤ 500) := by
  simp only [fewLawB, fewB, fitAll, Bool.and_eq_true, decide_eq_true_eq, List.all_cons, List.all_eq_true] at h
  obtain ⟨⟨h1, h2⟩, ⟨_, _, _, _, _, h3, _⟩, _⟩ := h
  refine ⟨h1, h2, fun x hx => ?_, fun x hx => ?_⟩
  · have m1 : x.1 ∈ conceptsC b := List.mem_append.2 (.inl (List.mem_flatMap.2 ⟨x, hx, by simp⟩))
    have m2 : x.2 ∈ conceptsC b := List.mem_append.2 (.inl (List.mem_flatMap.2 ⟨x, hx, by simp⟩))
    exact ⟨h3 _ m1, h3 _ m2⟩
  · have m1 : x.2 ∈ conceptsC b := List.mem_append.2 (.inr (List.mem_map.2 ⟨x, hx, rfl⟩))
    exact h3 _ m1
theorem OldO.up {b : Kb} {c : Con} {B B' : Nat} {W : World} {g3 g5 g7 g8 : Nat} {p q : KbA} {A' : Option Addr} {cap' : Nat} {AC : Option Addr} {cc : Nat} (h : OldO b c B W g3 g5 g7 g8 p q A' cap' AC cc) (hB : B ≤ B') : OldO b c B' W g3 g5 g7 g8 p q A' cap' AC cc :=
  { h with own := h.own.mono (fun k hk => by omega), mine := h.mine.mono (fun k hk => by omega), l3 := by have := h.l3; omega, l5 := by have := h.l5; omega, l7 := by have := h.l7; omega, l8 := by have := h.l8; omega }
theorem own_marks_sizes (b : Kb) (more : List Con) : ∀ c ∈ (marksE b more).1, c.size ≤ 100000 := by
  unfold marksE
  split
  · split
    · rename_i ha
      intro c hc
      have := (okC_facts (List.all_eq_true.1 ha c hc)).2
      omega
    · intro c hc; simp at hc
  · intro c hc; simp at hc
theorem own_marks_len (b : Kb) (more : List Con) : (marksE b more).1.length ≤ 100 := by
  unfold marksE
  split
  · rename_i h
    split
    · have := (open_small h).1; simp only; omega
    · simp
  · simp
/-- The marks may be changed. -/
theorem marks_sk {w : World} {base : Nat} {v : Value} {l : List Con} (h : OwnCons w base v l) (hb : 0 < base) : ∃ A cap, v = .slice A l.length cap ∧ (l ≠ [] → ∃ g o, A = some ⟨g, o, none⟩ ∧ SkL (fun k => base ≤ k) w l g o) := by
  obtain ⟨A, cap, e, _, hca⟩ := h.consAt
  refine ⟨A, cap, e, fun hl => ?_⟩
  obtain ⟨g, o, e, hg, hr⟩ := hca hl
  have h0 : ¬ base ≤ 0 := by omega
  exact ⟨g, o, e, SkL.of h0 hg (ConsR.thaw h0 hr) hr⟩
/-- A row of ints that is written over. -/
def IntRow (w : World) (base : Nat) (v : Value) (n : Nat) : Prop := ∃ A cap, v = .slice A n cap ∧ (0 < n → ∃ g cur, A = some ⟨g, 0, none⟩ ∧ base ≤ g ∧ w.heap[g]? = some (.cells cur 3 (0, 0)) ∧ n ≤ cur.size)
theorem intRow_of {w : World} {base : Nat} {v : Value} {l : List Int} (h : OwnInts w base v l) : IntRow w base v l.length ∧ l.length ≤ 9223372036854775807 := by
  rcases h.2 with ⟨rfl, h0⟩ | ⟨g, cap, cur, rfl, hg, hh, hc, hz, _, ht⟩
  · exact ⟨⟨none, 0, by rw [h0], fun hl => by omega⟩, by omega⟩
  · have h1 := congrArg List.length ht
    simp at h1
    have h2 : l.length ≤ maxLen := Nat.le_trans hc (by omega)
    exact ⟨⟨_, cap, rfl, fun _ => ⟨g, cur, rfl, hg, hh, by omega⟩⟩, by simpa [maxLen] using h2⟩
theorem IntRow.set {w : World} {base : Nat} {n : Nat} {g cap : Nat} {cur : Array Value} (hg : base ≤ g) (hh : w.heap[g]? = some (.cells cur 3 (0, 0))) (hn : n ≤ cur.size) (k : Nat) (u : Value) : IntRow (w.setCell ⟨g, k, none⟩ u) base (.slice (some ⟨g, 0, none⟩) n cap) n :=
  ⟨_, cap, rfl, fun _ => ⟨g, _, rfl, hg, blkSet hh k u, by simpa using hn⟩⟩
set_option maxRecDepth 100000 in
set_option maxHeartbeats 4000000 in
theorem hierOwn_calls (b : Kb) (p : KbA) (more : List Con) (c : Con) (A A' : Option Addr) (cap cap' : Nat) (w : World) (m : Int) (hm : w.cell? ⟨2, 0, none⟩ = some (.int .i64 m)) (ht : ArgsTab w) (hd : DualsTab w) (hb : KbR (fun _ => True) w b p)
    (hl : ConsAt (fun _ => True) w more A) (hcap : more.length ≤ cap) (hreach : more.length * 40 ≤ 140737488351232) (hc : ConR (fun _ => True) w c [.int .i64 c.op, .int .i64 c.n, .slice A' c.args.length cap']) :
    Calls Tryd.prog 4 #[.agg #[.slice p.a0 b.cs.length p.c0, .slice p.a1 b.rs.length p.c1, .slice p.a2 b.is.length p.c2, .slice p.a3 b.incls.length p.c3, .slice p.a4 b.roles.length p.c4, .slice p.a5 b.facts.length p.c5, .slice p.a6 b.links.length p.c6], .slice A more.length cap, .agg #[.int .i64 c.op, .int .i64 c.n, .slice A' c.args.length cap']] w fun e w' => e = .returned (.bool true) ∧ Keeps (fun _ => False) w w' := by
  obtain ⟨vs, hvs, hsrc⟩ := hl.src (cap := cap)
  have HSRC := Lib.hid hsrc
  have HAW := Lib.hid (fun W (hk : Keeps (fun _ => False) w W) => awake_calls W m (hk.cell hm (fun h => h)) (ht.keep hk (fun h => h)) (hd.keep hk (fun h => h)))
  have HFEW := Lib.hid (fun g6 cap6 base w6 (hk : Keeps (fun _ => False) w w6) => fewCons_calls b p more c vs A' cap' w hb hvs hc (by omega) g6 cap6 base w6 hk)
  have HCKB := Lib.hid (fun (hf : fewLawB b (c :: more) = true) W (hk : Keeps (fun _ => False) w W) => by
    obtain ⟨g3, g4, g5, g6, g0, g1, g2, g8⟩ := fewCons_parts hf
    obtain ⟨f1, f2, f3, f4⟩ := fewOwn_parts hf
    exact copyKb_calls b p (fun _ => True) W (hb.keep hk (fun _ _ h => h)) (by omega) (by omega) (by omega) (by omega) (by omega) (by omega) (by omega) (fun x hx => by have := f3 x hx; omega) (fun x hx => by have := f4 x hx; omega))
  have HCC := Lib.hid (fun (hf : fewLawB b (c :: more) = true) W (hk : Keeps (fun _ => False) w W) => copyR_calls (c.size + 1) c A' cap' (fun _ => True) W (Nat.lt_succ_self _) (by have := (fewOwn_parts hf).1; omega) (hc.keep hk (fun _ _ h => h)))
  have HMK := Lib.hid (fun (hf : fewLawB b (c :: more) = true) W (hk : Keeps (fun _ => False) w W) => by
    obtain ⟨g3, g4, g5, g6, g0, g1, g2, g8⟩ := fewCons_parts hf
    exact marks_calls b p more (fun _ => True) A cap W m (hk.cell hm (fun h => h)) (ht.keep hk (fun h => h)) (hd.keep hk (fun h => h)) (hb.keep hk (fun _ _ h => h)) (by omega) (by omega) (by omega) (by omega) (hl.keep hk (fun _ _ h => h)) hcap (by omega))
  have HAB := Lib.hid (fun (hf : fewLawB b (c :: more) = true) W (hk : Keeps (fun _ => False) w W) => by
    obtain ⟨g3, g4, g5, g6, g0, g1, g2, g8⟩ := fewCons_parts hf
    exact above_calls b p 0 (fun _ => True) W m (hk.cell hm (fun h => h)) (ht.keep hk (fun h => h)) (hb.keep hk (fun _ _ h => h)) (by omega) (by omega) (by omega) (by omega) (by omega))
  have HTR := Lib.hid (fun (hf : fewLawB b (c :: more) = true) W (hk : Keeps (fun _ => False) w W) => by
    obtain ⟨g3, g4, g5, g6, g0, g1, g2, g8⟩ := fewCons_parts hf
    exact truth_calls b p more 0 c (fun _ => True) A A' cap cap' W m (hk.cell hm (fun h => h)) (ht.keep hk (fun h => h)) (hd.keep hk (fun h => h)) (hb.keep hk (fun _ _ h => h)) (by omega) (by omega) (by omega) (by omega) (hl.keep hk (fun _ _ h => h)) hcap (by omega) (hc.keep hk (fun _ _ h => h)))
  have HBE := Lib.hid (fun (hf : fewLawB b (c :: more) = true) W (hk : Keeps (fun _ => False) w W) => by
    obtain ⟨g3, g4, g5, g6, g0, g1, g2, g8⟩ := fewCons_parts hf
    exact below_calls b p 0 1 (fun _ => True) W m (hk.cell hm (fun h => h)) (ht.keep hk (fun h => h)) (hb.keep hk (fun _ _ h => h)) (by omega) (by omega) (by omega) (by omega) (by omega))
  have HSK := Lib.hid (fun (hf : fewLawB b (c :: more) = true) (q : KbA) W (hk : Keeps (fun _ => False) w W) (hq : KbR (fun _ => True) W b q) => by
    obtain ⟨g3, g4, g5, g6, g0, g1, g2, g8⟩ := fewCons_parts hf
    obtain ⟨f1, f2, f3, f4⟩ := fewOwn_parts hf
    exact sameKb_calls b q p W hq (hb.keep hk (fun _ _ h => h)) (by omega) (by omega) (by omega) (by omega) (by omega) (by omega) (by omega) (fun x hx => by have := f3 x hx; omega) (fun x hx => by have := f4 x hx; omega))
  have HSC := Lib.hid (fun (hf : fewLawB b (c :: more) = true) (AC : Option Addr) (cc : Nat) W (hk : Keeps (fun _ => False) w W) (h1 : ConR (fun _ => True) W c [.int .i64 c.op, .int .i64 c.n, .slice AC c.args.length cc]) => by
    have h := same_calls (c.size + 1) c c AC A' cc cap' (fun _ => True) W (Nat.lt_succ_self _) (by have := (fewOwn_parts hf).1; omega) h1 (hc.keep hk (fun _ _ h => h))
    rw [sameC_refl] at h
    exact h)
  have HLM := Lib.hid hl
  have HSZ : Hid (fewLawB b (c :: more) = true → (∀ d ∈ more, d.size ≤ 500) ∧ more.length ≤ 5) := fun hf => ⟨(fewOwn_parts hf).2.1, (fewCons_parts hf).2.2.2.2.2.2.2⟩
  have HMZ := Lib.hid (own_marks_sizes b more)
  have hml := own_marks_len b more
  have hwpos : 0 < w.heap.size := Nat.lt_of_le_of_lt (Nat.zero_le _) (World.block_lt_of_cell? w _ hm)
  clear hsrc hm ht hd hb hl hc hvs
  generalize fewLawB b (c :: more) = fv at *
  unfold RetMarks at HMK
  generalize marksE b more = me at *
  obtain ⟨ms, er⟩ := me
  dsimp only at HMK HMZ hml
  generalize (aboveE b 0) = ab at *
  obtain ⟨la, ea⟩ := ab
  dsimp only at HAB
  generalize truthE b more 0 c = te at *
  obtain ⟨te1, te2⟩ := te
  generalize belowE b 0 1 = be at *
  obtain ⟨be1, be2⟩ := be
  dsimp only at HTR HBE
  unfold RetKb at HCKB
  unfold RetCon at HCC
  obtain ⟨a0, a1, a2, a3, a4, a5, a6, c0, c1, c2, c3, c4, c5, c6⟩ := p
  dsimp only at HFEW HCKB HMK HAB HTR HBE HSK ⊢
  go_enter Tryd.func4, Tryd.ntmps4
  go_wp2_with fail
  generalize hW0 : World.alloc _ _ = W0
  have hK0 : Keeps (fun _ => False) w W0 := by rw [← hW0]; repeat (first | exact Keeps.refl _ _ | refine Keeps.drewN ?_ _ | refine Keeps.drew ?_ | refine Keeps.alloc ?_ _ | refine Keeps.set ?_ (Or.inl (by rfl)) _)
  have hb0 : W0.heap[w.heap.size]? = some (.cells #[.slice a0 b.cs.length c0, .slice a1 b.rs.length c1, .slice a2 b.is.length c2, .slice a3 b.incls.length c3, .slice a4 b.roles.length c4, .slice a5 b.facts.length c5, .slice a6 b.links.length c6] 30 (0, 0)) := by rw [← hW0]; exact blkAlloc (blkNew rfl) _
  have hc0 : W0.heap[w.heap.size + 1]? = some (.cells #[.int .i64 c.op, .int .i64 c.n, .slice A' c.args.length cap'] 48 (0, 0)) := by rw [← hW0]; exact blkNew (by simp)
  clear hW0
  have HB0 := Lib.hid hb0
  have HC0 := Lib.hid hc0
  have HK0 := Lib.hid hK0
  obtain ⟨x0, x1, x2, x3, x4, x5, x6⟩ := cells7 hb0
  obtain ⟨y0, y1, y2⟩ := cells3 hc0
  have hl0 := blkLt hb0
  have hl1 := blkLt hc0
  clear hb0 hc0 hK0
  go_cut [25] from 19 (fun v wc => v = .bool (!fv) ∧ Keeps (fun _ => False) W0 wc)
  case first =>
    go_region_law
     (first
      | (refine step_call (by rfl) 6 #[.agg #[.slice a0 b.cs.length c0, .slice a1 b.rs.length c1, .slice a2 b.is.length c2, .slice a3 b.incls.length c3, .slice a4 b.roles.length c4, .slice a5 b.facts.length c5, .slice a6 b.links.length c6], .slice (some ⟨g6, 0, none⟩) (1 + more.length) cap6] (by first | (go_simp; done) | (go_simp; rfl)) ?_; refine (HFEW.out g6 cap6 _ _ (HK0.out.then_ (hkk6.then_ (by repeat (first | exact Keeps.refl _ _ | refine Keeps.drewN ?_ _ | refine Keeps.drew ?_ | refine Keeps.alloc ?_ _ | refine Keeps.set ?_ (Or.inl (by rfl)) _)))) (ownsKeep (S := fun _ => False) HO6.out (by repeat (first | exact Keeps.refl _ _ | refine Keeps.drewN ?_ _ | refine Keeps.drew ?_ | refine Keeps.alloc ?_ _ | refine Keeps.set ?_ (Or.inl (by rfl)) _)) (fun _ _ h => h))).mono ?_; rintro e w7 ⟨rfl, hk7⟩; refine ⟨_, rfl, ?_⟩; have hkk7 := (hkk6.then_ (show Keeps (fun _ => False) w6 _ from by repeat (first | exact Keeps.refl _ _ | refine Keeps.drewN ?_ _ | refine Keeps.drew ?_ | refine Keeps.alloc ?_ _ | refine Keeps.set ?_ (Or.inl (by rfl)) _))).then_ hk7)
      | (refine step_appG rfl _ _ 46 46 (by rfl) W0.heap.size 48 _ 3 40 Tryd.underlying46 infoCon rfl (by decide) (by decide) (.slice (some ⟨W0.heap.size, 0, none⟩) 1 1) 1 [.int .i64 c.op, .int .i64 c.n, .slice A' c.args.length cap'] (ownsOne (by omega) (by first | exact blkNew (by first | rfl | simp) | exact blkAlloc (blkNew (by first | rfl | simp)) _)) (by rfl) (.slice A more.length cap) more.length vs (HSRC.out _ (HK0.out.then_ (by repeat (first | exact Keeps.refl _ _ | refine Keeps.drewN ?_ _ | refine Keeps.drew ?_ | refine Keeps.alloc ?_ _ | refine Keeps.set ?_ (Or.inl (by rfl)) _)))) (by rfl) (by omega) (by first | (simp; done) | (simp; omega)) ?_; intro v6 w6 ho6 hk6; obtain ⟨g6, cap6, rfl, hg6⟩ := own_slice1 ho6 (by omega); have hkk6 := (Keeps.of0 (S := fun k => (Value.slice (some ⟨W0.heap.size, 0, none⟩) 1 1).ownBlock = some k) (show Keeps (fun _ => False) W0 _ from by repeat (first | exact Keeps.refl _ _ | refine Keeps.drewN ?_ _ | refine Keeps.drew ?_ | refine Keeps.alloc ?_ _ | refine Keeps.set ?_ (Or.inl (by rfl)) _))).then_ hk6 |>.new (fun i hi => by simp [Value.ownBlock] at hi; omega); obtain ⟨p50, p51, p52, p53, p54, p55, p56⟩ := cells7 (hkk6.blk HB0.out (fun h => h)); obtain ⟨q50, q51, q52⟩ := cells3 (hkk6.blk HC0.out (fun h => h)); have hw5a := blkLt (hkk6.blk HB0.out (fun h => h)); have hw5b := blkLt (hkk6.blk HC0.out (fun h => h)); have HO6 := Lib.hid ho6; clear ho6)
      | fail)
    all_goals
      go_wp2_with fail
      go_meet
      exact ⟨rfl, hkk7⟩
  case rest =>
    obtain ⟨rfl, hkc⟩ := hcut
    have HK1 := Lib.hid (HK0.out.then_ hkc)
    have HB1 := Lib.hid (hkc.blk HB0.out (fun h => h))
    have HC1 := Lib.hid (hkc.blk HC0.out (fun h => h))
    clear x0 x1 x2 x3 x4 x5 x6 y0 y1 y2 hkc HFEW HSRC hl0 hl1 HB0 HC0 HK0
    obtain ⟨w1, hw1⟩ : ∃ x, x = wc := ⟨_, rfl⟩
    subst hw1
    cases fv
    · go_wp2_with fail
      refine (HAW.out _ HK1.out).mono ?_
      rintro e w2 ⟨rfl, hk2⟩
      go_wp2_with fail
      go_ret
      exact ⟨rfl, HK1.out.then_ hk2⟩
    · have HCKB1 := Lib.hid (HCKB.out rfl)
      have HCC1 := Lib.hid (HCC.out rfl)
      have HMK1 := Lib.hid (HMK.out rfl)
      have HAB1 := Lib.hid (HAB.out rfl)
      have HTR1 := Lib.hid (HTR.out rfl)
      have HBE1 := Lib.hid (HBE.out rfl)
      have HSK1 := Lib.hid (HSK.out rfl)
      have HSC1 := Lib.hid (HSC.out rfl)
      obtain ⟨hz5, hm5⟩ := HSZ.out rfl
      have HZ5 := Lib.hid hz5
      clear HCKB HCC HMK HAB HTR HBE HSK HSC HSZ hz5
      obtain ⟨x0, x1, x2, x3, x4, x5, x6⟩ := cells7 HB1.out
      obtain ⟨y0, y1, y2⟩ := cells3 HC1.out
      have hl0 := blkLt HB1.out
      have hl1 := blkLt HC1.out
      go_upto_region 3 with fail
      go_cut [7, 8] from 27 (fun v7 v8 wc => OwnCut b c w1 v7 v8 wc)
      case first =>
        go_region_law
          (first
            | (refine step_call (by rfl) 14 #[.agg #[.slice a0 b.cs.length c0, .slice a1 b.rs.length c1, .slice a2 b.is.length c2, .slice a3 b.incls.length c3, .slice a4 b.roles.length c4, .slice a5 b.facts.length c5, .slice a6 b.links.length c6]] (by first | (go_simp; done) | (go_simp; rfl)) ?_; refine (HCKB1.out _ (HK1.out.then_ (by repeat (first | exact Keeps.refl _ _ | refine Keeps.drewN ?_ _ | refine Keeps.drew ?_ | refine Keeps.alloc ?_ _ | refine Keeps.set ?_ (Or.inl (by rfl)) _)))).mono ?_; rintro e w5 ⟨q, rfl, hq5, hk5⟩; refine ⟨_, rfl, ?_⟩; have hkk5 := (show Keeps (fun _ => False) w1 _ from by repeat (first | exact Keeps.refl _ _ | refine Keeps.drewN ?_ _ | refine Keeps.drew ?_ | refine Keeps.alloc ?_ _ | refine Keeps.set ?_ (Or.inl (by rfl)) _)).then_ hk5; obtain ⟨p50, p51, p52, p53, p54, p55, p56⟩ := cells7 (hkk5.blk HB1.out (fun h => h)); obtain ⟨q50, q51, q52⟩ := cells3 (hkk5.blk HC1.out (fun h => h)); have hw5a := blkLt (hkk5.blk HB1.out (fun h => h)); have hw5b := blkLt (hkk5.blk HC1.out (fun h => h)); obtain ⟨lo7, hlo7, hq55⟩ := KbR.range hq5; have HQ5 := Lib.hid hq55; clear hq55; (try simp at hlo7); have hsz5 := hk5.size; (try simp at hsz5); (first | (have HK5 := Lib.hid (Keeps.undrew hk5)) | (have HK5 := Lib.hid hk5)); have rc5 := hk5.rwCell; have rf5 := hk5.rwFz; (try (have hw5c : w1.heap.size < w5.heap.size := by have h := hk5.size; (try simp at h); omega)); (try (have hw5d : w1.heap.size + 1 < w5.heap.size := by have h := hk5.size; (try simp at h); omega)); clear hq5 hk5)
            | (refine step_call (by rfl) 15 #[.agg #[.int .i64 c.op, .int .i64 c.n, .slice A' c.args.length cap']] (by first | (go_simp; done) | (go_simp; rfl)) ?_; refine (HCC1.out _ (HK1.out.then_ (hkk5.then_ (by repeat (first | exact Keeps.refl _ _ | refine Keeps.drewN ?_ _ | refine Keeps.drew ?_ | refine Keeps.alloc ?_ _ | refine Keeps.set ?_ (Or.inl (by rfl)) _))))).mono ?_; rintro e w6 ⟨AC, cc, rfl, hc6, hk6⟩; refine ⟨_, rfl, ?_⟩; obtain ⟨lo8, hlo8, hc66⟩ := ConR.range hc6; have HC6 := Lib.hid hc66; clear hc66; (try simp at hlo8); have hsz6 := hk6.size; (try simp at hsz6); have hkk6 := hkk5.then_ ((show Keeps (fun _ => False) w5 _ from by repeat (first | exact Keeps.refl _ _ | refine Keeps.drewN ?_ _ | refine Keeps.drew ?_ | refine Keeps.alloc ?_ _ | refine Keeps.set ?_ (Or.inl (by rfl)) _)).then_ hk6); have HQ6 := Lib.hid (HQ5.out.keep ((show Keeps (fun _ => False) w5 _ from by repeat (first | exact Keeps.refl _ _ | refine Keeps.drewN ?_ _ | refine Keeps.drew ?_ | refine Keeps.alloc ?_ _ | refine Keeps.set ?_ (Or.inl (by rfl)) _)).then_ hk6) (fun _ _ h => h)); have HK6 := Lib.hid hk6; have rc6 := hk6.rwCell; have rf6 := hk6.rwFz; (try (have hw6c : w5.heap.size < w6.heap.size := by have h := hk6.size; (try simp at h); omega)); (try (have hw6d : w5.heap.size + 1 < w6.heap.size := by have h := hk6.size; (try simp at h); omega)); (try (have hw6e : w1.heap.size < w6.heap.size := by have h := hk6.size; (try simp at h); omega)); (try (have hw6f : w1.heap.size + 1 < w6.heap.size := by have h := hk6.size; (try simp at h); omega)); clear hc6 hk6)
            | fail)
        all_goals
          go_wp2_with fail
          go_meet
          first
            | with_reducible exact ownCut_A hkk6 HQ6.out HC6.out (by omega)
            | with_reducible exact ownCut_A' hkk6 HQ6.out HC6.out (by omega)
            | ((with_reducible refine ownCut_B hkk6 ?_ HQ6.out HC6.out ?_ ?_ ?_); (· refine Keeps.blk HK6.out ?_ (fun h => h); repeat (first | (with_reducible exact blkNew (by first | rfl | simp)) | (with_reducible refine Keeps.blk HK5.out ?_ (fun h => h)) | (with_reducible refine blkAlloc ?_ _))); (· omega); (· omega); (· omega))
            | ((with_reducible refine ownCut_C hkk6 ?_ HQ6.out HC6.out ?_ ?_ ?_); (· refine Keeps.blk HK6.out ?_ (fun h => h); repeat (first | (with_reducible exact blkNew (by first | rfl | simp)) | (with_reducible refine Keeps.blk HK5.out ?_ (fun h => h)) | (with_reducible refine blkAlloc ?_ _))); (· omega); (· omega); (· omega))
            | ((with_reducible refine ownCut_D hkk6 ?_ ?_ ?_ HQ6.out HC6.out ?_ ?_ ?_); (· refine Keeps.blk HK6.out ?_ (fun h => h); repeat (first | (with_reducible exact blkNew (by first | rfl | simp)) | (with_reducible refine Keeps.blk HK5.out ?_ (fun h => h)) | (with_reducible refine blkAlloc ?_ _))); (· refine Keeps.blk HK6.out ?_ (fun h => h); repeat (first | (with_reducible exact blkNew (by first | rfl | simp)) | (with_reducible refine Keeps.blk HK5.out ?_ (fun h => h)) | (with_reducible refine blkAlloc ?_ _))); (· omega); (· omega); (· omega); (· omega))
            | fail
      case rest =>
        obtain ⟨g7, g8, q, AC, cc, rfl, rfl, h7, h8, hkb, hcon, hkc⟩ := hcut
        have HKW := Lib.hid (HK1.out.then_ hkc)
        have HOLD : Hid (OldO b c wc.heap.size wc w.heap.size (w.heap.size + 1) g7 g8 ⟨a0, a1, a2, a3, a4, a5, a6, c0, c1, c2, c3, c4, c5, c6⟩ q A' cap' AC cc) :=
          Lib.hid
          { b3 := hkc.blk HB1.out (fun h => h), b5 := hkc.blk HC1.out (fun h => h), b7 := h7, b8 := h8, own := hkb.lim.mono (fun k hk => hk.2), mine := hcon.lim.mono (fun k hk => hk.2)
            l3 := blkLt (hkc.blk HB1.out (fun h => h)), l5 := blkLt (hkc.blk HC1.out (fun h => h)), l7 := blkLt h7, l8 := blkLt h8 }
        clear x0 x1 x2 x3 x4 x5 x6 y0 y1 y2 hl0 hl1 h7 h8 hkb hcon hkc HB1 HC1 HK1 HCKB1
        obtain ⟨w2, hw2⟩ : ∃ x, x = wc := ⟨_, rfl⟩
        subst hw2
        go_wp2_with fail
        go_loopw [9, 33] (fun v i wr => ∃ k : Nat, k ≤ more.length ∧ i = .int .i64 k ∧ Hid (OwnCons wr w2.heap.size v (more.take k)) ∧ Hid (Keeps (fun _ => False) w2 wr)) (fun _ i _ => more.length - (intOf i).toNat)
        case atStart => exact ⟨0, Nat.zero_le _, rfl, OwnCons.nil _ _, Keeps.refl _ _⟩
        case round =>
          obtain ⟨k, hk, rfl, HO, HK⟩ := hrel
          by_cases hlt : k < more.length
          · obtain ⟨bb, o, A1, d1, rfl, hob, hbl, e0, e1, e2, hdc⟩ := (HLM.out.keep (HKW.out.then_ HK.out) (fun _ _ h => h)).nth k hlt
            have HMAP := Lib.hid (List.take_succ_eq_append_getElem hlt)
            have i1 : (k : Int) < more.length := by omega
            have hzd := HZ5.out _ (List.getElem_mem hlt)
            generalize more[k] = d at *
            have HCALL := Lib.hid (fun W (hkw : Keeps (fun _ => False) wr W) => copyR_calls (d.size + 1) d A1 d1 _ W (Nat.lt_succ_self _) (by omega) (hdc.keep hkw (fun _ _ h => h)))
            unfold RetCon at HCALL
            clear hdc
            obtain ⟨lq, hlq⟩ : ∃ lq, lq = more.take k := ⟨_, rfl⟩
            have hlen : lq.length ≤ 5 := by rw [hlq]; simp; omega
            rw [← hlq] at HO HMAP
            clear hlq
            obtain ⟨cells, hcl5, _⟩ := HO.out
            have HOW := Lib.hid hcl5
            have hwr := HK.out.size
            clear hcl5
            go_wp2_with fail
            generalize hW4 : World.alloc _ _ = W4
            have hK4 : Keeps (fun _ => False) wr W4 := by rw [← hW4]; repeat (first | exact Keeps.refl _ _ | refine Keeps.drewN ?_ _ | refine Keeps.drew ?_ | refine Keeps.alloc ?_ _ | refine Keeps.set ?_ (Or.inl (by rfl)) _)
            have hz4 : wr.heap.size ≤ W4.heap.size := hK4.size
            clear hW4
            refine (HCALL.out W4 hK4).mono ?_
            clear HCALL
            rintro e w5 ⟨D1, f1, rfl, hr5, hk5⟩
            have HR5 := Lib.hid hr5
            have HK5 := Lib.hid (hK4.then_ hk5)
            have hz5 := hk5.size
            clear hr5 hk5 hK4
            go_wp2_with (at_builtin; refine wp_app1 rfl _ _ 46 46 rfl w2.heap.size 48 _ 3 40 Tryd.underlying46 infoCon rfl (by decide) (by decide) u9 lq.length cells (ownsKeep (S := fun _ => False) HOW.out (HK5.out.alloc _) (fun _ _ h => h)) rfl _ 1 [.int .i64 d.op, .int .i64 d.n, .slice D1 d.args.length f1] (Src.ofBlock Tryd.underlying46 (cs := #[.int .i64 d.op, .int .i64 d.n, .slice D1 d.args.length f1]) (blkNew (by simp)) rfl (by simp [Value.oneCell'])) rfl (by decide) (by omega) (by simp; omega) ?_; intro g8 cap8 w8 ho8 hk8 hat8 hcap8 hlt8)
            have hoc := cons_step (W0 := w2) HO.out hwr (HK5.out.alloc (.cells #[.int .i64 d.op, .int .i64 d.n, .slice D1 d.args.length f1] 48)) ((HR5.out.keep ((Keeps.refl (fun _ => False) w5).alloc _) (fun _ _ h => h)).mono (fun i hi => Nat.le_trans hz4 hi)) (ownsKeep (S := fun _ => False) HOW.out (HK5.out.alloc _) (fun _ _ h => h)) ho8 hk8 hat8 HK.out (Nat.le_refl _)
            have HOC := Lib.hid hoc
            clear hoc ho8 hat8
            go_roundw
            case rel =>
              (repeat apply Exists.intro)
              exact ⟨⟨k + 1, by omega, by go_num, by unfold Hid; rw [HMAP.out]; exact HOC.out.1, HOC.out.2⟩, rfl⟩
            case measure => simp [intOf]; omega
          · obtain rfl : more.length = k := by omega
            rw [List.take_length] at HO
            obtain ⟨AK, capK, hv, _, hca⟩ := HO.out.consAt
            have HKEPT : Hid (ConsAt (fun i => i < wr.heap.size) wr more AK) := Lib.hid (fun hl => by obtain ⟨b', o', e1, e2, e3⟩ := hca.lim hl; exact ⟨b', o', e1, e2.2, e3.mono (fun _ h => h.2)⟩)
            have HKW3 := Lib.hid (HKW.out.then_ HK.out)
            have HOLD3 := Lib.hid ((HOLD.out.still HK.out).up HK.out.size)
            obtain ⟨w3, hw3⟩ : ∃ x, x = wr := ⟨_, rfl⟩
            subst hw3
            have hkz := HK.out.size
            clear hca HO HK HKW HOLD hlt
            subst hv
            obtain ⟨x0, x1, x2, x3, x4, x5, x6⟩ := cells7 HOLD3.out.b3
            have hl0 := blkLt HOLD3.out.b3
            go_wp2_with fail
            refine (HMK1.out w3 HKW3.out).mono ?_
            clear HMK1 x0 x1 x2 x3 x4 x5 x6 hl0
            rintro e w4 ⟨v, rfl, ho, hk4⟩
            obtain ⟨AM, capM, rfl, hsk⟩ := marks_sk ho (by have := HKW3.out.size; omega)
            have HSKL := Lib.hid hsk
            have HK4 := Lib.hid hk4
            clear hsk ho hk4
            go_wp2_with fail
            go_loopw [51] (fun i wr => ∃ k : Nat, k ≤ ms.length ∧ i = .int .i64 k ∧ Hid (Turn w4 wr) ∧ Hid (Keeps (fun i => w3.heap.size ≤ i) w4 wr)) (fun i _ => ms.length - (intOf i).toNat)
            case atStart => exact ⟨0, Nat.zero_le _, rfl, Turn.refl _, Keeps.refl _ _⟩
            case round =>
              obtain ⟨k, hk, rfl, HT, HK⟩ := hrel
              by_cases hlt : k < ms.length
              · obtain ⟨b', o', rfl, hl⟩ := HSKL.out (by intro h; subst h; simp at hlt)
                have hck := (hl.turn HT.out).at_ k hlt
                have i1 : (k : Int) < ms.length := by omega
                have hsn := HMZ.out _ (List.getElem_mem hlt)
                generalize ms[k] = d at *
                have HCALL := Lib.hid (change_calls (d.size + 1) d b' (o' + k * 3) _ wr (Nat.lt_succ_self _) hsn hck)
                clear hck hl
                go_wp2_with fail
                refine HCALL.out.mono ?_
                clear HCALL
                rintro e w5 ⟨rfl, ht5, hk5⟩
                have HT5 := Lib.hid (HT.out.trans ht5)
                have HK5 := Lib.hid (HK.out.then_ hk5)
                clear ht5 hk5
                go_wp2_with fail
                go_roundw
                case rel => exact ⟨k + 1, by omega, by go_num, HT5, HK5⟩
                case measure => simp [intOf]; omega
              · obtain rfl : k = ms.length := by omega
                have hkk := HK4.out.of0.then_ HK.out
                have HKW5 := Lib.hid ((HKW3.out.of0.then_ hkk).new (fun i hi => by have := HKW3.out.size; omega))
                have hz35 : w3.heap.size ≤ wr.heap.size := hkk.size
                have HOLD5 := Lib.hid (HOLD3.out.keep hkk)
                have HKEPT5 := Lib.hid (HKEPT.out.keep hkk (fun i hi h => by omega))
                obtain ⟨w5, hw5⟩ : ∃ x, x = wr := ⟨_, rfl⟩
                subst hw5
                clear HT HK HK4 HSKL HMZ HOLD3 HKEPT HKW3 hkk hlt
                obtain ⟨x0, x1, x2, x3, x4, x5, x6⟩ := cells7 HOLD5.out.b3
                have hl0 := blkLt HOLD5.out.b3
                go_wp2_with fail
                refine (HAB1.out w5 HKW5.out).mono ?_
                clear HAB1 x0 x1 x2 x3 x4 x5 x6 hl0
                rintro e w6 ⟨v, rfl, ho, hk6⟩
                obtain ⟨hrow, hla⟩ := intRow_of ho
                have hrow0 := hrow
                obtain ⟨AI, capI, hv, _⟩ := hrow0
                subst hv
                have HROW := Lib.hid hrow
                have HK6 := Lib.hid hk6
                clear ho hk6 hrow
                go_wp2_with fail
                go_loopw [66] (fun i wr => ∃ k : Nat, k ≤ la.length ∧ i = .int .i64 k ∧ Hid (IntRow wr w5.heap.size (.slice AI la.length capI) la.length) ∧ Hid (Keeps (fun i => w5.heap.size ≤ i) w6 wr)) (fun i _ => la.length - (intOf i).toNat)
                case atStart => exact ⟨0, Nat.zero_le _, rfl, HROW, Keeps.refl _ _⟩
                case round =>
                  obtain ⟨k, hk, rfl, HR, HK⟩ := hrel
                  by_cases hlt : k < la.length
                  · obtain ⟨A1, cap1, e1, hr⟩ := HR.out
                    simp only [Value.slice.injEq, true_and] at e1
                    obtain ⟨rfl, rfl⟩ := e1
                    obtain ⟨gi, cur, rfl, hgi, hh, hn⟩ := hr (by omega)
                    have hcell : wr.cell? ⟨gi, k, none⟩ = some (cur[k]'(by omega)) := by rw [blkCell hh]; simp
                    have hfz := blkFree hh k
                    have i1 : (k : Int) < la.length := by omega
                    have HH := Lib.hid hh
                    clear hr hh
                    go_wp2_with fail
                    go_roundw
                    case rel => exact ⟨k + 1, by omega, by go_num, IntRow.set hgi HH.out hn k _, HK.out.set (g := gi) (.inl hgi) _⟩
                    case measure => simp [intOf]; omega
                  · obtain rfl : k = la.length := by omega
                    have hkk := HK6.out.of0.then_ HK.out
                    have HKW7 := Lib.hid ((HKW5.out.of0.then_ hkk).new (fun i hi => by have := HKW5.out.size; omega))
                    have HOLD7 := Lib.hid ((HOLD5.out.up hz35).keep hkk)
                    have HKEPT7 := Lib.hid (HKEPT5.out.keep hkk (fun i hi h => by omega))
                    obtain ⟨w7, hw7⟩ : ∃ x, x = wr := ⟨_, rfl⟩
                    subst hw7
                    clear HR HK HK6 HROW HOLD5 HKEPT5 HKW5 hkk hlt
                    obtain ⟨x0, x1, x2, x3, x4, x5, x6⟩ := cells7 HOLD7.out.b3
                    obtain ⟨y0, y1, y2⟩ := cells3 HOLD7.out.b5
                    have hl0 := blkLt HOLD7.out.b3
                    have hl1 := blkLt HOLD7.out.b5
                    go_wp2_with fail
                    refine (HTR1.out w7 HKW7.out).mono ?_
                    clear HTR1 x0 x1 x2 x3 x4 x5 x6 y0 y1 y2 hl0 hl1
                    rintro e w8 ⟨rfl, hk8⟩
                    have HKW8 := Lib.hid (HKW7.out.then_ hk8)
                    have HOLD8 := Lib.hid (HOLD7.out.still hk8)
                    have HKEPT8 := Lib.hid (HKEPT7.out.keep hk8 (fun _ _ h => h))
                    clear hk8 HKW7 HOLD7 HKEPT7
                    obtain ⟨x0, x1, x2, x3, x4, x5, x6⟩ := cells7 HOLD8.out.b3
                    have hl0 := blkLt HOLD8.out.b3
                    go_wp2_with fail
                    refine (HBE1.out w8 HKW8.out).mono ?_
                    clear HBE1 x0 x1 x2 x3 x4 x5 x6 hl0
                    rintro e w9 ⟨rfl, hk9⟩
                    have HKW9 := Lib.hid (HKW8.out.then_ hk9)
                    have HOLD9 := Lib.hid (HOLD8.out.still hk9)
                    have HKEPT9 := Lib.hid (HKEPT8.out.keep hk9 (fun _ _ h => h))
                    clear hk9 HKW8 HOLD8 HKEPT8
                    go_wp2_with fail
                    go_loopw [81] (fun i wr => ∃ k : Nat, k ≤ more.length ∧ i = .int .i64 k ∧ Hid (Keeps (fun _ => False) w9 wr)) (fun i _ => more.length - (intOf i).toNat)
                    case atStart => exact ⟨0, Nat.zero_le _, rfl, Keeps.refl _ _⟩
                    case round =>
                      obtain ⟨k, hk, rfl, HK⟩ := hrel
                      by_cases hlt : k < more.length
                      · obtain ⟨bb, o, A1, d1, rfl, hob, hbl, e0, e1, e2, hc1⟩ := (HKEPT9.out.keep HK.out (fun _ _ h => h)).nth k hlt
                        obtain ⟨bb2, oo2, A2, d2, rfl, hob2, hbl2, f0, f1, f2, hc2⟩ := (HLM.out.keep (HKW9.out.then_ HK.out) (fun _ _ h => h)).nth k hlt
                        have i1 : (k : Int) < more.length := by omega
                        have hsz := HZ5.out _ (List.getElem_mem hlt)
                        generalize more[k] = x at *
                        have HCALL := Lib.hid (fun W (hkw : Keeps (fun _ => False) wr W) => by
                          have h := same_calls (x.size + 1) x x A1 A2 d1 d2 (fun _ => True) W (by omega) (by omega) ((hc1.keep hkw (fun _ _ h => h)).mono (fun _ _ => trivial)) ((hc2.keep hkw (fun _ _ h => h)).mono (fun _ _ => trivial))
                          rw [sameC_refl] at h
                          exact h)
                        clear hc1 hc2
                        have HE0 := Lib.hid (And.intro e0 (And.intro e1 e2))
                        have HF0 := Lib.hid (And.intro f0 (And.intro f1 f2))
                        have HP : Hid (∀ w', Keeps (fun _ => False) wr w' → w'.cell? ⟨bb, o + k * 3, none⟩ = some (.int .i64 x.op) ∧ w'.cell? ⟨bb, o + k * 3 + 1, none⟩ = some (.int .i64 x.n) ∧ w'.cell? ⟨bb, o + k * 3 + 2, none⟩ = some (.slice A1 x.args.length d1) ∧ w'.cell? ⟨bb2, oo2 + k * 3, none⟩ = some (.int .i64 x.op) ∧ w'.cell? ⟨bb2, oo2 + k * 3 + 1, none⟩ = some (.int .i64 x.n) ∧ w'.cell? ⟨bb2, oo2 + k * 3 + 2, none⟩ = some (.slice A2 x.args.length d2)) := fun w' hkw =>
                          ⟨hkw.cell HE0.out.1 (fun h => h), hkw.cell HE0.out.2.1 (fun h => h), hkw.cell HE0.out.2.2 (fun h => h), hkw.cell HF0.out.1 (fun h => h), hkw.cell HF0.out.2.1 (fun h => h), hkw.cell HF0.out.2.2 (fun h => h)⟩
                        clear e0 e1 e2 f0 f1 f2
                        go_wp2_with fail
                        go_region_held3 (fun w' => w'.cell? ⟨bb, o + k * 3, none⟩ = some (.int .i64 x.op) ∧ w'.cell? ⟨bb, o + k * 3 + 1, none⟩ = some (.int .i64 x.n) ∧ w'.cell? ⟨bb, o + k * 3 + 2, none⟩ = some (.slice A1 x.args.length d1) ∧ w'.cell? ⟨bb2, oo2 + k * 3, none⟩ = some (.int .i64 x.op) ∧ w'.cell? ⟨bb2, oo2 + k * 3 + 1, none⟩ = some (.int .i64 x.n) ∧ w'.cell? ⟨bb2, oo2 + k * 3 + 2, none⟩ = some (.slice A2 x.args.length d2))
                          (first
                            | exact HP.out _ (Keeps.refl _ _)
                            | exact HP.out _ (Keeps.refl _ _).drew
                            | exact HP.out _ ((Keeps.refl _ _).drew.then_ hk5))
                          ((go_at_call 19; refine (HCALL.out _ (by first | exact Keeps.refl _ _ | exact (Keeps.refl _ _).drew)).mono ?_; clear HCALL; rintro e w5 ⟨rfl, hk5⟩))
                        have hkT : Keeps (fun _ => False) wr w5 := (Keeps.refl (fun _ => False) wr).drew.then_ hk5
                        go_wp2_with fail
                        go_roundw
                        case rel => exact ⟨k + 1, by omega, by go_num, HK.out.then_ hkT⟩
                        case measure => simp [intOf]; omega
                      · obtain rfl : k = more.length := by omega
                        have HKW10 := Lib.hid (HKW9.out.then_ HK.out)
                        have HOLD10 := Lib.hid (HOLD9.out.still HK.out)
                        obtain ⟨w10, hw10⟩ : ∃ x, x = wr := ⟨_, rfl⟩
                        subst hw10
                        clear HK HKW9 HOLD9 HKEPT9 hlt
                        obtain ⟨x0, x1, x2, x3, x4, x5, x6⟩ := cells7 HOLD10.out.b3
                        obtain ⟨z0, z1, z2, z3, z4, z5, z6⟩ := cells7 HOLD10.out.b7
                        have hl0 := blkLt HOLD10.out.b3
                        have hl1 := blkLt HOLD10.out.b7
                        go_wp2_with fail
                        refine (HSK1.out q w10 HKW10.out (HOLD10.out.own.mono (fun _ _ => trivial))).mono ?_
                        clear HSK1 x0 x1 x2 x3 x4 x5 x6 z0 z1 z2 z3 z4 z5 z6 hl0 hl1
                        rintro e w11 ⟨rfl, hk11⟩
                        have HKW11 := Lib.hid (HKW10.out.then_ hk11)
                        have HOLD11 := Lib.hid (HOLD10.out.still hk11)
                        clear hk11 HKW10 HOLD10
                        obtain ⟨y0, y1, y2⟩ := cells3 HOLD11.out.b5
                        obtain ⟨z0, z1, z2⟩ := cells3 HOLD11.out.b8
                        have hl0 := blkLt HOLD11.out.b5
                        have hl1 := blkLt HOLD11.out.b8
                        go_wp2_with fail
                        refine (HSC1.out AC cc w11 HKW11.out (HOLD11.out.mine.mono (fun _ _ => trivial))).mono ?_
                        clear HSC1 y0 y1 y2 z0 z1 z2 hl0 hl1
                        rintro e w12 ⟨rfl, hk12⟩
                        go_wp2_with fail
                        refine (HAW.out _ (HKW11.out.then_ hk12)).mono ?_
                        rintro e w13 ⟨rfl, hk13⟩
                        go_wp2_with fail
                        go_ret
                        exact ⟨rfl, (HKW11.out.then_ hk12).then_ hk13⟩
end Go.Proofs.YtoafelppnagpbaaDoor
