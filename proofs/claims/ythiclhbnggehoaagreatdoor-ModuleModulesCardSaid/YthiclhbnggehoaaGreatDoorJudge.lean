/- module: what nothing and everything answer; kinds and operators. -/
import Derived.Test.YthiclhbnggehoaaGreatDoorBase
import Derived.Deep.RegionHeld3
import Derived.Deep.Cut
import Derived.Test.YthiclhbnggehoaaGreatDoorPMod
namespace Go.Proofs.YthiclhbnggehoaaGreatDoor
open Go.RowKit
set_option linter.unusedVariables false
set_option linter.unusedSimpArgs false
def outV (top : Bool) : Value := if top then .iface 142 (.agg #[]) else .iface 141 (.agg #[])
def howT : Array Value := #[.func (.func 85) #[] #[], .func (.func 86) #[] #[], .func (.func 87) #[] #[], .func (.func 88) #[] #[], .func (.func 89) #[] #[], .func (.func 90) #[] #[], .func (.func 91) #[] #[], .func (.func 92) #[] #[]]
/-- A map of names that holds the names of a list. -/
def MapS (w : World) (b : Nat) (C : List Int) : Prop := ∃ L, MapL w b (Value.int .i64) Value.bool L ∧ SetM L C
theorem MapS.keep {S : Nat → Prop} {w w' : World} {b : Nat} {C : List Int} (h : MapS w b C) (hk : Keeps S w w') (hs : ¬ S b) : MapS w' b C := by obtain ⟨L, h1, h2⟩ := h; exact ⟨L, h1.keep hk hs, h2⟩
def JV (top : Bool) (b1 b2 g : Nat) : Value := .agg #[outV top, .map (some b1), .map (some b2), .pointer (some ⟨g, 0, none⟩)]
structure JudgeR (w : World) (C R : List Int) (b1 b2 g : Nat) : Prop where
  c : ∃ L, MapL w b1 (Value.int .i64) Value.bool L ∧ SetM L C
  r : ∃ L, MapL w b2 (Value.int .i64) Value.bool L ∧ SetM L R
  t : w.heap[g]? = some (.cells howT 143 (0, 0))
theorem JudgeR.keep {S : Nat → Prop} {w w' : World} {C R : List Int} {b1 b2 g : Nat} (h : JudgeR w C R b1 b2 g) (hk : Keeps S w w') (h1 : ¬ S b1) (h2 : ¬ S b2) (h3 : ¬ S g) : JudgeR w' C R b1 b2 g := by
  obtain ⟨⟨L, c1, c2⟩, ⟨M, r1, r2⟩, t⟩ := h
  exact ⟨⟨L, c1.keep hk h1, c2⟩, ⟨M, r1.keep hk h2, r2⟩, hk.blk t h3⟩
theorem JudgeR.still {w w' : World} {C R : List Int} {b1 b2 g : Nat} (h : JudgeR w C R b1 b2 g) (hk : Keeps (fun _ => False) w w') : JudgeR w' C R b1 b2 g := h.keep hk (fun h => h) (fun h => h) (fun h => h)
/-- A call that returns a state. -/
def RetSt (p : Bool × Bool) (w : World) (e : Ending) (w' : World) : Prop := e = .returned (.agg #[.bool p.1, .bool p.2]) ∧ Keeps (fun _ => False) w w'
set_option maxRecDepth 100000 in
set_option maxHeartbeats 4000000 in
theorem kinds_calls (w : World) : Calls Tryz.prog 71 #[] w fun e w' => e = .returned (.agg #[outV false, outV true]) ∧ Keeps (fun _ => False) w w' := by
  go_enter Tryz.func71, Tryz.ntmps71
  go_wp2_with fail
  generalize hW0 : World.alloc _ _ = W0
  have hK0 : Keeps (fun _ => False) w W0 := by rw [← hW0]; repeat (first | exact Keeps.refl _ _ | refine Keeps.drewN ?_ _ | refine Keeps.drew ?_ | refine Keeps.alloc ?_ _ | refine Keeps.set ?_ (Or.inl (by rfl)) _)
  have hb0 : W0.heap[w.heap.size]? = some (.cells #[outV false, outV true] 126 (0, 0)) := by rw [← hW0]; exact blkNew rfl
  clear hW0
  obtain ⟨x0, x1⟩ := cells2 hb0
  exact bodyPost_ret (v := .agg #[outV false, outV true]) (by simp [results, Tryz.results71, go_sem, x0, x1]) rfl ⟨rfl, hK0⟩
set_option maxRecDepth 100000 in
set_option maxHeartbeats 4000000 in
theorem operators_calls (w : World) : Calls Tryz.prog 72 #[] w fun e w' => e = .returned (.pointer (some ⟨w.heap.size, 0, none⟩)) ∧ w'.heap[w.heap.size]? = some (.cells howT 143 (0, 0)) ∧ Keeps (fun _ => False) w w' := by
  go_enter Tryz.func72, Tryz.ntmps72
  go_wp2_with fail
  go_ret
  exact ⟨rfl, blkNew rfl, by repeat (first | exact Keeps.refl _ _ | refine Keeps.drewN ?_ _ | refine Keeps.drew ?_ | refine Keeps.alloc ?_ _ | refine Keeps.set ?_ (Or.inl (by rfl)) _)⟩
set_option maxRecDepth 100000 in
set_option maxHeartbeats 4000000 in
theorem n_empty (w : World) : Calls Tryz.prog 157 #[.agg #[]] w fun e w' => e = .returned (.bool true) ∧ Keeps (fun _ => False) w w' := by
  go_enter Tryz.func157, Tryz.ntmps157
  go_wp2_with fail
  go_ret
  exact ⟨rfl, by repeat (first | exact Keeps.refl _ _ | refine Keeps.drewN ?_ _ | refine Keeps.drew ?_ | refine Keeps.alloc ?_ _ | refine Keeps.set ?_ (Or.inl (by rfl)) _)⟩
set_option maxRecDepth 100000 in
set_option maxHeartbeats 4000000 in
theorem n_some (p q : Bool) (w : World) : Calls Tryz.prog 160 #[.agg #[], .agg #[.bool p, .bool q]] w fun e w' => e = .returned (.agg #[.bool true, .bool false]) ∧ Keeps (fun _ => False) w w' := by
  go_enter Tryz.func160, Tryz.ntmps160
  go_wp2_with fail
  generalize hW0 : World.alloc _ _ = W0
  have hK0 : Keeps (fun _ => False) w W0 := by rw [← hW0]; repeat (first | exact Keeps.refl _ _ | refine Keeps.drewN ?_ _ | refine Keeps.drew ?_ | refine Keeps.alloc ?_ _ | refine Keeps.set ?_ (Or.inl (by rfl)) _)
  have hb0 : W0.heap[w.heap.size + 1 + 1]? = some (.cells #[.bool true, .bool false] 112 (0, 0)) := by rw [← hW0]; exact blkNew (by simp)
  clear hW0
  obtain ⟨x0, x1⟩ := cells2 hb0
  exact bodyPost_ret (v := .agg #[.bool true, .bool false]) (by simp [results, Tryz.results160, go_sem, x0, x1]) rfl ⟨rfl, hK0⟩
set_option maxRecDepth 100000 in
set_option maxHeartbeats 4000000 in
theorem n_all (p q : Bool) (w : World) : Calls Tryz.prog 156 #[.agg #[], .agg #[.bool p, .bool q]] w fun e w' => e = .returned (.agg #[.bool false, .bool true]) ∧ Keeps (fun _ => False) w w' := by
  go_enter Tryz.func156, Tryz.ntmps156
  go_wp2_with fail
  generalize hW0 : World.alloc _ _ = W0
  have hK0 : Keeps (fun _ => False) w W0 := by rw [← hW0]; repeat (first | exact Keeps.refl _ _ | refine Keeps.drewN ?_ _ | refine Keeps.drew ?_ | refine Keeps.alloc ?_ _ | refine Keeps.set ?_ (Or.inl (by rfl)) _)
  have hb0 : W0.heap[w.heap.size + 1 + 1]? = some (.cells #[.bool false, .bool true] 112 (0, 0)) := by rw [← hW0]; exact blkNew (by simp)
  clear hW0
  obtain ⟨x0, x1⟩ := cells2 hb0
  exact bodyPost_ret (v := .agg #[.bool false, .bool true]) (by simp [results, Tryz.results156, go_sem, x0, x1]) rfl ⟨rfl, hK0⟩
set_option maxRecDepth 100000 in
set_option maxHeartbeats 4000000 in
theorem n_role (p q : Bool) (w : World) : Calls Tryz.prog 159 #[.agg #[], .bool p, .bool q] w fun e w' => e = .returned (.bool (!p)) ∧ Keeps (fun _ => False) w w' := by
  go_enter Tryz.func159, Tryz.ntmps159
  go_wp2_with fail
  go_ret
  exact ⟨rfl, by repeat (first | exact Keeps.refl _ _ | refine Keeps.drewN ?_ _ | refine Keeps.drew ?_ | refine Keeps.alloc ?_ _ | refine Keeps.set ?_ (Or.inl (by rfl)) _)⟩
set_option maxRecDepth 100000 in
set_option maxHeartbeats 4000000 in
theorem n_link (p : Bool) (w : World) : Calls Tryz.prog 158 #[.agg #[], .bool p] w fun e w' => e = .returned (.bool false) ∧ Keeps (fun _ => False) w w' := by
  go_enter Tryz.func158, Tryz.ntmps158
  go_wp2_with fail
  go_ret
  exact ⟨rfl, by repeat (first | exact Keeps.refl _ _ | refine Keeps.drewN ?_ _ | refine Keeps.drew ?_ | refine Keeps.alloc ?_ _ | refine Keeps.set ?_ (Or.inl (by rfl)) _)⟩
set_option maxRecDepth 100000 in
set_option maxHeartbeats 4000000 in
theorem e_empty (w : World) : Calls Tryz.prog 162 #[.agg #[]] w fun e w' => e = .returned (.bool false) ∧ Keeps (fun _ => False) w w' := by
  go_enter Tryz.func162, Tryz.ntmps162
  go_wp2_with fail
  go_ret
  exact ⟨rfl, by repeat (first | exact Keeps.refl _ _ | refine Keeps.drewN ?_ _ | refine Keeps.drew ?_ | refine Keeps.alloc ?_ _ | refine Keeps.set ?_ (Or.inl (by rfl)) _)⟩
set_option maxRecDepth 100000 in
set_option maxHeartbeats 4000000 in
theorem e_some (p q : Bool) (w : World) : Calls Tryz.prog 165 #[.agg #[], .agg #[.bool p, .bool q]] w fun e w' => e = .returned (.agg #[.bool p, .bool q]) ∧ Keeps (fun _ => False) w w' := by
  go_enter Tryz.func165, Tryz.ntmps165
  go_wp2_with fail
  generalize hW0 : World.alloc _ _ = W0
  have hK0 : Keeps (fun _ => False) w W0 := by rw [← hW0]; repeat (first | exact Keeps.refl _ _ | refine Keeps.drewN ?_ _ | refine Keeps.drew ?_ | refine Keeps.alloc ?_ _ | refine Keeps.set ?_ (Or.inl (by rfl)) _)
  have hb0 : W0.heap[w.heap.size + 1 + 1]? = some (.cells #[.bool p, .bool q] 112 (0, 0)) := by rw [← hW0]; exact blkNew (by simp)
  clear hW0
  obtain ⟨x0, x1⟩ := cells2 hb0
  exact bodyPost_ret (v := .agg #[.bool p, .bool q]) (by simp [results, Tryz.results165, go_sem, x0, x1]) rfl ⟨rfl, hK0⟩
set_option maxRecDepth 100000 in
set_option maxHeartbeats 4000000 in
theorem e_all (p q : Bool) (w : World) : Calls Tryz.prog 161 #[.agg #[], .agg #[.bool p, .bool q]] w fun e w' => e = .returned (.agg #[.bool p, .bool q]) ∧ Keeps (fun _ => False) w w' := by
  go_enter Tryz.func161, Tryz.ntmps161
  go_wp2_with fail
  generalize hW0 : World.alloc _ _ = W0
  have hK0 : Keeps (fun _ => False) w W0 := by rw [← hW0]; repeat (first | exact Keeps.refl _ _ | refine Keeps.drewN ?_ _ | refine Keeps.drew ?_ | refine Keeps.alloc ?_ _ | refine Keeps.set ?_ (Or.inl (by rfl)) _)
  have hb0 : W0.heap[w.heap.size + 1 + 1]? = some (.cells #[.bool p, .bool q] 112 (0, 0)) := by rw [← hW0]; exact blkNew (by simp)
  clear hW0
  obtain ⟨x0, x1⟩ := cells2 hb0
  exact bodyPost_ret (v := .agg #[.bool p, .bool q]) (by simp [results, Tryz.results161, go_sem, x0, x1]) rfl ⟨rfl, hK0⟩
set_option maxRecDepth 100000 in
set_option maxHeartbeats 4000000 in
theorem e_role (p q : Bool) (w : World) : Calls Tryz.prog 164 #[.agg #[], .bool p, .bool q] w fun e w' => e = .returned (.bool (!q)) ∧ Keeps (fun _ => False) w w' := by
  go_enter Tryz.func164, Tryz.ntmps164
  go_wp2_with fail
  go_ret
  exact ⟨rfl, by repeat (first | exact Keeps.refl _ _ | refine Keeps.drewN ?_ _ | refine Keeps.drew ?_ | refine Keeps.alloc ?_ _ | refine Keeps.set ?_ (Or.inl (by rfl)) _)⟩
set_option maxRecDepth 100000 in
set_option maxHeartbeats 4000000 in
theorem e_link (p : Bool) (w : World) : Calls Tryz.prog 163 #[.agg #[], .bool p] w fun e w' => e = .returned (.bool (!p)) ∧ Keeps (fun _ => False) w w' := by
  go_enter Tryz.func163, Tryz.ntmps163
  go_wp2_with fail
  go_ret
  exact ⟨rfl, by repeat (first | exact Keeps.refl _ _ | refine Keeps.drewN ?_ _ | refine Keeps.drew ?_ | refine Keeps.alloc ?_ _ | refine Keeps.set ?_ (Or.inl (by rfl)) _)⟩
theorem m_n_empty (w : World) : (method 319 141 (.agg #[]) "isagoge/module.empty").run Tryz.prog w = .ok (157, .agg #[]) w := by kernel_rfl
theorem a_n_empty (w : World) : (nilAhead 319 141 (.agg #[]) "isagoge/module.empty").run Tryz.prog w = .ok (some false) w := by kernel_rfl
theorem m_n_some (w : World) : (method 319 141 (.agg #[]) "isagoge/module.some").run Tryz.prog w = .ok (160, .agg #[]) w := by kernel_rfl
theorem a_n_some (w : World) : (nilAhead 319 141 (.agg #[]) "isagoge/module.some").run Tryz.prog w = .ok (some false) w := by kernel_rfl
theorem m_n_all (w : World) : (method 319 141 (.agg #[]) "isagoge/module.all").run Tryz.prog w = .ok (156, .agg #[]) w := by kernel_rfl
theorem a_n_all (w : World) : (nilAhead 319 141 (.agg #[]) "isagoge/module.all").run Tryz.prog w = .ok (some false) w := by kernel_rfl
theorem m_n_role (w : World) : (method 319 141 (.agg #[]) "isagoge/module.role").run Tryz.prog w = .ok (159, .agg #[]) w := by kernel_rfl
theorem a_n_role (w : World) : (nilAhead 319 141 (.agg #[]) "isagoge/module.role").run Tryz.prog w = .ok (some false) w := by kernel_rfl
theorem m_n_link (w : World) : (method 319 141 (.agg #[]) "isagoge/module.link").run Tryz.prog w = .ok (158, .agg #[]) w := by kernel_rfl
theorem a_n_link (w : World) : (nilAhead 319 141 (.agg #[]) "isagoge/module.link").run Tryz.prog w = .ok (some false) w := by kernel_rfl
theorem m_e_empty (w : World) : (method 319 142 (.agg #[]) "isagoge/module.empty").run Tryz.prog w = .ok (162, .agg #[]) w := by kernel_rfl
theorem a_e_empty (w : World) : (nilAhead 319 142 (.agg #[]) "isagoge/module.empty").run Tryz.prog w = .ok (some false) w := by kernel_rfl
theorem m_e_some (w : World) : (method 319 142 (.agg #[]) "isagoge/module.some").run Tryz.prog w = .ok (165, .agg #[]) w := by kernel_rfl
theorem a_e_some (w : World) : (nilAhead 319 142 (.agg #[]) "isagoge/module.some").run Tryz.prog w = .ok (some false) w := by kernel_rfl
theorem m_e_all (w : World) : (method 319 142 (.agg #[]) "isagoge/module.all").run Tryz.prog w = .ok (161, .agg #[]) w := by kernel_rfl
theorem a_e_all (w : World) : (nilAhead 319 142 (.agg #[]) "isagoge/module.all").run Tryz.prog w = .ok (some false) w := by kernel_rfl
theorem m_e_role (w : World) : (method 319 142 (.agg #[]) "isagoge/module.role").run Tryz.prog w = .ok (164, .agg #[]) w := by kernel_rfl
theorem a_e_role (w : World) : (nilAhead 319 142 (.agg #[]) "isagoge/module.role").run Tryz.prog w = .ok (some false) w := by kernel_rfl
theorem m_e_link (w : World) : (method 319 142 (.agg #[]) "isagoge/module.link").run Tryz.prog w = .ok (163, .agg #[]) w := by kernel_rfl
theorem a_e_link (w : World) : (nilAhead 319 142 (.agg #[]) "isagoge/module.link").run Tryz.prog w = .ok (some false) w := by kernel_rfl
end Go.Proofs.YthiclhbnggehoaaGreatDoor
/- module: how a judge judges a concept. -/
namespace Go.Proofs.YthiclhbnggehoaaGreatDoor
open Go.RowKit
set_option linter.unusedVariables false
set_option linter.unusedSimpArgs false
theorem holdS {W1 w' : World} {s : Nat} {v x1 x2 x3 y0 y1 : Value} {t t2 : TypeId} (h1 : W1.heap[s]? = some (.cells #[v, x1, x2, x3] t (0, 0))) (h2 : W1.heap[s + 1 + 1]? = some (.cells #[y0, y1] t2 (0, 0))) (hk : Keeps (fun _ => False) W1 w') :
    w'.cell? ⟨s, 0, none⟩ = some v ∧ w'.cell? ⟨s + 1 + 1, 0, none⟩ = some (cellAt w' (s + 1 + 1) 0) ∧ w'.cell? ⟨s + 1 + 1, 1, none⟩ = some (cellAt w' (s + 1 + 1) 1) ∧ w'.frozen? ⟨s + 1 + 1, 0, none⟩ = false ∧ w'.frozen? ⟨s + 1 + 1, 1, none⟩ = false :=
  have hb := hk.blk h2 (fun h => h)
  ⟨(blkCell (hk.blk h1 (fun h => h)) 0).trans rfl, cellAt_eq ((blkCell hb 0).trans rfl), cellAt_eq ((blkCell hb 1).trans rfl), blkFree hb 0, blkFree hb 1⟩
theorem holdS2 {W1 w' : World} {s : Nat} {v x1 x2 x3 y0 y1 : Value} {t t2 : TypeId} (u0 u1 : Value) (h1 : W1.heap[s]? = some (.cells #[v, x1, x2, x3] t (0, 0))) (h2 : W1.heap[s + 1 + 1]? = some (.cells #[y0, y1] t2 (0, 0))) (hk : Keeps (fun _ => False) W1 w') :
    (((w'.setCell ⟨s + 1 + 1, 0, none⟩ u0).setCell ⟨s + 1 + 1, 1, none⟩ u1).heap[s + 1 + 1]? = some (.cells #[u0, u1] t2 (0, 0))) ∧ Keeps (fun i => i = s + 1 + 1) W1 ((w'.setCell ⟨s + 1 + 1, 0, none⟩ u0).setCell ⟨s + 1 + 1, 1, none⟩ u1) ∧
    ((w'.setCell ⟨s + 1 + 1, 0, none⟩ u0).setCell ⟨s + 1 + 1, 1, none⟩ u1).cell? ⟨s, 0, none⟩ = some v := by
  have hb := hk.blk h2 (fun h => h)
  have hc := blkSet (blkSet hb 0 u0) 1 u1
  have hk2 : Keeps (fun i => i = s + 1 + 1) W1 ((w'.setCell ⟨s + 1 + 1, 0, none⟩ u0).setCell ⟨s + 1 + 1, 1, none⟩ u1) := ((show Keeps (fun i => i = s + 1 + 1) W1 w' from ⟨hk.os, hk.tape, hk.output, hk.size, fun k h _ => hk.block k h (fun h => h)⟩).set (Or.inl rfl) u0).set (Or.inl rfl) u1
  exact ⟨by simpa using hc, hk2, (blkCell (hk2.blk h1 (by omega)) 0).trans rfl⟩
theorem holdS3 {w' : World} {s : Nat} {v y0 y1 : Value} {t2 : TypeId} (h1 : w'.cell? ⟨s, 0, none⟩ = some v) (hb : w'.heap[s + 1 + 1]? = some (.cells #[y0, y1] t2 (0, 0))) :
    w'.cell? ⟨s, 0, none⟩ = some v ∧ w'.cell? ⟨s + 1 + 1, 0, none⟩ = some (cellAt w' (s + 1 + 1) 0) ∧ w'.cell? ⟨s + 1 + 1, 1, none⟩ = some (cellAt w' (s + 1 + 1) 1) ∧ w'.frozen? ⟨s + 1 + 1, 0, none⟩ = false ∧ w'.frozen? ⟨s + 1 + 1, 1, none⟩ = false :=
  ⟨h1, cellAt_eq ((blkCell hb 0).trans rfl), cellAt_eq ((blkCell hb 1).trans rfl), blkFree hb 0, blkFree hb 1⟩
theorem setSt {w wc : World} {x y : Value} {t2 : TypeId} (u0 u1 : Value) (hb : wc.heap[w.heap.size + 1 + 1]? = some (.cells #[x, y] t2 (0, 0))) (hk : Keeps (fun _ => False) w wc) :
    ((wc.setCell ⟨w.heap.size + 1 + 1, 0, none⟩ u0).setCell ⟨w.heap.size + 1 + 1, 1, none⟩ u1).cell? ⟨w.heap.size + 1 + 1, 0, none⟩ = some u0 ∧ ((wc.setCell ⟨w.heap.size + 1 + 1, 0, none⟩ u0).setCell ⟨w.heap.size + 1 + 1, 1, none⟩ u1).cell? ⟨w.heap.size + 1 + 1, 1, none⟩ = some u1 ∧ Keeps (fun _ => False) w ((wc.setCell ⟨w.heap.size + 1 + 1, 0, none⟩ u0).setCell ⟨w.heap.size + 1 + 1, 1, none⟩ u1) := by
  have hc := blkSet (blkSet hb 0 u0) 1 u1
  obtain ⟨h0, h1⟩ := cells2 (v0 := u0) (v1 := u1) (by simpa using hc)
  exact ⟨h0, h1, (hk.set (.inr (by show w.heap.size ≤ _; omega)) u0).set (.inr (by show w.heap.size ≤ _; omega)) u1⟩
theorem twoCell0 (W : World) (x y : Value) (B : Obj) : ((W.alloc (.cells #[x, y] 112)).alloc B).cell? ⟨W.heap.size, 0, none⟩ = some x := (blkCell (blkAlloc (blkNew rfl) _) 0).trans rfl
theorem twoCell1 (W : World) (x y : Value) (B : Obj) : ((W.alloc (.cells #[x, y] 112)).alloc B).cell? ⟨W.heap.size, 1, none⟩ = some y := (blkCell (blkAlloc (blkNew rfl) _) 1).trans rfl
theorem twoFree (W : World) (x y : Value) (B : Obj) (i : Nat) : ((W.alloc (.cells #[x, y] 112)).alloc B).frozen? ⟨W.heap.size, i, none⟩ = false := blkFree (blkAlloc (blkNew rfl) _) i
theorem blkNew1 {w : World} {a b : Obj} : ((w.alloc a).alloc b).heap[w.heap.size + 1]? = some b := blkNew (by simp)
theorem blkNewS {w : World} {p q : Addr} {u v : Value} {o : Obj} : (((w.setCell p u).setCell q v).alloc o).heap[w.heap.size]? = some o := blkNew (by simp)
theorem setTwo {W : World} {t : Nat} {x y a b : Value} {T : TypeId} (h : W.heap[t]? = some (.cells #[x, y] T (0, 0))) : ((W.setCell ⟨t, 0, none⟩ a).setCell ⟨t, 1, none⟩ b).heap[t]? = some (.cells #[a, b] T (0, 0)) := by
  simpa using blkSet (blkSet h 0 a) 1 b
theorem setOther {W : World} {t t' : Nat} {a b : Value} {o : Obj} (h : W.heap[t]? = some o) (hne : t ≠ t') : ((W.setCell ⟨t', 0, none⟩ a).setCell ⟨t', 1, none⟩ b).heap[t]? = some o :=
  (Keeps.set1 _ t' 1 b).blk ((Keeps.set1 _ t' 0 a).blk h hne) hne
theorem stEnd {w w' : World} {h : Nat} {p : Bool × Bool} (hk : Keeps (fun _ => False) w w') (hb : w'.heap[h]? = some (.cells #[.bool p.1, .bool p.2] 112 (0, 0))) : w'.cell? ⟨h, 0, none⟩ = some (.bool p.1) ∧ w'.cell? ⟨h, 1, none⟩ = some (.bool p.2) := cells2 hb
set_option maxRecDepth 100000 in
set_option maxHeartbeats 4000000 in
theorem jname_n (b1 b2 g : Nat) (C R : List Int) (n : Int) (A : Option Addr) (l cap : Nat) (w : World) (hj : JudgeR w C R b1 b2 g) :
    Calls Tryz.prog 85 #[.agg #[.iface 141 (.agg #[]), .map (some b1), .map (some b2), .pointer (some ⟨g, 0, none⟩)], .agg #[.int .i64 0, .int .i64 n, .slice A l cap]] w (RetSt (if decide (n ∈ C) then (false, false) else (true, false)) w) := by
  obtain ⟨⟨L, c1, c2⟩, -, -⟩ := hj
  have HC := Lib.hid c1
  have HLK : Hid (((findL L n).map Value.bool).getD (.bool false) = .bool (decide (n ∈ C))) := by unfold Hid; exact c2.look n
  clear c1 c2
  cases hd : decide (n ∈ C)
  · rw [hd] at HLK
    go_enter Tryz.func85, Tryz.ntmps85
    go_wp2_with (at_lookup; refine wp_look rfl _ _ 98 false rfl 4 (keyInt Tryz.underlying3) Tryz.underlying98 b1 L (HC.out.keep (S := fun _ => False) (by repeat (first | exact Keeps.refl _ _ | refine Keeps.drewN ?_ _ | refine Keeps.drew ?_ | refine Keeps.alloc ?_ _ | refine Keeps.set ?_ (Or.inl (by rfl)) _)) (fun h => h)) rfl (.bool false) (zeroBool _) n rfl ?_; rw [HLK.out]; simp only [Bool.false_eq_true, if_false])
    generalize hW1 : World.alloc _ _ = W1
    have hK1 : Keeps (fun _ => False) w W1 := by rw [← hW1]; repeat (first | exact Keeps.refl _ _ | refine Keeps.drewN ?_ _ | refine Keeps.drew ?_ | refine Keeps.alloc ?_ _ | refine Keeps.set ?_ (Or.inl (by rfl)) _)
    have hb1 : W1.heap[w.heap.size]? = some (.cells #[.iface 141 (.agg #[]), .map (some b1), .map (some b2), .pointer (some ⟨g, 0, none⟩)] 101 (0, 0)) := by rw [← hW1]; exact blkAlloc (blkAlloc (blkNew rfl) _) _
    have hb2 : W1.heap[w.heap.size + 1 + 1]? = some (.cells #[.bool false, .bool false] 112 (0, 0)) := by rw [← hW1]; exact blkNew (by simp)
    clear hW1
    have HB1 := Lib.hid hb1
    have HB2 := Lib.hid hb2
    clear hb1 hb2
    have m1 := m_n_empty
    have m2 := a_n_empty
    go_region_held3 (fun w' => w'.cell? ⟨w.heap.size, 0, none⟩ = some (.iface 141 (.agg #[])) ∧ w'.cell? ⟨w.heap.size + 1 + 1, 0, none⟩ = some (cellAt w' (w.heap.size + 1 + 1) 0) ∧ w'.cell? ⟨w.heap.size + 1 + 1, 1, none⟩ = some (cellAt w' (w.heap.size + 1 + 1) 1) ∧ w'.frozen? ⟨w.heap.size + 1 + 1, 0, none⟩ = false ∧ w'.frozen? ⟨w.heap.size + 1 + 1, 1, none⟩ = false)
      (first
        | exact holdS HB1.out HB2.out (Keeps.refl _ _)
        | exact holdS HB1.out HB2.out (Keeps.refl _ _).drew
        | exact holdS HB1.out HB2.out ((Keeps.refl _ _).drew.then_ HK2.out)
        | exact holdS HB1.out HB2.out (((Keeps.refl _ _).drew.then_ HK2.out).then_ HK3.out)
        | exact holdS3 (holdS2 _ _ HB1.out HB2.out (((Keeps.refl _ _).drew.then_ HK2.out).then_ HK3.out)).2.2 (holdS2 _ _ HB1.out HB2.out (((Keeps.refl _ _).drew.then_ HK2.out).then_ HK3.out)).1)
      ((first
        | (go_at_call 157; refine (n_empty W1.drew).mono ?_; rintro e w2 ⟨rfl, hk2⟩; have HK2 := Lib.hid hk2; clear hk2)
        | (go_at_call 157; refine (n_empty w2).mono ?_; rintro e w3 ⟨rfl, hk3⟩; have HK3 := Lib.hid hk3; clear hk3)))
    obtain ⟨q1, q2, -⟩ := holdS2 (.bool true) (.bool false) HB1.out HB2.out (((Keeps.refl _ _).drew.then_ HK2.out).then_ HK3.out)
    obtain ⟨x0, x1⟩ := cells2 q1
    go_wp2_with fail
    exact bodyPost_ret (v := .agg #[.bool true, .bool false]) (by simp [results, Tryz.results85, go_sem, x0, x1]) rfl ⟨rfl, hK1.trans q2 (fun i hi => .inr (by omega))⟩
  · rw [hd] at HLK
    go_enter Tryz.func85, Tryz.ntmps85
    go_wp2_with (at_lookup; refine wp_look rfl _ _ 98 false rfl 4 (keyInt Tryz.underlying3) Tryz.underlying98 b1 L (HC.out.keep (S := fun _ => False) (by repeat (first | exact Keeps.refl _ _ | refine Keeps.drewN ?_ _ | refine Keeps.drew ?_ | refine Keeps.alloc ?_ _ | refine Keeps.set ?_ (Or.inl (by rfl)) _)) (fun h => h)) rfl (.bool false) (zeroBool _) n rfl ?_; rw [HLK.out]; simp only [Bool.false_eq_true, if_false])
    generalize hW1 : World.alloc _ _ = W1
    have hK1 : Keeps (fun _ => False) w W1 := by rw [← hW1]; repeat (first | exact Keeps.refl _ _ | refine Keeps.drewN ?_ _ | refine Keeps.drew ?_ | refine Keeps.alloc ?_ _ | refine Keeps.set ?_ (Or.inl (by rfl)) _)
    have hb2 : W1.heap[w.heap.size + 1 + 1]? = some (.cells #[.bool false, .bool false] 112 (0, 0)) := by rw [← hW1]; exact blkNew (by simp)
    clear hW1
    obtain ⟨x0, x1⟩ := cells2 hb2
    exact bodyPost_ret (v := .agg #[.bool false, .bool false]) (by simp [results, Tryz.results85, go_sem, x0, x1]) rfl ⟨rfl, hK1⟩
set_option maxRecDepth 100000 in
set_option maxHeartbeats 4000000 in
theorem jname_e (b1 b2 g : Nat) (C R : List Int) (n : Int) (A : Option Addr) (l cap : Nat) (w : World) (hj : JudgeR w C R b1 b2 g) :
    Calls Tryz.prog 85 #[.agg #[.iface 142 (.agg #[]), .map (some b1), .map (some b2), .pointer (some ⟨g, 0, none⟩)], .agg #[.int .i64 0, .int .i64 n, .slice A l cap]] w (RetSt (if decide (n ∈ C) then (false, false) else (false, true)) w) := by
  obtain ⟨⟨L, c1, c2⟩, -, -⟩ := hj
  have HC := Lib.hid c1
  have HLK : Hid (((findL L n).map Value.bool).getD (.bool false) = .bool (decide (n ∈ C))) := by unfold Hid; exact c2.look n
  clear c1 c2
  cases hd : decide (n ∈ C)
  · rw [hd] at HLK
    go_enter Tryz.func85, Tryz.ntmps85
    go_wp2_with (at_lookup; refine wp_look rfl _ _ 98 false rfl 4 (keyInt Tryz.underlying3) Tryz.underlying98 b1 L (HC.out.keep (S := fun _ => False) (by repeat (first | exact Keeps.refl _ _ | refine Keeps.drewN ?_ _ | refine Keeps.drew ?_ | refine Keeps.alloc ?_ _ | refine Keeps.set ?_ (Or.inl (by rfl)) _)) (fun h => h)) rfl (.bool false) (zeroBool _) n rfl ?_; rw [HLK.out]; simp only [Bool.false_eq_true, if_false])
    generalize hW1 : World.alloc _ _ = W1
    have hK1 : Keeps (fun _ => False) w W1 := by rw [← hW1]; repeat (first | exact Keeps.refl _ _ | refine Keeps.drewN ?_ _ | refine Keeps.drew ?_ | refine Keeps.alloc ?_ _ | refine Keeps.set ?_ (Or.inl (by rfl)) _)
    have hb1 : W1.heap[w.heap.size]? = some (.cells #[.iface 142 (.agg #[]), .map (some b1), .map (some b2), .pointer (some ⟨g, 0, none⟩)] 101 (0, 0)) := by rw [← hW1]; exact blkAlloc (blkAlloc (blkNew rfl) _) _
    have hb2 : W1.heap[w.heap.size + 1 + 1]? = some (.cells #[.bool false, .bool false] 112 (0, 0)) := by rw [← hW1]; exact blkNew (by simp)
    clear hW1
    have HB1 := Lib.hid hb1
    have HB2 := Lib.hid hb2
    clear hb1 hb2
    have m1 := m_e_empty
    have m2 := a_e_empty
    go_region_held3 (fun w' => w'.cell? ⟨w.heap.size, 0, none⟩ = some (.iface 142 (.agg #[])) ∧ w'.cell? ⟨w.heap.size + 1 + 1, 0, none⟩ = some (cellAt w' (w.heap.size + 1 + 1) 0) ∧ w'.cell? ⟨w.heap.size + 1 + 1, 1, none⟩ = some (cellAt w' (w.heap.size + 1 + 1) 1) ∧ w'.frozen? ⟨w.heap.size + 1 + 1, 0, none⟩ = false ∧ w'.frozen? ⟨w.heap.size + 1 + 1, 1, none⟩ = false)
      (first
        | exact holdS HB1.out HB2.out (Keeps.refl _ _)
        | exact holdS HB1.out HB2.out (Keeps.refl _ _).drew
        | exact holdS HB1.out HB2.out ((Keeps.refl _ _).drew.then_ HK2.out)
        | exact holdS HB1.out HB2.out (((Keeps.refl _ _).drew.then_ HK2.out).then_ HK3.out)
        | exact holdS3 (holdS2 _ _ HB1.out HB2.out (((Keeps.refl _ _).drew.then_ HK2.out).then_ HK3.out)).2.2 (holdS2 _ _ HB1.out HB2.out (((Keeps.refl _ _).drew.then_ HK2.out).then_ HK3.out)).1)
      ((first
        | (go_at_call 162; refine (e_empty W1.drew).mono ?_; rintro e w2 ⟨rfl, hk2⟩; have HK2 := Lib.hid hk2; clear hk2)
        | (go_at_call 162; refine (e_empty w2).mono ?_; rintro e w3 ⟨rfl, hk3⟩; have HK3 := Lib.hid hk3; clear hk3)))
    obtain ⟨q1, q2, -⟩ := holdS2 (.bool false) (.bool true) HB1.out HB2.out (((Keeps.refl _ _).drew.then_ HK2.out).then_ HK3.out)
    obtain ⟨x0, x1⟩ := cells2 q1
    go_wp2_with fail
    exact bodyPost_ret (v := .agg #[.bool false, .bool true]) (by simp [results, Tryz.results85, go_sem, x0, x1]) rfl ⟨rfl, hK1.trans q2 (fun i hi => .inr (by omega))⟩
  · rw [hd] at HLK
    go_enter Tryz.func85, Tryz.ntmps85
    go_wp2_with (at_lookup; refine wp_look rfl _ _ 98 false rfl 4 (keyInt Tryz.underlying3) Tryz.underlying98 b1 L (HC.out.keep (S := fun _ => False) (by repeat (first | exact Keeps.refl _ _ | refine Keeps.drewN ?_ _ | refine Keeps.drew ?_ | refine Keeps.alloc ?_ _ | refine Keeps.set ?_ (Or.inl (by rfl)) _)) (fun h => h)) rfl (.bool false) (zeroBool _) n rfl ?_; rw [HLK.out]; simp only [Bool.false_eq_true, if_false])
    generalize hW1 : World.alloc _ _ = W1
    have hK1 : Keeps (fun _ => False) w W1 := by rw [← hW1]; repeat (first | exact Keeps.refl _ _ | refine Keeps.drewN ?_ _ | refine Keeps.drew ?_ | refine Keeps.alloc ?_ _ | refine Keeps.set ?_ (Or.inl (by rfl)) _)
    have hb2 : W1.heap[w.heap.size + 1 + 1]? = some (.cells #[.bool false, .bool false] 112 (0, 0)) := by rw [← hW1]; exact blkNew (by simp)
    clear hW1
    obtain ⟨x0, x1⟩ := cells2 hb2
    exact bodyPost_ret (v := .agg #[.bool false, .bool false]) (by simp [results, Tryz.results85, go_sem, x0, x1]) rfl ⟨rfl, hK1⟩
/-- The arguments of a node, read: k of them, at (bb, oo). -/
def ArgAt (w : World) (bb oo : Nat) (d : Con) (A : Option Addr) (cap : Nat) : Prop := w.cell? ⟨bb, oo, none⟩ = some (.int .i64 d.op) ∧ w.cell? ⟨bb, oo + 1, none⟩ = some (.int .i64 d.n) ∧ w.cell? ⟨bb, oo + 2, none⟩ = some (.slice A d.args.length cap)
theorem ArgAt.still {w w' : World} {bb oo : Nat} {d : Con} {A : Option Addr} {cap : Nat} (h : ArgAt w bb oo d A cap) (hk : Keeps (fun _ => False) w w') : ArgAt w' bb oo d A cap := ⟨hk.cell h.1 (fun h => h), hk.cell h.2.1 (fun h => h), hk.cell h.2.2 (fun h => h)⟩
set_option maxRecDepth 100000 in
set_option maxHeartbeats 4000000 in
theorem jnot_calls (o : Value) (b1 b2 g bb oo cap : Nat) (d0 : Con) (A0 : Option Addr) (k0 : Nat) (p0 : Bool × Bool) (n : Int) (w : World) (h0 : ArgAt w bb (oo) d0 A0 k0) (c0 : ∀ w', Keeps (fun _ => False) w w' → Calls Tryz.prog 55 #[.agg #[o, .map (some b1), .map (some b2), .pointer (some ⟨g, 0, none⟩)], .agg #[.int .i64 d0.op, .int .i64 d0.n, .slice A0 d0.args.length k0]] w' (RetSt p0 w')) :
    Calls Tryz.prog 88 #[.agg #[o, .map (some b1), .map (some b2), .pointer (some ⟨g, 0, none⟩)], .agg #[.int .i64 3, .int .i64 n, .slice (some ⟨bb, oo, none⟩) 1 cap]] w (RetSt (p0.2, p0.1) w) := by
  have HC0 := Lib.hid c0
  obtain ⟨p0a, p0b⟩ := p0
  clear c0
  go_enter Tryz.func88, Tryz.ntmps88
  go_upto_region 1 with fail
  generalize hW1 : World.alloc _ _ = W1
  have hK1 : Keeps (fun _ => False) w W1 := by rw [← hW1]; repeat (first | exact Keeps.refl _ _ | refine Keeps.drewN ?_ _ | refine Keeps.drew ?_ | refine Keeps.alloc ?_ _ | refine Keeps.set ?_ (Or.inl (by rfl)) _)
  have hb1 : W1.heap[w.heap.size]? = some (.cells #[o, .map (some b1), .map (some b2), .pointer (some ⟨g, 0, none⟩)] 101 (0, 0)) := by rw [← hW1]; exact blkAlloc (blkAlloc (blkNew rfl) _) _
  have hb2 : W1.heap[w.heap.size + 1]? = some (.cells #[.int .i64 3, .int .i64 n, .slice (some ⟨bb, oo, none⟩) 1 cap] 37 (0, 0)) := by rw [← hW1]; exact blkAlloc (blkNew (by simp)) _
  have hb3 : W1.heap[w.heap.size + 1 + 1]? = some (.cells #[.bool false, .bool false] 112 (0, 0)) := by rw [← hW1]; exact blkNew (by simp)
  clear hW1
  have HP : Hid (∀ w', Keeps (fun _ => False) W1 w' → w'.cell? ⟨w.heap.size, 0, none⟩ = some o ∧ w'.cell? ⟨w.heap.size, 1, none⟩ = some (.map (some b1)) ∧ w'.cell? ⟨w.heap.size, 2, none⟩ = some (.map (some b2)) ∧ w'.cell? ⟨w.heap.size, 3, none⟩ = some (.pointer (some ⟨g, 0, none⟩)) ∧ w'.cell? ⟨w.heap.size + 1, 2, none⟩ = some (.slice (some ⟨bb, oo, none⟩) 1 cap) ∧ w'.cell? ⟨bb, oo, none⟩ = some (.int .i64 d0.op) ∧ w'.cell? ⟨bb, oo + 1, none⟩ = some (.int .i64 d0.n) ∧ w'.cell? ⟨bb, oo + 2, none⟩ = some (.slice A0 d0.args.length k0)) := fun w' hk =>
    ⟨(blkCell (hk.blk hb1 (fun h => h)) 0).trans rfl, (blkCell (hk.blk hb1 (fun h => h)) 1).trans rfl, (blkCell (hk.blk hb1 (fun h => h)) 2).trans rfl, (blkCell (hk.blk hb1 (fun h => h)) 3).trans rfl, (blkCell (hk.blk hb2 (fun h => h)) 2).trans rfl, (h0.still (hK1.then_ hk)).1, (h0.still (hK1.then_ hk)).2.1, (h0.still (hK1.then_ hk)).2.2⟩
  have HB3 := Lib.hid hb3
  have HK1 := Lib.hid hK1
  clear hb1 hb2 hb3 hK1 h0
  go_cut [5] from 5 (fun v5 wc => ∃ t, v5 = .pointer (some ⟨t, 0, none⟩) ∧ wc.heap[t]? = some (.cells #[.bool p0a, .bool p0b] 112 (0, 0)) ∧ W1.heap.size ≤ t ∧ Keeps (fun _ => False) W1 wc)
  case first =>
   go_region_held3 (fun w' => w'.cell? ⟨w.heap.size, 0, none⟩ = some o ∧ w'.cell? ⟨w.heap.size, 1, none⟩ = some (.map (some b1)) ∧ w'.cell? ⟨w.heap.size, 2, none⟩ = some (.map (some b2)) ∧ w'.cell? ⟨w.heap.size, 3, none⟩ = some (.pointer (some ⟨g, 0, none⟩)) ∧ w'.cell? ⟨w.heap.size + 1, 2, none⟩ = some (.slice (some ⟨bb, oo, none⟩) 1 cap) ∧ w'.cell? ⟨bb, oo, none⟩ = some (.int .i64 d0.op) ∧ w'.cell? ⟨bb, oo + 1, none⟩ = some (.int .i64 d0.n) ∧ w'.cell? ⟨bb, oo + 2, none⟩ = some (.slice A0 d0.args.length k0))
    (exact HP.out _ (by repeat (first | (with_reducible exact Keeps.refl _ _) | (with_reducible exact HK3.out) | (with_reducible exact HK2.out) | (with_reducible refine Keeps.drew ?_) | (with_reducible refine Keeps.alloc ?_ _) | (with_reducible refine Keeps.set ?_ (Or.inr (by first | exact Nat.le_refl _ | omega)) _))))
    ((first
      | (go_at_call 55; (with_reducible show Calls _ _ #[_, Value.agg #[Value.int IntKind.i64 d0.op, _, _]] _ _); refine (HC0.out _ (HK1.out.then_ (by repeat (first | (with_reducible exact Keeps.refl _ _) | (with_reducible exact HK3.out) | (with_reducible exact HK2.out) | (with_reducible refine Keeps.drew ?_) | (with_reducible refine Keeps.alloc ?_ _) | (with_reducible refine Keeps.set ?_ (Or.inr (by first | exact Nat.le_refl _ | omega)) _))))).mono ?_; rintro e w2 ⟨rfl, hk2⟩; have HK2 := Lib.hid (Keeps.then_ (a := W1) (by repeat (first | (with_reducible exact Keeps.refl _ _) | (with_reducible exact HK3.out) | (with_reducible exact HK2.out) | (with_reducible refine Keeps.drew ?_) | (with_reducible refine Keeps.alloc ?_ _) | (with_reducible refine Keeps.set ?_ (Or.inr (by first | exact Nat.le_refl _ | omega)) _))) hk2); have hs2 := HK2.out.size; (try (have hx := hk2.blk (blkNew (w := W1) rfl) (fun h => h); obtain ⟨y0, y1⟩ := cells2 hx; have hlf0 := blkLt hx; have f0 := blkFree hx 0; have f1 := blkFree hx 1; have HX := Lib.hid hx; clear hx)); clear hk2)))
   all_goals
    clear HP
    go_wp2_with fail
    go_meet
    first
      | exact ⟨_, rfl, blkNew rfl, HK2.out.size, HK2.out.alloc _⟩
      | exact ⟨_, rfl, by simpa using blkSet (blkSet HX.out 0 _) 1 _, Nat.le_refl _, by repeat (first | (with_reducible exact Keeps.refl _ _) | (with_reducible exact HK3.out) | (with_reducible exact HK2.out) | (with_reducible refine Keeps.drew ?_) | (with_reducible refine Keeps.alloc ?_ _) | (with_reducible refine Keeps.set ?_ (Or.inr (by first | exact Nat.le_refl _ | omega)) _))⟩
  case rest =>
   obtain ⟨t, rfl, q1, q2, q3⟩ := hcut
   obtain ⟨z0, z1⟩ := cells2 q1
   have hb3 := q3.blk HB3.out (fun h => h)
   obtain ⟨y0, y1⟩ := cells2 hb3
   have f0 := blkFree hb3 0
   have f1 := blkFree hb3 1
   have HB4 := Lib.hid hb3
   have HQ := Lib.hid (HK1.out.then_ q3)
   clear hb3 q1 q2 q3 HB3 HK1 HP HC0
   all_goals
    go_wp2_with fail
    obtain ⟨x0, x1, hkf⟩ := setSt (.bool p0b) (.bool p0a) HB4.out HQ.out
    exact bodyPost_ret (v := .agg #[.bool p0b, .bool p0a]) (by simp [results, Tryz.results88, go_sem, x0, x1]) rfl ⟨rfl, hkf⟩
set_option maxRecDepth 100000 in
set_option maxHeartbeats 4000000 in
theorem jand_calls (o : Value) (b1 b2 g bb oo cap : Nat) (d0 d1 : Con) (A0 : Option Addr) (k0 : Nat) (p0 : Bool × Bool) (A1 : Option Addr) (k1 : Nat) (p1 : Bool × Bool) (n : Int) (w : World) (h0 : ArgAt w bb (oo) d0 A0 k0) (c0 : ∀ w', Keeps (fun _ => False) w w' → Calls Tryz.prog 55 #[.agg #[o, .map (some b1), .map (some b2), .pointer (some ⟨g, 0, none⟩)], .agg #[.int .i64 d0.op, .int .i64 d0.n, .slice A0 d0.args.length k0]] w' (RetSt p0 w')) (h1 : ArgAt w bb (oo + 3) d1 A1 k1) (c1 : ∀ w', Keeps (fun _ => False) w w' → Calls Tryz.prog 55 #[.agg #[o, .map (some b1), .map (some b2), .pointer (some ⟨g, 0, none⟩)], .agg #[.int .i64 d1.op, .int .i64 d1.n, .slice A1 d1.args.length k1]] w' (RetSt p1 w')) :
    Calls Tryz.prog 89 #[.agg #[o, .map (some b1), .map (some b2), .pointer (some ⟨g, 0, none⟩)], .agg #[.int .i64 4, .int .i64 n, .slice (some ⟨bb, oo, none⟩) 2 cap]] w (RetSt (p0.1 || p1.1, p0.2 && p1.2) w) := by
  have HC0 := Lib.hid c0
  have HC1 := Lib.hid c1
  obtain ⟨p0a, p0b⟩ := p0
  obtain ⟨p1a, p1b⟩ := p1
  clear c0 c1
  go_enter Tryz.func89, Tryz.ntmps89
  go_upto_region 1 with fail
  generalize hW1 : World.alloc _ _ = W1
  have hK1 : Keeps (fun _ => False) w W1 := by rw [← hW1]; repeat (first | exact Keeps.refl _ _ | refine Keeps.drewN ?_ _ | refine Keeps.drew ?_ | refine Keeps.alloc ?_ _ | refine Keeps.set ?_ (Or.inl (by rfl)) _)
  have hb1 : W1.heap[w.heap.size]? = some (.cells #[o, .map (some b1), .map (some b2), .pointer (some ⟨g, 0, none⟩)] 101 (0, 0)) := by rw [← hW1]; exact blkAlloc (blkAlloc (blkNew rfl) _) _
  have hb2 : W1.heap[w.heap.size + 1]? = some (.cells #[.int .i64 4, .int .i64 n, .slice (some ⟨bb, oo, none⟩) 2 cap] 37 (0, 0)) := by rw [← hW1]; exact blkAlloc (blkNew (by simp)) _
  have hb3 : W1.heap[w.heap.size + 1 + 1]? = some (.cells #[.bool false, .bool false] 112 (0, 0)) := by rw [← hW1]; exact blkNew (by simp)
  clear hW1
  have HP : Hid (∀ w', Keeps (fun _ => False) W1 w' → w'.cell? ⟨w.heap.size, 0, none⟩ = some o ∧ w'.cell? ⟨w.heap.size, 1, none⟩ = some (.map (some b1)) ∧ w'.cell? ⟨w.heap.size, 2, none⟩ = some (.map (some b2)) ∧ w'.cell? ⟨w.heap.size, 3, none⟩ = some (.pointer (some ⟨g, 0, none⟩)) ∧ w'.cell? ⟨w.heap.size + 1, 2, none⟩ = some (.slice (some ⟨bb, oo, none⟩) 2 cap) ∧ w'.cell? ⟨bb, oo, none⟩ = some (.int .i64 d0.op) ∧ w'.cell? ⟨bb, oo + 1, none⟩ = some (.int .i64 d0.n) ∧ w'.cell? ⟨bb, oo + 2, none⟩ = some (.slice A0 d0.args.length k0) ∧ w'.cell? ⟨bb, oo + 3, none⟩ = some (.int .i64 d1.op) ∧ w'.cell? ⟨bb, oo + 3 + 1, none⟩ = some (.int .i64 d1.n) ∧ w'.cell? ⟨bb, oo + 3 + 2, none⟩ = some (.slice A1 d1.args.length k1)) := fun w' hk =>
    ⟨(blkCell (hk.blk hb1 (fun h => h)) 0).trans rfl, (blkCell (hk.blk hb1 (fun h => h)) 1).trans rfl, (blkCell (hk.blk hb1 (fun h => h)) 2).trans rfl, (blkCell (hk.blk hb1 (fun h => h)) 3).trans rfl, (blkCell (hk.blk hb2 (fun h => h)) 2).trans rfl, (h0.still (hK1.then_ hk)).1, (h0.still (hK1.then_ hk)).2.1, (h0.still (hK1.then_ hk)).2.2, (h1.still (hK1.then_ hk)).1, (h1.still (hK1.then_ hk)).2.1, (h1.still (hK1.then_ hk)).2.2⟩
  have HB3 := Lib.hid hb3
  have HK1 := Lib.hid hK1
  clear hb1 hb2 hb3 hK1 h0 h1
  go_cut [5, 6] from 5 (fun v5 v6 wc => ∃ t t', v5 = .pointer (some ⟨t, 0, none⟩) ∧ v6 = .pointer (some ⟨t', 0, none⟩) ∧ wc.heap[t]? = some (.cells #[.bool p0a, .bool p0b] 112 (0, 0)) ∧ wc.heap[t']? = some (.cells #[.bool p1a, .bool p1b] 112 (0, 0)) ∧ Keeps (fun _ => False) W1 wc)
  case first =>
   have e0 := twoCell0
   have e1 := twoCell1
   have e2 := fun W x y B => twoFree W x y B 0
   have e3 := fun W x y B => twoFree W x y B 1
   go_region_held3 (fun w' => w'.cell? ⟨w.heap.size, 0, none⟩ = some o ∧ w'.cell? ⟨w.heap.size, 1, none⟩ = some (.map (some b1)) ∧ w'.cell? ⟨w.heap.size, 2, none⟩ = some (.map (some b2)) ∧ w'.cell? ⟨w.heap.size, 3, none⟩ = some (.pointer (some ⟨g, 0, none⟩)) ∧ w'.cell? ⟨w.heap.size + 1, 2, none⟩ = some (.slice (some ⟨bb, oo, none⟩) 2 cap) ∧ w'.cell? ⟨bb, oo, none⟩ = some (.int .i64 d0.op) ∧ w'.cell? ⟨bb, oo + 1, none⟩ = some (.int .i64 d0.n) ∧ w'.cell? ⟨bb, oo + 2, none⟩ = some (.slice A0 d0.args.length k0) ∧ w'.cell? ⟨bb, oo + 3, none⟩ = some (.int .i64 d1.op) ∧ w'.cell? ⟨bb, oo + 3 + 1, none⟩ = some (.int .i64 d1.n) ∧ w'.cell? ⟨bb, oo + 3 + 2, none⟩ = some (.slice A1 d1.args.length k1))
    (exact HP.out _ (by repeat (first | (with_reducible exact Keeps.refl _ _) | (with_reducible exact HK3.out) | (with_reducible exact HK2.out) | (with_reducible refine Keeps.drew ?_) | (with_reducible refine Keeps.alloc ?_ _) | (with_reducible refine Keeps.set ?_ (Or.inr (by first | exact Nat.le_refl _ | omega)) _))))
    ((first
      | (go_at_call 55; (with_reducible show Calls _ _ #[_, Value.agg #[Value.int IntKind.i64 d0.op, _, _]] _ _); refine (HC0.out _ (HK1.out.then_ (by repeat (first | (with_reducible exact Keeps.refl _ _) | (with_reducible exact HK3.out) | (with_reducible exact HK2.out) | (with_reducible refine Keeps.drew ?_) | (with_reducible refine Keeps.alloc ?_ _) | (with_reducible refine Keeps.set ?_ (Or.inr (by first | exact Nat.le_refl _ | omega)) _))))).mono ?_; rintro e w2 ⟨rfl, hk2⟩; have HK2 := Lib.hid (Keeps.then_ (a := W1) (by repeat (first | (with_reducible exact Keeps.refl _ _) | (with_reducible exact HK3.out) | (with_reducible exact HK2.out) | (with_reducible refine Keeps.drew ?_) | (with_reducible refine Keeps.alloc ?_ _) | (with_reducible refine Keeps.set ?_ (Or.inr (by first | exact Nat.le_refl _ | omega)) _))) hk2); have hs2 := HK2.out.size; (try ((first | have hx := hk2.blk (blkNew (w := W1) rfl) (fun h => h) | have hx := hk2.blk (blkAlloc (blkNew (w := W1) rfl) _) (fun h => h)); obtain ⟨y0, y1⟩ := cells2 hx; have hlf0 := blkLt hx; have f0 := blkFree hx 0; have f1 := blkFree hx 1; have HX := Lib.hid hx; clear hx)); (try (have hx := hk2.blk (blkNew1 (w := W1)) (fun h => h); obtain ⟨y2, y3⟩ := cells2 hx; have hlf2 := blkLt hx; have f2 := blkFree hx 0; have f3 := blkFree hx 1; have HXb := Lib.hid hx; clear hx)); clear hk2)
      | (go_at_call 55; (with_reducible show Calls _ _ #[_, Value.agg #[Value.int IntKind.i64 d1.op, _, _]] _ _); refine (HC1.out _ (HK1.out.then_ (by repeat (first | (with_reducible exact Keeps.refl _ _) | (with_reducible exact HK3.out) | (with_reducible exact HK2.out) | (with_reducible refine Keeps.drew ?_) | (with_reducible refine Keeps.alloc ?_ _) | (with_reducible refine Keeps.set ?_ (Or.inr (by first | exact Nat.le_refl _ | omega)) _))))).mono ?_; rintro e w3 ⟨rfl, hk3⟩; have HK3 := Lib.hid (Keeps.then_ (a := W1) (by repeat (first | (with_reducible exact Keeps.refl _ _) | (with_reducible exact HK3.out) | (with_reducible exact HK2.out) | (with_reducible refine Keeps.drew ?_) | (with_reducible refine Keeps.alloc ?_ _) | (with_reducible refine Keeps.set ?_ (Or.inr (by first | exact Nat.le_refl _ | omega)) _))) hk3); have hs3 := hk3.size; (try simp at hs3); (try ((first | have hz := hk3.blk HX.out (fun h => h) | have hz := hk3.blk (blkAlloc HX.out _) (fun h => h)); obtain ⟨y4, y5⟩ := cells2 hz; have hlf4 := blkLt hz; have f4 := blkFree hz 0; have f5 := blkFree hz 1; have HZ := Lib.hid hz; clear hz)); (try ((first | have hv := hk3.blk (blkNew (w := w2) rfl) (fun h => h) | have hv := hk3.blk (blkAlloc (blkNew (w := w2) rfl) _) (fun h => h)); obtain ⟨y6, y7⟩ := cells2 hv; have hlf6 := blkLt hv; have f6 := blkFree hv 0; have f7 := blkFree hv 1; have HV := Lib.hid hv; clear hv)); (try ((first | have hu := hk3.blk HXb.out (fun h => h) | have hu := hk3.blk (blkAlloc HXb.out _) (fun h => h) | have hu := hk3.blk (blkNew1 (w := w2)) (fun h => h)); obtain ⟨y8, y9⟩ := cells2 hu; have hlf8 := blkLt hu; have f8 := blkFree hu 0; have f9 := blkFree hu 1; have HU := Lib.hid hu; clear hu)); clear hk3)))
   all_goals
    clear HP HC0 HC1 e0 e1 e2 e3
    go_wp2_with fail
    go_meet
    first
      | exact ⟨_, rfl, blkNew rfl, HK2.out.size, HK2.out.alloc _⟩
      | exact ⟨_, rfl, by simpa using blkSet (blkSet HX.out 0 _) 1 _, Nat.le_refl _, by repeat (first | (with_reducible exact Keeps.refl _ _) | (with_reducible exact HK3.out) | (with_reducible exact HK2.out) | (with_reducible refine Keeps.drew ?_) | (with_reducible refine Keeps.alloc ?_ _) | (with_reducible refine Keeps.set ?_ (Or.inr (by first | exact Nat.le_refl _ | omega)) _))⟩
      | (refine ⟨_, _, rfl, rfl, ?_, ?_, by repeat (first | (with_reducible exact Keeps.refl _ _) | (with_reducible exact HK3.out) | (with_reducible exact HK2.out) | (with_reducible refine Keeps.drew ?_) | (with_reducible refine Keeps.alloc ?_ _) | (with_reducible refine Keeps.set ?_ (Or.inr (by first | exact Nat.le_refl _ | omega)) _))⟩ <;> (repeat' (first | (with_reducible exact HZ.out) | (with_reducible exact HV.out) | (with_reducible exact HU.out) | (with_reducible exact blkNew rfl) | (with_reducible exact blkNewS) | (with_reducible exact blkNew1) | (with_reducible exact setTwo HZ.out) | (with_reducible exact setTwo HV.out) | (with_reducible exact setTwo HU.out) | (with_reducible exact setTwo (setOther HZ.out (by omega))) | (with_reducible exact setTwo (setOther HV.out (by omega))) | (with_reducible exact setTwo (setOther HU.out (by omega))) | (with_reducible refine setOther ?_ ?_) | (with_reducible refine blkAlloc ?_ _) | (show (_ : Nat) ≠ _; omega))))
  case rest =>
   obtain ⟨t, t', rfl, rfl, q1, q2, q3⟩ := hcut
   obtain ⟨z2, z3⟩ := cells2 q2
   obtain ⟨z0, z1⟩ := cells2 q1
   have hb3 := q3.blk HB3.out (fun h => h)
   obtain ⟨y0, y1⟩ := cells2 hb3
   have f0 := blkFree hb3 0
   have f1 := blkFree hb3 1
   have HB4 := Lib.hid hb3
   have HQ := Lib.hid (HK1.out.then_ q3)
   clear hb3 q1 q2 q3 HB3 HK1 HP HC0 HC1
   cases p0a <;> cases p0b
   all_goals
    go_wp2_with fail
    obtain ⟨x0, x1, hkf⟩ := setSt (.bool _) (.bool _) HB4.out HQ.out
    exact bodyPost_ret (v := .agg #[.bool _, .bool _]) (by simp [results, Tryz.results89, go_sem, x0, x1]) rfl ⟨rfl, hkf⟩
set_option maxRecDepth 100000 in
set_option maxHeartbeats 4000000 in
theorem jor_calls (o : Value) (b1 b2 g bb oo cap : Nat) (d0 d1 : Con) (A0 : Option Addr) (k0 : Nat) (p0 : Bool × Bool) (A1 : Option Addr) (k1 : Nat) (p1 : Bool × Bool) (n : Int) (w : World) (h0 : ArgAt w bb (oo) d0 A0 k0) (c0 : ∀ w', Keeps (fun _ => False) w w' → Calls Tryz.prog 55 #[.agg #[o, .map (some b1), .map (some b2), .pointer (some ⟨g, 0, none⟩)], .agg #[.int .i64 d0.op, .int .i64 d0.n, .slice A0 d0.args.length k0]] w' (RetSt p0 w')) (h1 : ArgAt w bb (oo + 3) d1 A1 k1) (c1 : ∀ w', Keeps (fun _ => False) w w' → Calls Tryz.prog 55 #[.agg #[o, .map (some b1), .map (some b2), .pointer (some ⟨g, 0, none⟩)], .agg #[.int .i64 d1.op, .int .i64 d1.n, .slice A1 d1.args.length k1]] w' (RetSt p1 w')) :
    Calls Tryz.prog 90 #[.agg #[o, .map (some b1), .map (some b2), .pointer (some ⟨g, 0, none⟩)], .agg #[.int .i64 5, .int .i64 n, .slice (some ⟨bb, oo, none⟩) 2 cap]] w (RetSt (p0.1 && p1.1, p0.2 || p1.2) w) := by
  have HC0 := Lib.hid c0
  have HC1 := Lib.hid c1
  obtain ⟨p0a, p0b⟩ := p0
  obtain ⟨p1a, p1b⟩ := p1
  clear c0 c1
  go_enter Tryz.func90, Tryz.ntmps90
  go_upto_region 1 with fail
  generalize hW1 : World.alloc _ _ = W1
  have hK1 : Keeps (fun _ => False) w W1 := by rw [← hW1]; repeat (first | exact Keeps.refl _ _ | refine Keeps.drewN ?_ _ | refine Keeps.drew ?_ | refine Keeps.alloc ?_ _ | refine Keeps.set ?_ (Or.inl (by rfl)) _)
  have hb1 : W1.heap[w.heap.size]? = some (.cells #[o, .map (some b1), .map (some b2), .pointer (some ⟨g, 0, none⟩)] 101 (0, 0)) := by rw [← hW1]; exact blkAlloc (blkAlloc (blkNew rfl) _) _
  have hb2 : W1.heap[w.heap.size + 1]? = some (.cells #[.int .i64 5, .int .i64 n, .slice (some ⟨bb, oo, none⟩) 2 cap] 37 (0, 0)) := by rw [← hW1]; exact blkAlloc (blkNew (by simp)) _
  have hb3 : W1.heap[w.heap.size + 1 + 1]? = some (.cells #[.bool false, .bool false] 112 (0, 0)) := by rw [← hW1]; exact blkNew (by simp)
  clear hW1
  have HP : Hid (∀ w', Keeps (fun _ => False) W1 w' → w'.cell? ⟨w.heap.size, 0, none⟩ = some o ∧ w'.cell? ⟨w.heap.size, 1, none⟩ = some (.map (some b1)) ∧ w'.cell? ⟨w.heap.size, 2, none⟩ = some (.map (some b2)) ∧ w'.cell? ⟨w.heap.size, 3, none⟩ = some (.pointer (some ⟨g, 0, none⟩)) ∧ w'.cell? ⟨w.heap.size + 1, 2, none⟩ = some (.slice (some ⟨bb, oo, none⟩) 2 cap) ∧ w'.cell? ⟨bb, oo, none⟩ = some (.int .i64 d0.op) ∧ w'.cell? ⟨bb, oo + 1, none⟩ = some (.int .i64 d0.n) ∧ w'.cell? ⟨bb, oo + 2, none⟩ = some (.slice A0 d0.args.length k0) ∧ w'.cell? ⟨bb, oo + 3, none⟩ = some (.int .i64 d1.op) ∧ w'.cell? ⟨bb, oo + 3 + 1, none⟩ = some (.int .i64 d1.n) ∧ w'.cell? ⟨bb, oo + 3 + 2, none⟩ = some (.slice A1 d1.args.length k1)) := fun w' hk =>
    ⟨(blkCell (hk.blk hb1 (fun h => h)) 0).trans rfl, (blkCell (hk.blk hb1 (fun h => h)) 1).trans rfl, (blkCell (hk.blk hb1 (fun h => h)) 2).trans rfl, (blkCell (hk.blk hb1 (fun h => h)) 3).trans rfl, (blkCell (hk.blk hb2 (fun h => h)) 2).trans rfl, (h0.still (hK1.then_ hk)).1, (h0.still (hK1.then_ hk)).2.1, (h0.still (hK1.then_ hk)).2.2, (h1.still (hK1.then_ hk)).1, (h1.still (hK1.then_ hk)).2.1, (h1.still (hK1.then_ hk)).2.2⟩
  have HB3 := Lib.hid hb3
  have HK1 := Lib.hid hK1
  clear hb1 hb2 hb3 hK1 h0 h1
  go_cut [5, 6] from 5 (fun v5 v6 wc => ∃ t t', v5 = .pointer (some ⟨t, 0, none⟩) ∧ v6 = .pointer (some ⟨t', 0, none⟩) ∧ wc.heap[t]? = some (.cells #[.bool p0a, .bool p0b] 112 (0, 0)) ∧ wc.heap[t']? = some (.cells #[.bool p1a, .bool p1b] 112 (0, 0)) ∧ Keeps (fun _ => False) W1 wc)
  case first =>
   have e0 := twoCell0
   have e1 := twoCell1
   have e2 := fun W x y B => twoFree W x y B 0
   have e3 := fun W x y B => twoFree W x y B 1
   go_region_held3 (fun w' => w'.cell? ⟨w.heap.size, 0, none⟩ = some o ∧ w'.cell? ⟨w.heap.size, 1, none⟩ = some (.map (some b1)) ∧ w'.cell? ⟨w.heap.size, 2, none⟩ = some (.map (some b2)) ∧ w'.cell? ⟨w.heap.size, 3, none⟩ = some (.pointer (some ⟨g, 0, none⟩)) ∧ w'.cell? ⟨w.heap.size + 1, 2, none⟩ = some (.slice (some ⟨bb, oo, none⟩) 2 cap) ∧ w'.cell? ⟨bb, oo, none⟩ = some (.int .i64 d0.op) ∧ w'.cell? ⟨bb, oo + 1, none⟩ = some (.int .i64 d0.n) ∧ w'.cell? ⟨bb, oo + 2, none⟩ = some (.slice A0 d0.args.length k0) ∧ w'.cell? ⟨bb, oo + 3, none⟩ = some (.int .i64 d1.op) ∧ w'.cell? ⟨bb, oo + 3 + 1, none⟩ = some (.int .i64 d1.n) ∧ w'.cell? ⟨bb, oo + 3 + 2, none⟩ = some (.slice A1 d1.args.length k1))
    (exact HP.out _ (by repeat (first | (with_reducible exact Keeps.refl _ _) | (with_reducible exact HK3.out) | (with_reducible exact HK2.out) | (with_reducible refine Keeps.drew ?_) | (with_reducible refine Keeps.alloc ?_ _) | (with_reducible refine Keeps.set ?_ (Or.inr (by first | exact Nat.le_refl _ | omega)) _))))
    ((first
      | (go_at_call 55; (with_reducible show Calls _ _ #[_, Value.agg #[Value.int IntKind.i64 d0.op, _, _]] _ _); refine (HC0.out _ (HK1.out.then_ (by repeat (first | (with_reducible exact Keeps.refl _ _) | (with_reducible exact HK3.out) | (with_reducible exact HK2.out) | (with_reducible refine Keeps.drew ?_) | (with_reducible refine Keeps.alloc ?_ _) | (with_reducible refine Keeps.set ?_ (Or.inr (by first | exact Nat.le_refl _ | omega)) _))))).mono ?_; rintro e w2 ⟨rfl, hk2⟩; have HK2 := Lib.hid (Keeps.then_ (a := W1) (by repeat (first | (with_reducible exact Keeps.refl _ _) | (with_reducible exact HK3.out) | (with_reducible exact HK2.out) | (with_reducible refine Keeps.drew ?_) | (with_reducible refine Keeps.alloc ?_ _) | (with_reducible refine Keeps.set ?_ (Or.inr (by first | exact Nat.le_refl _ | omega)) _))) hk2); have hs2 := HK2.out.size; (try ((first | have hx := hk2.blk (blkNew (w := W1) rfl) (fun h => h) | have hx := hk2.blk (blkAlloc (blkNew (w := W1) rfl) _) (fun h => h)); obtain ⟨y0, y1⟩ := cells2 hx; have hlf0 := blkLt hx; have f0 := blkFree hx 0; have f1 := blkFree hx 1; have HX := Lib.hid hx; clear hx)); (try (have hx := hk2.blk (blkNew1 (w := W1)) (fun h => h); obtain ⟨y2, y3⟩ := cells2 hx; have hlf2 := blkLt hx; have f2 := blkFree hx 0; have f3 := blkFree hx 1; have HXb := Lib.hid hx; clear hx)); clear hk2)
      | (go_at_call 55; (with_reducible show Calls _ _ #[_, Value.agg #[Value.int IntKind.i64 d1.op, _, _]] _ _); refine (HC1.out _ (HK1.out.then_ (by repeat (first | (with_reducible exact Keeps.refl _ _) | (with_reducible exact HK3.out) | (with_reducible exact HK2.out) | (with_reducible refine Keeps.drew ?_) | (with_reducible refine Keeps.alloc ?_ _) | (with_reducible refine Keeps.set ?_ (Or.inr (by first | exact Nat.le_refl _ | omega)) _))))).mono ?_; rintro e w3 ⟨rfl, hk3⟩; have HK3 := Lib.hid (Keeps.then_ (a := W1) (by repeat (first | (with_reducible exact Keeps.refl _ _) | (with_reducible exact HK3.out) | (with_reducible exact HK2.out) | (with_reducible refine Keeps.drew ?_) | (with_reducible refine Keeps.alloc ?_ _) | (with_reducible refine Keeps.set ?_ (Or.inr (by first | exact Nat.le_refl _ | omega)) _))) hk3); have hs3 := hk3.size; (try simp at hs3); (try ((first | have hz := hk3.blk HX.out (fun h => h) | have hz := hk3.blk (blkAlloc HX.out _) (fun h => h)); obtain ⟨y4, y5⟩ := cells2 hz; have hlf4 := blkLt hz; have f4 := blkFree hz 0; have f5 := blkFree hz 1; have HZ := Lib.hid hz; clear hz)); (try ((first | have hv := hk3.blk (blkNew (w := w2) rfl) (fun h => h) | have hv := hk3.blk (blkAlloc (blkNew (w := w2) rfl) _) (fun h => h)); obtain ⟨y6, y7⟩ := cells2 hv; have hlf6 := blkLt hv; have f6 := blkFree hv 0; have f7 := blkFree hv 1; have HV := Lib.hid hv; clear hv)); (try ((first | have hu := hk3.blk HXb.out (fun h => h) | have hu := hk3.blk (blkAlloc HXb.out _) (fun h => h) | have hu := hk3.blk (blkNew1 (w := w2)) (fun h => h)); obtain ⟨y8, y9⟩ := cells2 hu; have hlf8 := blkLt hu; have f8 := blkFree hu 0; have f9 := blkFree hu 1; have HU := Lib.hid hu; clear hu)); clear hk3)))
   all_goals
    clear HP HC0 HC1 e0 e1 e2 e3
    go_wp2_with fail
    go_meet
    first
      | exact ⟨_, rfl, blkNew rfl, HK2.out.size, HK2.out.alloc _⟩
      | exact ⟨_, rfl, by simpa using blkSet (blkSet HX.out 0 _) 1 _, Nat.le_refl _, by repeat (first | (with_reducible exact Keeps.refl _ _) | (with_reducible exact HK3.out) | (with_reducible exact HK2.out) | (with_reducible refine Keeps.drew ?_) | (with_reducible refine Keeps.alloc ?_ _) | (with_reducible refine Keeps.set ?_ (Or.inr (by first | exact Nat.le_refl _ | omega)) _))⟩
      | (refine ⟨_, _, rfl, rfl, ?_, ?_, by repeat (first | (with_reducible exact Keeps.refl _ _) | (with_reducible exact HK3.out) | (with_reducible exact HK2.out) | (with_reducible refine Keeps.drew ?_) | (with_reducible refine Keeps.alloc ?_ _) | (with_reducible refine Keeps.set ?_ (Or.inr (by first | exact Nat.le_refl _ | omega)) _))⟩ <;> (repeat' (first | (with_reducible exact HZ.out) | (with_reducible exact HV.out) | (with_reducible exact HU.out) | (with_reducible exact blkNew rfl) | (with_reducible exact blkNewS) | (with_reducible exact blkNew1) | (with_reducible exact setTwo HZ.out) | (with_reducible exact setTwo HV.out) | (with_reducible exact setTwo HU.out) | (with_reducible exact setTwo (setOther HZ.out (by omega))) | (with_reducible exact setTwo (setOther HV.out (by omega))) | (with_reducible exact setTwo (setOther HU.out (by omega))) | (with_reducible refine setOther ?_ ?_) | (with_reducible refine blkAlloc ?_ _) | (show (_ : Nat) ≠ _; omega))))
  case rest =>
   obtain ⟨t, t', rfl, rfl, q1, q2, q3⟩ := hcut
   obtain ⟨z2, z3⟩ := cells2 q2
   obtain ⟨z0, z1⟩ := cells2 q1
   have hb3 := q3.blk HB3.out (fun h => h)
   obtain ⟨y0, y1⟩ := cells2 hb3
   have f0 := blkFree hb3 0
   have f1 := blkFree hb3 1
   have HB4 := Lib.hid hb3
   have HQ := Lib.hid (HK1.out.then_ q3)
   clear hb3 q1 q2 q3 HB3 HK1 HP HC0 HC1
   cases p0a <;> cases p0b
   all_goals
    go_wp2_with fail
    obtain ⟨x0, x1, hkf⟩ := setSt (.bool _) (.bool _) HB4.out HQ.out
    exact bodyPost_ret (v := .agg #[.bool _, .bool _]) (by simp [results, Tryz.results90, go_sem, x0, x1]) rfl ⟨rfl, hkf⟩
end Go.Proofs.YthiclhbnggehoaaGreatDoor
/- module: how a judge judges a quantified concept. -/
namespace Go.Proofs.YthiclhbnggehoaaGreatDoor
open Go.RowKit
set_option linter.unusedVariables false
set_option linter.unusedSimpArgs false
set_option maxRecDepth 100000 in
set_option maxHeartbeats 4000000 in
theorem jquantified_n_calls (b1 b2 g bb oo cap : Nat) (R : List Int) (d0 : Con) (A0 : Option Addr) (k0 : Nat) (p0 : Bool × Bool) (n : Int) (w : World) (hr : MapS w b2 R) (hn : wrap64 (n.tdiv 2) = n / 2) (h0 : ArgAt w bb (oo) d0 A0 k0) (c0 : ∀ w', Keeps (fun _ => False) w w' → Calls Tryz.prog 55 #[.agg #[.iface 141 (.agg #[]), .map (some b1), .map (some b2), .pointer (some ⟨g, 0, none⟩)], .agg #[.int .i64 d0.op, .int .i64 d0.n, .slice A0 d0.args.length k0]] w' (RetSt p0 w')) :
    Calls Tryz.prog 91 #[.agg #[.iface 141 (.agg #[]), .map (some b1), .map (some b2), .pointer (some ⟨g, 0, none⟩)], .agg #[.int .i64 6, .int .i64 n, .slice (some ⟨bb, oo, none⟩) 1 cap]] w (RetSt (if decide (n / 2 ∈ R) then (p0.1, false) else (true, false)) w) := by
  have HC0 := Lib.hid c0
  obtain ⟨p0a, p0b⟩ := p0
  clear c0
  go_enter Tryz.func91, Tryz.ntmps91
  go_upto_region 1 with fail
  generalize hW1 : World.alloc _ _ = W1
  have hK1 : Keeps (fun _ => False) w W1 := by rw [← hW1]; repeat (first | exact Keeps.refl _ _ | refine Keeps.drewN ?_ _ | refine Keeps.drew ?_ | refine Keeps.alloc ?_ _ | refine Keeps.set ?_ (Or.inl (by rfl)) _)
  have hb1 : W1.heap[w.heap.size]? = some (.cells #[.iface 141 (.agg #[]), .map (some b1), .map (some b2), .pointer (some ⟨g, 0, none⟩)] 101 (0, 0)) := by rw [← hW1]; exact blkAlloc (blkAlloc (blkNew rfl) _) _
  have hb2 : W1.heap[w.heap.size + 1]? = some (.cells #[.int .i64 6, .int .i64 n, .slice (some ⟨bb, oo, none⟩) 1 cap] 37 (0, 0)) := by rw [← hW1]; exact blkAlloc (blkNew (by simp)) _
  have hb3 : W1.heap[w.heap.size + 1 + 1]? = some (.cells #[.bool false, .bool false] 112 (0, 0)) := by rw [← hW1]; exact blkNew (by simp)
  clear hW1
  have HP : Hid (∀ w', Keeps (fun _ => False) W1 w' → w'.cell? ⟨w.heap.size, 0, none⟩ = some (.iface 141 (.agg #[])) ∧ w'.cell? ⟨w.heap.size, 1, none⟩ = some (.map (some b1)) ∧ w'.cell? ⟨w.heap.size, 2, none⟩ = some (.map (some b2)) ∧ w'.cell? ⟨w.heap.size, 3, none⟩ = some (.pointer (some ⟨g, 0, none⟩)) ∧ w'.cell? ⟨w.heap.size + 1, 2, none⟩ = some (.slice (some ⟨bb, oo, none⟩) 1 cap) ∧ w'.cell? ⟨bb, oo, none⟩ = some (.int .i64 d0.op) ∧ w'.cell? ⟨bb, oo + 1, none⟩ = some (.int .i64 d0.n) ∧ w'.cell? ⟨bb, oo + 2, none⟩ = some (.slice A0 d0.args.length k0)) := fun w' hk =>
    ⟨(blkCell (hk.blk hb1 (fun h => h)) 0).trans rfl, (blkCell (hk.blk hb1 (fun h => h)) 1).trans rfl, (blkCell (hk.blk hb1 (fun h => h)) 2).trans rfl, (blkCell (hk.blk hb1 (fun h => h)) 3).trans rfl, (blkCell (hk.blk hb2 (fun h => h)) 2).trans rfl, (h0.still (hK1.then_ hk)).1, (h0.still (hK1.then_ hk)).2.1, (h0.still (hK1.then_ hk)).2.2⟩
  have HB3 := Lib.hid hb3
  have HK1 := Lib.hid hK1
  have hb1' := hb1
  have hb2' := hb2
  clear hb1 hb2 hb3 hK1 h0
  go_cut [5] from 5 (fun v5 wc => ∃ t, v5 = .pointer (some ⟨t, 0, none⟩) ∧ wc.heap[t]? = some (.cells #[.bool p0a, .bool p0b] 112 (0, 0)) ∧ W1.heap.size ≤ t ∧ Keeps (fun _ => False) W1 wc)
  case first =>
   go_region_held3 (fun w' => w'.cell? ⟨w.heap.size, 0, none⟩ = some (.iface 141 (.agg #[])) ∧ w'.cell? ⟨w.heap.size, 1, none⟩ = some (.map (some b1)) ∧ w'.cell? ⟨w.heap.size, 2, none⟩ = some (.map (some b2)) ∧ w'.cell? ⟨w.heap.size, 3, none⟩ = some (.pointer (some ⟨g, 0, none⟩)) ∧ w'.cell? ⟨w.heap.size + 1, 2, none⟩ = some (.slice (some ⟨bb, oo, none⟩) 1 cap) ∧ w'.cell? ⟨bb, oo, none⟩ = some (.int .i64 d0.op) ∧ w'.cell? ⟨bb, oo + 1, none⟩ = some (.int .i64 d0.n) ∧ w'.cell? ⟨bb, oo + 2, none⟩ = some (.slice A0 d0.args.length k0))
    (exact HP.out _ (by repeat (first | (with_reducible exact Keeps.refl _ _) | (with_reducible exact HK3.out) | (with_reducible exact HK2.out) | (with_reducible refine Keeps.drew ?_) | (with_reducible refine Keeps.alloc ?_ _) | (with_reducible refine Keeps.set ?_ (Or.inr (by first | exact Nat.le_refl _ | omega)) _))))
    ((first
      | (go_at_call 55; (with_reducible show Calls _ _ #[_, Value.agg #[Value.int IntKind.i64 d0.op, _, _]] _ _); refine (HC0.out _ (HK1.out.then_ (by repeat (first | (with_reducible exact Keeps.refl _ _) | (with_reducible exact HK3.out) | (with_reducible exact HK2.out) | (with_reducible refine Keeps.drew ?_) | (with_reducible refine Keeps.alloc ?_ _) | (with_reducible refine Keeps.set ?_ (Or.inr (by first | exact Nat.le_refl _ | omega)) _))))).mono ?_; rintro e w2 ⟨rfl, hk2⟩; have HK2 := Lib.hid (Keeps.then_ (a := W1) (by repeat (first | (with_reducible exact Keeps.refl _ _) | (with_reducible exact HK3.out) | (with_reducible exact HK2.out) | (with_reducible refine Keeps.drew ?_) | (with_reducible refine Keeps.alloc ?_ _) | (with_reducible refine Keeps.set ?_ (Or.inr (by first | exact Nat.le_refl _ | omega)) _))) hk2); have hs2 := HK2.out.size; (try (have hx := hk2.blk (blkNew (w := W1) rfl) (fun h => h); obtain ⟨y0, y1⟩ := cells2 hx; have hlf0 := blkLt hx; have f0 := blkFree hx 0; have f1 := blkFree hx 1; have HX := Lib.hid hx; clear hx)); clear hk2)))
   all_goals
    clear HP
    go_wp2_with fail
    go_meet
    first
      | exact ⟨_, rfl, blkNew rfl, HK2.out.size, HK2.out.alloc _⟩
      | exact ⟨_, rfl, by simpa using blkSet (blkSet HX.out 0 _) 1 _, Nat.le_refl _, by repeat (first | (with_reducible exact Keeps.refl _ _) | (with_reducible exact HK3.out) | (with_reducible exact HK2.out) | (with_reducible refine Keeps.drew ?_) | (with_reducible refine Keeps.alloc ?_ _) | (with_reducible refine Keeps.set ?_ (Or.inr (by first | exact Nat.le_refl _ | omega)) _))⟩
  case rest =>
   obtain ⟨t, rfl, q1, q2, q3⟩ := hcut
   obtain ⟨z0, z1⟩ := cells2 q1
   have hb3 := q3.blk HB3.out (fun h => h)
   obtain ⟨y0, y1⟩ := cells2 hb3
   have f0 := blkFree hb3 0
   have f1 := blkFree hb3 1
   have HB4 := Lib.hid hb3
   have HQ := Lib.hid (HK1.out.then_ q3)
   obtain ⟨L, c1, c2⟩ := hr
   have HC := Lib.hid (c1.keep (HK1.out.then_ q3) (fun h => h))
   have HLK : Hid (((findL L (wrap64 (n.tdiv 2))).map Value.bool).getD (.bool false) = .bool (decide (n / 2 ∈ R))) := by unfold Hid; rw [hn]; exact c2.look _
   have HBX := Lib.hid (q3.blk hb1' (fun h => h))
   have HCX := Lib.hid (q3.blk hb2' (fun h => h))
   have v0 := (blkCell HBX.out 0).trans (show _ = some _ from rfl)
   have v2 := (blkCell HBX.out 2).trans (show _ = some _ from rfl)
   have v4 := (blkCell HCX.out 1).trans (show _ = some _ from rfl)
   simp only [List.getElem_toArray, List.getElem_cons_succ, List.getElem_cons_zero] at v0 v2 v4
   clear hb3 q1 q2 q3 HB3 HK1 HP HC0 c1 c2 hn hb1' hb2'
   have m1 := m_n_some
   have m2 := a_n_some
   cases hd : decide (n / 2 ∈ R)
   all_goals
    rw [hd] at HLK
    go_wp2_with (first | (at_lookup; refine wp_look rfl _ _ 98 false rfl 4 (keyInt Tryz.underlying3) Tryz.underlying98 b2 L HC.out rfl (.bool false) (zeroBool _) (wrap64 (n.tdiv 2)) rfl ?_; rw [HLK.out]; simp only [Bool.false_eq_true, if_false]) | (go_at_call 160; refine (n_some p0a p0b _).mono ?_; rintro e w5 ⟨rfl, hk5⟩; have HB5 := Lib.hid (hk5.blk HB4.out (fun h => h)); have HQ5 := Lib.hid (HQ.out.then_ hk5); obtain ⟨y2, y3⟩ := cells2 HB5.out; have f2 := blkFree HB5.out 0; have f3 := blkFree HB5.out 1; clear hk5))
    all_goals first
      | (obtain ⟨x0, x1, hkf⟩ := setSt (.bool true) (.bool false) HB5.out HQ5.out; exact bodyPost_ret (v := .agg #[.bool true, .bool false]) (by simp [results, Tryz.results91, go_sem, x0, x1]) rfl ⟨rfl, hkf⟩)
      | (obtain ⟨x0, x1, hkf⟩ := setSt (.bool p0a) (.bool false) HB4.out HQ.out; exact bodyPost_ret (v := .agg #[.bool p0a, .bool false]) (by simp [results, Tryz.results91, go_sem, x0, x1]) rfl ⟨rfl, hkf⟩)
      | fail
set_option maxRecDepth 100000 in
set_option maxHeartbeats 4000000 in
theorem jquantified_e_calls (b1 b2 g bb oo cap : Nat) (R : List Int) (d0 : Con) (A0 : Option Addr) (k0 : Nat) (p0 : Bool × Bool) (n : Int) (w : World) (hr : MapS w b2 R) (hn : wrap64 (n.tdiv 2) = n / 2) (h0 : ArgAt w bb (oo) d0 A0 k0) (c0 : ∀ w', Keeps (fun _ => False) w w' → Calls Tryz.prog 55 #[.agg #[.iface 142 (.agg #[]), .map (some b1), .map (some b2), .pointer (some ⟨g, 0, none⟩)], .agg #[.int .i64 d0.op, .int .i64 d0.n, .slice A0 d0.args.length k0]] w' (RetSt p0 w')) :
    Calls Tryz.prog 91 #[.agg #[.iface 142 (.agg #[]), .map (some b1), .map (some b2), .pointer (some ⟨g, 0, none⟩)], .agg #[.int .i64 6, .int .i64 n, .slice (some ⟨bb, oo, none⟩) 1 cap]] w (RetSt (if decide (n / 2 ∈ R) then (p0.1, false) else (p0.1, p0.2)) w) := by
  have HC0 := Lib.hid c0
  obtain ⟨p0a, p0b⟩ := p0
  clear c0
  go_enter Tryz.func91, Tryz.ntmps91
  go_upto_region 1 with fail
  generalize hW1 : World.alloc _ _ = W1
  have hK1 : Keeps (fun _ => False) w W1 := by rw [← hW1]; repeat (first | exact Keeps.refl _ _ | refine Keeps.drewN ?_ _ | refine Keeps.drew ?_ | refine Keeps.alloc ?_ _ | refine Keeps.set ?_ (Or.inl (by rfl)) _)
  have hb1 : W1.heap[w.heap.size]? = some (.cells #[.iface 142 (.agg #[]), .map (some b1), .map (some b2), .pointer (some ⟨g, 0, none⟩)] 101 (0, 0)) := by rw [← hW1]; exact blkAlloc (blkAlloc (blkNew rfl) _) _
  have hb2 : W1.heap[w.heap.size + 1]? = some (.cells #[.int .i64 6, .int .i64 n, .slice (some ⟨bb, oo, none⟩) 1 cap] 37 (0, 0)) := by rw [← hW1]; exact blkAlloc (blkNew (by simp)) _
  have hb3 : W1.heap[w.heap.size + 1 + 1]? = some (.cells #[.bool false, .bool false] 112 (0, 0)) := by rw [← hW1]; exact blkNew (by simp)
  clear hW1
  have HP : Hid (∀ w', Keeps (fun _ => False) W1 w' → w'.cell? ⟨w.heap.size, 0, none⟩ = some (.iface 142 (.agg #[])) ∧ w'.cell? ⟨w.heap.size, 1, none⟩ = some (.map (some b1)) ∧ w'.cell? ⟨w.heap.size, 2, none⟩ = some (.map (some b2)) ∧ w'.cell? ⟨w.heap.size, 3, none⟩ = some (.pointer (some ⟨g, 0, none⟩)) ∧ w'.cell? ⟨w.heap.size + 1, 2, none⟩ = some (.slice (some ⟨bb, oo, none⟩) 1 cap) ∧ w'.cell? ⟨bb, oo, none⟩ = some (.int .i64 d0.op) ∧ w'.cell? ⟨bb, oo + 1, none⟩ = some (.int .i64 d0.n) ∧ w'.cell? ⟨bb, oo + 2, none⟩ = some (.slice A0 d0.args.length k0)) := fun w' hk =>
    ⟨(blkCell (hk.blk hb1 (fun h => h)) 0).trans rfl, (blkCell (hk.blk hb1 (fun h => h)) 1).trans rfl, (blkCell (hk.blk hb1 (fun h => h)) 2).trans rfl, (blkCell (hk.blk hb1 (fun h => h)) 3).trans rfl, (blkCell (hk.blk hb2 (fun h => h)) 2).trans rfl, (h0.still (hK1.then_ hk)).1, (h0.still (hK1.then_ hk)).2.1, (h0.still (hK1.then_ hk)).2.2⟩
  have HB3 := Lib.hid hb3
  have HK1 := Lib.hid hK1
  have hb1' := hb1
  have hb2' := hb2
  clear hb1 hb2 hb3 hK1 h0
  go_cut [5] from 5 (fun v5 wc => ∃ t, v5 = .pointer (some ⟨t, 0, none⟩) ∧ wc.heap[t]? = some (.cells #[.bool p0a, .bool p0b] 112 (0, 0)) ∧ W1.heap.size ≤ t ∧ Keeps (fun _ => False) W1 wc)
  case first =>
   go_region_held3 (fun w' => w'.cell? ⟨w.heap.size, 0, none⟩ = some (.iface 142 (.agg #[])) ∧ w'.cell? ⟨w.heap.size, 1, none⟩ = some (.map (some b1)) ∧ w'.cell? ⟨w.heap.size, 2, none⟩ = some (.map (some b2)) ∧ w'.cell? ⟨w.heap.size, 3, none⟩ = some (.pointer (some ⟨g, 0, none⟩)) ∧ w'.cell? ⟨w.heap.size + 1, 2, none⟩ = some (.slice (some ⟨bb, oo, none⟩) 1 cap) ∧ w'.cell? ⟨bb, oo, none⟩ = some (.int .i64 d0.op) ∧ w'.cell? ⟨bb, oo + 1, none⟩ = some (.int .i64 d0.n) ∧ w'.cell? ⟨bb, oo + 2, none⟩ = some (.slice A0 d0.args.length k0))
    (exact HP.out _ (by repeat (first | (with_reducible exact Keeps.refl _ _) | (with_reducible exact HK3.out) | (with_reducible exact HK2.out) | (with_reducible refine Keeps.drew ?_) | (with_reducible refine Keeps.alloc ?_ _) | (with_reducible refine Keeps.set ?_ (Or.inr (by first | exact Nat.le_refl _ | omega)) _))))
    ((first
      | (go_at_call 55; (with_reducible show Calls _ _ #[_, Value.agg #[Value.int IntKind.i64 d0.op, _, _]] _ _); refine (HC0.out _ (HK1.out.then_ (by repeat (first | (with_reducible exact Keeps.refl _ _) | (with_reducible exact HK3.out) | (with_reducible exact HK2.out) | (with_reducible refine Keeps.drew ?_) | (with_reducible refine Keeps.alloc ?_ _) | (with_reducible refine Keeps.set ?_ (Or.inr (by first | exact Nat.le_refl _ | omega)) _))))).mono ?_; rintro e w2 ⟨rfl, hk2⟩; have HK2 := Lib.hid (Keeps.then_ (a := W1) (by repeat (first | (with_reducible exact Keeps.refl _ _) | (with_reducible exact HK3.out) | (with_reducible exact HK2.out) | (with_reducible refine Keeps.drew ?_) | (with_reducible refine Keeps.alloc ?_ _) | (with_reducible refine Keeps.set ?_ (Or.inr (by first | exact Nat.le_refl _ | omega)) _))) hk2); have hs2 := HK2.out.size; (try (have hx := hk2.blk (blkNew (w := W1) rfl) (fun h => h); obtain ⟨y0, y1⟩ := cells2 hx; have hlf0 := blkLt hx; have f0 := blkFree hx 0; have f1 := blkFree hx 1; have HX := Lib.hid hx; clear hx)); clear hk2)))
   all_goals
    clear HP
    go_wp2_with fail
    go_meet
    first
      | exact ⟨_, rfl, blkNew rfl, HK2.out.size, HK2.out.alloc _⟩
      | exact ⟨_, rfl, by simpa using blkSet (blkSet HX.out 0 _) 1 _, Nat.le_refl _, by repeat (first | (with_reducible exact Keeps.refl _ _) | (with_reducible exact HK3.out) | (with_reducible exact HK2.out) | (with_reducible refine Keeps.drew ?_) | (with_reducible refine Keeps.alloc ?_ _) | (with_reducible refine Keeps.set ?_ (Or.inr (by first | exact Nat.le_refl _ | omega)) _))⟩
  case rest =>
   obtain ⟨t, rfl, q1, q2, q3⟩ := hcut
   obtain ⟨z0, z1⟩ := cells2 q1
   have hb3 := q3.blk HB3.out (fun h => h)
   obtain ⟨y0, y1⟩ := cells2 hb3
   have f0 := blkFree hb3 0
   have f1 := blkFree hb3 1
   have HB4 := Lib.hid hb3
   have HQ := Lib.hid (HK1.out.then_ q3)
   obtain ⟨L, c1, c2⟩ := hr
   have HC := Lib.hid (c1.keep (HK1.out.then_ q3) (fun h => h))
   have HLK : Hid (((findL L (wrap64 (n.tdiv 2))).map Value.bool).getD (.bool false) = .bool (decide (n / 2 ∈ R))) := by unfold Hid; rw [hn]; exact c2.look _
   have HBX := Lib.hid (q3.blk hb1' (fun h => h))
   have HCX := Lib.hid (q3.blk hb2' (fun h => h))
   have v0 := (blkCell HBX.out 0).trans (show _ = some _ from rfl)
   have v2 := (blkCell HBX.out 2).trans (show _ = some _ from rfl)
   have v4 := (blkCell HCX.out 1).trans (show _ = some _ from rfl)
   simp only [List.getElem_toArray, List.getElem_cons_succ, List.getElem_cons_zero] at v0 v2 v4
   clear hb3 q1 q2 q3 HB3 HK1 HP HC0 c1 c2 hn hb1' hb2'
   have m1 := m_e_some
   have m2 := a_e_some
   cases hd : decide (n / 2 ∈ R)
   all_goals
    rw [hd] at HLK
    go_wp2_with (first | (at_lookup; refine wp_look rfl _ _ 98 false rfl 4 (keyInt Tryz.underlying3) Tryz.underlying98 b2 L HC.out rfl (.bool false) (zeroBool _) (wrap64 (n.tdiv 2)) rfl ?_; rw [HLK.out]; simp only [Bool.false_eq_true, if_false]) | (go_at_call 165; refine (e_some p0a p0b _).mono ?_; rintro e w5 ⟨rfl, hk5⟩; have HB5 := Lib.hid (hk5.blk HB4.out (fun h => h)); have HQ5 := Lib.hid (HQ.out.then_ hk5); obtain ⟨y2, y3⟩ := cells2 HB5.out; have f2 := blkFree HB5.out 0; have f3 := blkFree HB5.out 1; clear hk5))
    all_goals first
      | (obtain ⟨x0, x1, hkf⟩ := setSt (.bool p0a) (.bool p0b) HB5.out HQ5.out; exact bodyPost_ret (v := .agg #[.bool p0a, .bool p0b]) (by simp [results, Tryz.results91, go_sem, x0, x1]) rfl ⟨rfl, hkf⟩)
      | (obtain ⟨x0, x1, hkf⟩ := setSt (.bool p0a) (.bool false) HB4.out HQ.out; exact bodyPost_ret (v := .agg #[.bool p0a, .bool false]) (by simp [results, Tryz.results91, go_sem, x0, x1]) rfl ⟨rfl, hkf⟩)
      | fail
set_option maxRecDepth 100000 in
set_option maxHeartbeats 4000000 in
theorem juniversal_n_calls (b1 b2 g bb oo cap : Nat) (R : List Int) (d0 : Con) (A0 : Option Addr) (k0 : Nat) (p0 : Bool × Bool) (n : Int) (w : World) (hr : MapS w b2 R) (hn : wrap64 (n.tdiv 2) = n / 2) (h0 : ArgAt w bb (oo) d0 A0 k0) (c0 : ∀ w', Keeps (fun _ => False) w w' → Calls Tryz.prog 55 #[.agg #[.iface 141 (.agg #[]), .map (some b1), .map (some b2), .pointer (some ⟨g, 0, none⟩)], .agg #[.int .i64 d0.op, .int .i64 d0.n, .slice A0 d0.args.length k0]] w' (RetSt p0 w')) :
    Calls Tryz.prog 92 #[.agg #[.iface 141 (.agg #[]), .map (some b1), .map (some b2), .pointer (some ⟨g, 0, none⟩)], .agg #[.int .i64 7, .int .i64 n, .slice (some ⟨bb, oo, none⟩) 1 cap]] w (RetSt (if decide (n / 2 ∈ R) then (false, p0.2) else (false, true)) w) := by
  have HC0 := Lib.hid c0
  obtain ⟨p0a, p0b⟩ := p0
  clear c0
  go_enter Tryz.func92, Tryz.ntmps92
  go_upto_region 1 with fail
  generalize hW1 : World.alloc _ _ = W1
  have hK1 : Keeps (fun _ => False) w W1 := by rw [← hW1]; repeat (first | exact Keeps.refl _ _ | refine Keeps.drewN ?_ _ | refine Keeps.drew ?_ | refine Keeps.alloc ?_ _ | refine Keeps.set ?_ (Or.inl (by rfl)) _)
  have hb1 : W1.heap[w.heap.size]? = some (.cells #[.iface 141 (.agg #[]), .map (some b1), .map (some b2), .pointer (some ⟨g, 0, none⟩)] 101 (0, 0)) := by rw [← hW1]; exact blkAlloc (blkAlloc (blkNew rfl) _) _
  have hb2 : W1.heap[w.heap.size + 1]? = some (.cells #[.int .i64 7, .int .i64 n, .slice (some ⟨bb, oo, none⟩) 1 cap] 37 (0, 0)) := by rw [← hW1]; exact blkAlloc (blkNew (by simp)) _
  have hb3 : W1.heap[w.heap.size + 1 + 1]? = some (.cells #[.bool false, .bool false] 112 (0, 0)) := by rw [← hW1]; exact blkNew (by simp)
  clear hW1
  have HP : Hid (∀ w', Keeps (fun _ => False) W1 w' → w'.cell? ⟨w.heap.size, 0, none⟩ = some (.iface 141 (.agg #[])) ∧ w'.cell? ⟨w.heap.size, 1, none⟩ = some (.map (some b1)) ∧ w'.cell? ⟨w.heap.size, 2, none⟩ = some (.map (some b2)) ∧ w'.cell? ⟨w.heap.size, 3, none⟩ = some (.pointer (some ⟨g, 0, none⟩)) ∧ w'.cell? ⟨w.heap.size + 1, 2, none⟩ = some (.slice (some ⟨bb, oo, none⟩) 1 cap) ∧ w'.cell? ⟨bb, oo, none⟩ = some (.int .i64 d0.op) ∧ w'.cell? ⟨bb, oo + 1, none⟩ = some (.int .i64 d0.n) ∧ w'.cell? ⟨bb, oo + 2, none⟩ = some (.slice A0 d0.args.length k0)) := fun w' hk =>
    ⟨(blkCell (hk.blk hb1 (fun h => h)) 0).trans rfl, (blkCell (hk.blk hb1 (fun h => h)) 1).trans rfl, (blkCell (hk.blk hb1 (fun h => h)) 2).trans rfl, (blkCell (hk.blk hb1 (fun h => h)) 3).trans rfl, (blkCell (hk.blk hb2 (fun h => h)) 2).trans rfl, (h0.still (hK1.then_ hk)).1, (h0.still (hK1.then_ hk)).2.1, (h0.still (hK1.then_ hk)).2.2⟩
  have HB3 := Lib.hid hb3
  have HK1 := Lib.hid hK1
  have hb1' := hb1
  have hb2' := hb2
  clear hb1 hb2 hb3 hK1 h0
  go_cut [5] from 5 (fun v5 wc => ∃ t, v5 = .pointer (some ⟨t, 0, none⟩) ∧ wc.heap[t]? = some (.cells #[.bool p0a, .bool p0b] 112 (0, 0)) ∧ W1.heap.size ≤ t ∧ Keeps (fun _ => False) W1 wc)
  case first =>
   go_region_held3 (fun w' => w'.cell? ⟨w.heap.size, 0, none⟩ = some (.iface 141 (.agg #[])) ∧ w'.cell? ⟨w.heap.size, 1, none⟩ = some (.map (some b1)) ∧ w'.cell? ⟨w.heap.size, 2, none⟩ = some (.map (some b2)) ∧ w'.cell? ⟨w.heap.size, 3, none⟩ = some (.pointer (some ⟨g, 0, none⟩)) ∧ w'.cell? ⟨w.heap.size + 1, 2, none⟩ = some (.slice (some ⟨bb, oo, none⟩) 1 cap) ∧ w'.cell? ⟨bb, oo, none⟩ = some (.int .i64 d0.op) ∧ w'.cell? ⟨bb, oo + 1, none⟩ = some (.int .i64 d0.n) ∧ w'.cell? ⟨bb, oo + 2, none⟩ = some (.slice A0 d0.args.length k0))
    (exact HP.out _ (by repeat (first | (with_reducible exact Keeps.refl _ _) | (with_reducible exact HK3.out) | (with_reducible exact HK2.out) | (with_reducible refine Keeps.drew ?_) | (with_reducible refine Keeps.alloc ?_ _) | (with_reducible refine Keeps.set ?_ (Or.inr (by first | exact Nat.le_refl _ | omega)) _))))
    ((first
      | (go_at_call 55; (with_reducible show Calls _ _ #[_, Value.agg #[Value.int IntKind.i64 d0.op, _, _]] _ _); refine (HC0.out _ (HK1.out.then_ (by repeat (first | (with_reducible exact Keeps.refl _ _) | (with_reducible exact HK3.out) | (with_reducible exact HK2.out) | (with_reducible refine Keeps.drew ?_) | (with_reducible refine Keeps.alloc ?_ _) | (with_reducible refine Keeps.set ?_ (Or.inr (by first | exact Nat.le_refl _ | omega)) _))))).mono ?_; rintro e w2 ⟨rfl, hk2⟩; have HK2 := Lib.hid (Keeps.then_ (a := W1) (by repeat (first | (with_reducible exact Keeps.refl _ _) | (with_reducible exact HK3.out) | (with_reducible exact HK2.out) | (with_reducible refine Keeps.drew ?_) | (with_reducible refine Keeps.alloc ?_ _) | (with_reducible refine Keeps.set ?_ (Or.inr (by first | exact Nat.le_refl _ | omega)) _))) hk2); have hs2 := HK2.out.size; (try (have hx := hk2.blk (blkNew (w := W1) rfl) (fun h => h); obtain ⟨y0, y1⟩ := cells2 hx; have hlf0 := blkLt hx; have f0 := blkFree hx 0; have f1 := blkFree hx 1; have HX := Lib.hid hx; clear hx)); clear hk2)))
   all_goals
    clear HP
    go_wp2_with fail
    go_meet
    first
      | exact ⟨_, rfl, blkNew rfl, HK2.out.size, HK2.out.alloc _⟩
      | exact ⟨_, rfl, by simpa using blkSet (blkSet HX.out 0 _) 1 _, Nat.le_refl _, by repeat (first | (with_reducible exact Keeps.refl _ _) | (with_reducible exact HK3.out) | (with_reducible exact HK2.out) | (with_reducible refine Keeps.drew ?_) | (with_reducible refine Keeps.alloc ?_ _) | (with_reducible refine Keeps.set ?_ (Or.inr (by first | exact Nat.le_refl _ | omega)) _))⟩
  case rest =>
   obtain ⟨t, rfl, q1, q2, q3⟩ := hcut
   obtain ⟨z0, z1⟩ := cells2 q1
   have hb3 := q3.blk HB3.out (fun h => h)
   obtain ⟨y0, y1⟩ := cells2 hb3
   have f0 := blkFree hb3 0
   have f1 := blkFree hb3 1
   have HB4 := Lib.hid hb3
   have HQ := Lib.hid (HK1.out.then_ q3)
   obtain ⟨L, c1, c2⟩ := hr
   have HC := Lib.hid (c1.keep (HK1.out.then_ q3) (fun h => h))
   have HLK : Hid (((findL L (wrap64 (n.tdiv 2))).map Value.bool).getD (.bool false) = .bool (decide (n / 2 ∈ R))) := by unfold Hid; rw [hn]; exact c2.look _
   have HBX := Lib.hid (q3.blk hb1' (fun h => h))
   have HCX := Lib.hid (q3.blk hb2' (fun h => h))
   have v0 := (blkCell HBX.out 0).trans (show _ = some _ from rfl)
   have v2 := (blkCell HBX.out 2).trans (show _ = some _ from rfl)
   have v4 := (blkCell HCX.out 1).trans (show _ = some _ from rfl)
   simp only [List.getElem_toArray, List.getElem_cons_succ, List.getElem_cons_zero] at v0 v2 v4
   clear hb3 q1 q2 q3 HB3 HK1 HP HC0 c1 c2 hn hb1' hb2'
   have m1 := m_n_all
   have m2 := a_n_all
   cases hd : decide (n / 2 ∈ R)
   all_goals
    rw [hd] at HLK
    go_wp2_with (first | (at_lookup; refine wp_look rfl _ _ 98 false rfl 4 (keyInt Tryz.underlying3) Tryz.underlying98 b2 L HC.out rfl (.bool false) (zeroBool _) (wrap64 (n.tdiv 2)) rfl ?_; rw [HLK.out]; simp only [Bool.false_eq_true, if_false]) | (go_at_call 156; refine (n_all p0a p0b _).mono ?_; rintro e w5 ⟨rfl, hk5⟩; have HB5 := Lib.hid (hk5.blk HB4.out (fun h => h)); have HQ5 := Lib.hid (HQ.out.then_ hk5); obtain ⟨y2, y3⟩ := cells2 HB5.out; have f2 := blkFree HB5.out 0; have f3 := blkFree HB5.out 1; clear hk5))
    all_goals first
      | (obtain ⟨x0, x1, hkf⟩ := setSt (.bool false) (.bool true) HB5.out HQ5.out; exact bodyPost_ret (v := .agg #[.bool false, .bool true]) (by simp [results, Tryz.results92, go_sem, x0, x1]) rfl ⟨rfl, hkf⟩)
      | (obtain ⟨x0, x1, hkf⟩ := setSt (.bool false) (.bool p0b) HB4.out HQ.out; exact bodyPost_ret (v := .agg #[.bool false, .bool p0b]) (by simp [results, Tryz.results92, go_sem, x0, x1]) rfl ⟨rfl, hkf⟩)
      | fail
set_option maxRecDepth 100000 in
set_option maxHeartbeats 4000000 in
theorem juniversal_e_calls (b1 b2 g bb oo cap : Nat) (R : List Int) (d0 : Con) (A0 : Option Addr) (k0 : Nat) (p0 : Bool × Bool) (n : Int) (w : World) (hr : MapS w b2 R) (hn : wrap64 (n.tdiv 2) = n / 2) (h0 : ArgAt w bb (oo) d0 A0 k0) (c0 : ∀ w', Keeps (fun _ => False) w w' → Calls Tryz.prog 55 #[.agg #[.iface 142 (.agg #[]), .map (some b1), .map (some b2), .pointer (some ⟨g, 0, none⟩)], .agg #[.int .i64 d0.op, .int .i64 d0.n, .slice A0 d0.args.length k0]] w' (RetSt p0 w')) :
    Calls Tryz.prog 92 #[.agg #[.iface 142 (.agg #[]), .map (some b1), .map (some b2), .pointer (some ⟨g, 0, none⟩)], .agg #[.int .i64 7, .int .i64 n, .slice (some ⟨bb, oo, none⟩) 1 cap]] w (RetSt (if decide (n / 2 ∈ R) then (false, p0.2) else (p0.1, p0.2)) w) := by
  have HC0 := Lib.hid c0
  obtain ⟨p0a, p0b⟩ := p0
  clear c0
  go_enter Tryz.func92, Tryz.ntmps92
  go_upto_region 1 with fail
  generalize hW1 : World.alloc _ _ = W1
  have hK1 : Keeps (fun _ => False) w W1 := by rw [← hW1]; repeat (first | exact Keeps.refl _ _ | refine Keeps.drewN ?_ _ | refine Keeps.drew ?_ | refine Keeps.alloc ?_ _ | refine Keeps.set ?_ (Or.inl (by rfl)) _)
  have hb1 : W1.heap[w.heap.size]? = some (.cells #[.iface 142 (.agg #[]), .map (some b1), .map (some b2), .pointer (some ⟨g, 0, none⟩)] 101 (0, 0)) := by rw [← hW1]; exact blkAlloc (blkAlloc (blkNew rfl) _) _
  have hb2 : W1.heap[w.heap.size + 1]? = some (.cells #[.int .i64 7, .int .i64 n, .slice (some ⟨bb, oo, none⟩) 1 cap] 37 (0, 0)) := by rw [← hW1]; exact blkAlloc (blkNew (by simp)) _
  have hb3 : W1.heap[w.heap.size + 1 + 1]? = some (.cells #[.bool false, .bool false] 112 (0, 0)) := by rw [← hW1]; exact blkNew (by simp)
  clear hW1
  have HP : Hid (∀ w', Keeps (fun _ => False) W1 w' → w'.cell? ⟨w.heap.size, 0, none⟩ = some (.iface 142 (.agg #[])) ∧ w'.cell? ⟨w.heap.size, 1, none⟩ = some (.map (some b1)) ∧ w'.cell? ⟨w.heap.size, 2, none⟩ = some (.map (some b2)) ∧ w'.cell? ⟨w.heap.size, 3, none⟩ = some (.pointer (some ⟨g, 0, none⟩)) ∧ w'.cell? ⟨w.heap.size + 1, 2, none⟩ = some (.slice (some ⟨bb, oo, none⟩) 1 cap) ∧ w'.cell? ⟨bb, oo, none⟩ = some (.int .i64 d0.op) ∧ w'.cell? ⟨bb, oo + 1, none⟩ = some (.int .i64 d0.n) ∧ w'.cell? ⟨bb, oo + 2, none⟩ = some (.slice A0 d0.args.length k0)) := fun w' hk =>
    ⟨(blkCell (hk.blk hb1 (fun h => h)) 0).trans rfl, (blkCell (hk.blk hb1 (fun h => h)) 1).trans rfl, (blkCell (hk.blk hb1 (fun h => h)) 2).trans rfl, (blkCell (hk.blk hb1 (fun h => h)) 3).trans rfl, (blkCell (hk.blk hb2 (fun h => h)) 2).trans rfl, (h0.still (hK1.then_ hk)).1, (h0.still (hK1.then_ hk)).2.1, (h0.still (hK1.then_ hk)).2.2⟩
  have HB3 := Lib.hid hb3
  have HK1 := Lib.hid hK1
  have hb1' := hb1
  have hb2' := hb2
  clear hb1 hb2 hb3 hK1 h0
  go_cut [5] from 5 (fun v5 wc => ∃ t, v5 = .pointer (some ⟨t, 0, none⟩) ∧ wc.heap[t]? = some (.cells #[.bool p0a, .bool p0b] 112 (0, 0)) ∧ W1.heap.size ≤ t ∧ Keeps (fun _ => False) W1 wc)
  case first =>
   go_region_held3 (fun w' => w'.cell? ⟨w.heap.size, 0, none⟩ = some (.iface 142 (.agg #[])) ∧ w'.cell? ⟨w.heap.size, 1, none⟩ = some (.map (some b1)) ∧ w'.cell? ⟨w.heap.size, 2, none⟩ = some (.map (some b2)) ∧ w'.cell? ⟨w.heap.size, 3, none⟩ = some (.pointer (some ⟨g, 0, none⟩)) ∧ w'.cell? ⟨w.heap.size + 1, 2, none⟩ = some (.slice (some ⟨bb, oo, none⟩) 1 cap) ∧ w'.cell? ⟨bb, oo, none⟩ = some (.int .i64 d0.op) ∧ w'.cell? ⟨bb, oo + 1, none⟩ = some (.int .i64 d0.n) ∧ w'.cell? ⟨bb, oo + 2, none⟩ = some (.slice A0 d0.args.length k0))
    (exact HP.out _ (by repeat (first | (with_reducible exact Keeps.refl _ _) | (with_reducible exact HK3.out) | (with_reducible exact HK2.out) | (with_reducible refine Keeps.drew ?_) | (with_reducible refine Keeps.alloc ?_ _) | (with_reducible refine Keeps.set ?_ (Or.inr (by first | exact Nat.le_refl _ | omega)) _))))
    ((first
      | (go_at_call 55; (with_reducible show Calls _ _ #[_, Value.agg #[Value.int IntKind.i64 d0.op, _, _]] _ _); refine (HC0.out _ (HK1.out.then_ (by repeat (first | (with_reducible exact Keeps.refl _ _) | (with_reducible exact HK3.out) | (with_reducible exact HK2.out) | (with_reducible refine Keeps.drew ?_) | (with_reducible refine Keeps.alloc ?_ _) | (with_reducible refine Keeps.set ?_ (Or.inr (by first | exact Nat.le_refl _ | omega)) _))))).mono ?_; rintro e w2 ⟨rfl, hk2⟩; have HK2 := Lib.hid (Keeps.then_ (a := W1) (by repeat (first | (with_reducible exact Keeps.refl _ _) | (with_reducible exact HK3.out) | (with_reducible exact HK2.out) | (with_reducible refine Keeps.drew ?_) | (with_reducible refine Keeps.alloc ?_ _) | (with_reducible refine Keeps.set ?_ (Or.inr (by first | exact Nat.le_refl _ | omega)) _))) hk2); have hs2 := HK2.out.size; (try (have hx := hk2.blk (blkNew (w := W1) rfl) (fun h => h); obtain ⟨y0, y1⟩ := cells2 hx; have hlf0 := blkLt hx; have f0 := blkFree hx 0; have f1 := blkFree hx 1; have HX := Lib.hid hx; clear hx)); clear hk2)))
   all_goals
    clear HP
    go_wp2_with fail
    go_meet
    first
      | exact ⟨_, rfl, blkNew rfl, HK2.out.size, HK2.out.alloc _⟩
      | exact ⟨_, rfl, by simpa using blkSet (blkSet HX.out 0 _) 1 _, Nat.le_refl _, by repeat (first | (with_reducible exact Keeps.refl _ _) | (with_reducible exact HK3.out) | (with_reducible exact HK2.out) | (with_reducible refine Keeps.drew ?_) | (with_reducible refine Keeps.alloc ?_ _) | (with_reducible refine Keeps.set ?_ (Or.inr (by first | exact Nat.le_refl _ | omega)) _))⟩
  case rest =>
   obtain ⟨t, rfl, q1, q2, q3⟩ := hcut
   obtain ⟨z0, z1⟩ := cells2 q1
   have hb3 := q3.blk HB3.out (fun h => h)
   obtain ⟨y0, y1⟩ := cells2 hb3
   have f0 := blkFree hb3 0
   have f1 := blkFree hb3 1
   have HB4 := Lib.hid hb3
   have HQ := Lib.hid (HK1.out.then_ q3)
   obtain ⟨L, c1, c2⟩ := hr
   have HC := Lib.hid (c1.keep (HK1.out.then_ q3) (fun h => h))
   have HLK : Hid (((findL L (wrap64 (n.tdiv 2))).map Value.bool).getD (.bool false) = .bool (decide (n / 2 ∈ R))) := by unfold Hid; rw [hn]; exact c2.look _
   have HBX := Lib.hid (q3.blk hb1' (fun h => h))
   have HCX := Lib.hid (q3.blk hb2' (fun h => h))
   have v0 := (blkCell HBX.out 0).trans (show _ = some _ from rfl)
   have v2 := (blkCell HBX.out 2).trans (show _ = some _ from rfl)
   have v4 := (blkCell HCX.out 1).trans (show _ = some _ from rfl)
   simp only [List.getElem_toArray, List.getElem_cons_succ, List.getElem_cons_zero] at v0 v2 v4
   clear hb3 q1 q2 q3 HB3 HK1 HP HC0 c1 c2 hn hb1' hb2'
   have m1 := m_e_all
   have m2 := a_e_all
   cases hd : decide (n / 2 ∈ R)
   all_goals
    rw [hd] at HLK
    go_wp2_with (first | (at_lookup; refine wp_look rfl _ _ 98 false rfl 4 (keyInt Tryz.underlying3) Tryz.underlying98 b2 L HC.out rfl (.bool false) (zeroBool _) (wrap64 (n.tdiv 2)) rfl ?_; rw [HLK.out]; simp only [Bool.false_eq_true, if_false]) | (go_at_call 161; refine (e_all p0a p0b _).mono ?_; rintro e w5 ⟨rfl, hk5⟩; have HB5 := Lib.hid (hk5.blk HB4.out (fun h => h)); have HQ5 := Lib.hid (HQ.out.then_ hk5); obtain ⟨y2, y3⟩ := cells2 HB5.out; have f2 := blkFree HB5.out 0; have f3 := blkFree HB5.out 1; clear hk5))
    all_goals first
      | (obtain ⟨x0, x1, hkf⟩ := setSt (.bool p0a) (.bool p0b) HB5.out HQ5.out; exact bodyPost_ret (v := .agg #[.bool p0a, .bool p0b]) (by simp [results, Tryz.results92, go_sem, x0, x1]) rfl ⟨rfl, hkf⟩)
      | (obtain ⟨x0, x1, hkf⟩ := setSt (.bool false) (.bool p0b) HB4.out HQ.out; exact bodyPost_ret (v := .agg #[.bool false, .bool p0b]) (by simp [results, Tryz.results92, go_sem, x0, x1]) rfl ⟨rfl, hkf⟩)
      | fail
end Go.Proofs.YthiclhbnggehoaaGreatDoor
/- module: top and bot, as a judge judges them; then what a judge makes of any concept. -/
namespace Go.Proofs.YthiclhbnggehoaaGreatDoor
open Go.RowKit
set_option linter.unusedVariables false
set_option linter.unusedSimpArgs false
set_option maxRecDepth 100000 in
set_option maxHeartbeats 4000000 in
theorem jtop_calls (o : Value) (b1 b2 g : Nat) (op n : Int) (A : Option Addr) (l cap : Nat) (w : World) :
    Calls Tryz.prog 86 #[.agg #[o, .map (some b1), .map (some b2), .pointer (some ⟨g, 0, none⟩)], .agg #[.int .i64 op, .int .i64 n, .slice A l cap]] w (RetSt (false, true) w) := by
  go_enter Tryz.func86, Tryz.ntmps86
  go_wp2_with fail
  generalize hW0 : World.alloc _ _ = W0
  have hK0 : Keeps (fun _ => False) w W0 := by rw [← hW0]; repeat (first | exact Keeps.refl _ _ | refine Keeps.drewN ?_ _ | refine Keeps.drew ?_ | refine Keeps.alloc ?_ _ | refine Keeps.set ?_ (Or.inl (by rfl)) _)
  have hb0 : W0.heap[w.heap.size + 1 + 1]? = some (.cells #[.bool false, .bool true] 112 (0, 0)) := by rw [← hW0]; exact blkNew (by simp)
  clear hW0
  obtain ⟨x0, x1⟩ := cells2 hb0
  exact bodyPost_ret (v := .agg #[.bool false, .bool true]) (by simp [results, Tryz.results86, go_sem, x0, x1]) rfl ⟨rfl, hK0⟩
set_option maxRecDepth 100000 in
set_option maxHeartbeats 4000000 in
theorem jbot_calls (o : Value) (b1 b2 g : Nat) (op n : Int) (A : Option Addr) (l cap : Nat) (w : World) :
    Calls Tryz.prog 87 #[.agg #[o, .map (some b1), .map (some b2), .pointer (some ⟨g, 0, none⟩)], .agg #[.int .i64 op, .int .i64 n, .slice A l cap]] w (RetSt (true, false) w) := by
  go_enter Tryz.func87, Tryz.ntmps87
  go_wp2_with fail
  generalize hW0 : World.alloc _ _ = W0
  have hK0 : Keeps (fun _ => False) w W0 := by rw [← hW0]; repeat (first | exact Keeps.refl _ _ | refine Keeps.drewN ?_ _ | refine Keeps.drew ?_ | refine Keeps.alloc ?_ _ | refine Keeps.set ?_ (Or.inl (by rfl)) _)
  have hb0 : W0.heap[w.heap.size + 1 + 1]? = some (.cells #[.bool true, .bool false] 112 (0, 0)) := by rw [← hW0]; exact blkNew (by simp)
  clear hW0
  obtain ⟨x0, x1⟩ := cells2 hb0
  exact bodyPost_ret (v := .agg #[.bool true, .bool false]) (by simp [results, Tryz.results87, go_sem, x0, x1]) rfl ⟨rfl, hK0⟩
abbrev conV (c : Con) (A : Option Addr) (cap : Nat) : Value := .agg #[.int .i64 c.op, .int .i64 c.n, .slice A c.args.length cap]
set_option maxRecDepth 100000 in
set_option maxHeartbeats 4000000 in
theorem jofStep (o : Value) (c : Con) (A : Option Addr) (cap b1 b2 g k m : Nat) (p : Bool × Bool) (w : World) (eg : ∀ args w, (callFunc m args).run Tryz.prog w = .ok (.enter m args) w)
    (ht : w.heap[g]? = some (.cells howT 143 (0, 0))) (hm : howT[k]? = some (.func (.func m) #[] #[])) (hop : c.op = (k : Int)) (h8 : (k : Int) < 8)
    (hcall : ∀ w', Keeps (fun _ => False) w w' → Calls Tryz.prog m #[.agg #[o, .map (some b1), .map (some b2), .pointer (some ⟨g, 0, none⟩)], conV c A cap] w' (RetSt p w')) :
    Calls Tryz.prog 55 #[.agg #[o, .map (some b1), .map (some b2), .pointer (some ⟨g, 0, none⟩)], conV c A cap] w (RetSt p w) := by
  have HC := Lib.hid hcall
  have HT := Lib.hid ht
  have hgl := blkLt ht
  have hk0 : (0 : Int) ≤ (k : Int) := by omega
  obtain ⟨op, n, args⟩ := c
  simp only [Con.op] at hop
  subst hop
  simp only [conV, Con.op, Con.n, Con.args] at HC ⊢
  have HM := Lib.hid hm
  clear hcall ht hm
  go_enter Tryz.func55, Tryz.ntmps55
  go_wp2_with fail
  generalize hW0 : World.alloc _ _ = W0
  have hK0 : Keeps (fun _ => False) w W0 := by rw [← hW0]; repeat (first | exact Keeps.refl _ _ | refine Keeps.drewN ?_ _ | refine Keeps.drew ?_ | refine Keeps.alloc ?_ _ | refine Keeps.set ?_ (Or.inl (by rfl)) _)
  have hb0 : W0.heap[w.heap.size]? = some (.cells #[o, .map (some b1), .map (some b2), .pointer (some ⟨g, 0, none⟩)] 101 (0, 0)) := by rw [← hW0]; exact blkAlloc (blkAlloc (blkNew rfl) _) _
  have hb1 : W0.heap[w.heap.size + 1]? = some (.cells #[.int .i64 k, .int .i64 n, .slice A args.length cap] 37 (0, 0)) := by rw [← hW0]; exact blkAlloc (blkNew (by simp)) _
  have hb2 : W0.heap[w.heap.size + 1 + 1]? = some (.cells #[.bool false, .bool false] 112 (0, 0)) := by rw [← hW0]; exact blkNew (by simp)
  clear hW0
  have hbg := hK0.blk HT.out (fun h => h)
  have HK0 := Lib.hid hK0
  have HB0 := Lib.hid hb0
  have HB1 := Lib.hid hb1
  have HB2 := Lib.hid hb2
  have HG := Lib.hid hbg
  have hH : ∀ w', Keeps (fun i => i = w.heap.size + 1 + 1) W0 w' → w'.cell? ⟨w.heap.size, 0, none⟩ = some o ∧ w'.cell? ⟨w.heap.size, 1, none⟩ = some (.map (some b1)) ∧ w'.cell? ⟨w.heap.size, 2, none⟩ = some (.map (some b2)) ∧ w'.cell? ⟨w.heap.size, 3, none⟩ = some (.pointer (some ⟨g, 0, none⟩)) ∧
      w'.cell? ⟨w.heap.size + 1, 0, none⟩ = some (.int .i64 k) ∧ w'.cell? ⟨w.heap.size + 1, 1, none⟩ = some (.int .i64 n) ∧ w'.cell? ⟨w.heap.size + 1, 2, none⟩ = some (.slice A args.length cap) ∧ w'.cell? ⟨g, k, none⟩ = some (.func (.func m) #[] #[]) := by
    intro w' hk
    obtain ⟨x0, x1, x2, x3⟩ := cells4 (hk.blk HB0.out (by omega))
    obtain ⟨y0, y1, y2⟩ := cells3 (hk.blk HB1.out (by omega))
    exact ⟨x0, x1, x2, x3, y0, y1, y2, (blkCell (hk.blk HG.out (by omega)) k).trans HM.out⟩
  have HH := Lib.hid hH
  clear hK0 hb0 hb1 hb2 hbg hH
  go_region_held3 (fun w' => w'.cell? ⟨w.heap.size, 0, none⟩ = some o ∧ w'.cell? ⟨w.heap.size, 1, none⟩ = some (.map (some b1)) ∧ w'.cell? ⟨w.heap.size, 2, none⟩ = some (.map (some b2)) ∧ w'.cell? ⟨w.heap.size, 3, none⟩ = some (.pointer (some ⟨g, 0, none⟩)) ∧
      w'.cell? ⟨w.heap.size + 1, 0, none⟩ = some (.int .i64 k) ∧ w'.cell? ⟨w.heap.size + 1, 1, none⟩ = some (.int .i64 n) ∧ w'.cell? ⟨w.heap.size + 1, 2, none⟩ = some (.slice A args.length cap) ∧ w'.cell? ⟨g, k, none⟩ = some (.func (.func m) #[] #[]))
    (first | exact HH.out _ (Keeps.refl _ _) | exact HH.out _ (Keeps.refl _ _).drew | exact HH.out _ HK2.out.undrew.of0 | exact HH.out _ ((HK2.out.undrew.of0.set (g := w.heap.size + 1 + 1) (Or.inl (by rfl)) _).set (g := w.heap.size + 1 + 1) (Or.inl (by rfl)) _))
    ((go_at_fn m; refine (HC.out _ (HK0.out.drew)).mono ?_; rintro e w2 ⟨rfl, hk2⟩; obtain ⟨q0, q1⟩ := cells2 (hk2.blk HB2.out (fun h => h)); have qf0 := blkFree (hk2.blk HB2.out (fun h => h)) 0; have qf1 := blkFree (hk2.blk HB2.out (fun h => h)) 1; have HQ := Lib.hid (hk2.blk HB2.out (fun h => h)); have HK2 := Lib.hid hk2; clear hk2))
  all_goals
    obtain ⟨x0, x1, x2⟩ := setSt (w := w) (.bool p.1) (.bool p.2) HQ.out (HK0.out.drew.then_ HK2.out)
    go_wp2_with fail
    exact bodyPost_ret (v := .agg #[.bool p.1, .bool p.2]) (by simp [results, Tryz.results55, go_sem, x0, x1]) rfl ⟨rfl, x2⟩
theorem shapeML_len (top : Bool) (C R : Int → Bool) : ∀ l : List Con, (shapeML top C R l).length = l.length
  | [] => rfl
  | c :: r => by simp only [shapeML, List.length_cons, shapeML_len top C R r]
theorem argAt_of {ok : Nat → Prop} {w : World} {l : List Con} {b o : Nat} (h : ConsR ok w l b o) (i : Nat) (hi : i < l.length) : ∃ A k, ArgAt w b (o + i * 3) l[i] A k ∧ ConR ok w l[i] [.int .i64 l[i].op, .int .i64 l[i].n, .slice A l[i].args.length k] := by
  obtain ⟨A, k, e0, e1, e2, hc⟩ := h.at_ i hi
  exact ⟨A, k, ⟨e0, e1, e2⟩, hc⟩
theorem shapeM0 (top : Bool) (C R : Int → Bool) (n : Int) (l : List Con) : shapeM top C R ⟨0, n, l⟩ = if C n then (false, false) else (!top, top) := by simp [shapeM, shapeOp]
theorem shapeM1 (top : Bool) (C R : Int → Bool) (n : Int) (l : List Con) : shapeM top C R ⟨1, n, l⟩ = (false, true) := by simp [shapeM, shapeOp]
theorem shapeM2 (top : Bool) (C R : Int → Bool) (n : Int) (l : List Con) : shapeM top C R ⟨2, n, l⟩ = (true, false) := by simp [shapeM, shapeOp]
theorem shapeM3 (top : Bool) (C R : Int → Bool) (n : Int) (d : Con) : shapeM top C R ⟨3, n, [d]⟩ = ((shapeM top C R d).2, (shapeM top C R d).1) := by rw [shapeM]; simp [shapeML, shapeOp]
theorem shapeM4 (top : Bool) (C R : Int → Bool) (n : Int) (d e : Con) : shapeM top C R ⟨4, n, [d, e]⟩ = ((shapeM top C R d).1 || (shapeM top C R e).1, (shapeM top C R d).2 && (shapeM top C R e).2) := by rw [shapeM]; simp [shapeML, shapeOp]
theorem shapeM5 (top : Bool) (C R : Int → Bool) (n : Int) (d e : Con) : shapeM top C R ⟨5, n, [d, e]⟩ = ((shapeM top C R d).1 && (shapeM top C R e).1, (shapeM top C R d).2 || (shapeM top C R e).2) := by rw [shapeM]; simp [shapeML, shapeOp]
theorem shapeM6 (top : Bool) (C R : Int → Bool) (n : Int) (d : Con) : shapeM top C R ⟨6, n, [d]⟩ = if R (n / 2) then ((shapeM top C R d).1, false) else if top then ((shapeM top C R d).1, (shapeM top C R d).2) else (true, false) := by rw [shapeM]; simp [shapeML, shapeOp]
theorem shapeM7 (top : Bool) (C R : Int → Bool) (n : Int) (d : Con) : shapeM top C R ⟨7, n, [d]⟩ = if R (n / 2) then (false, (shapeM top C R d).2) else if top then ((shapeM top C R d).1, (shapeM top C R d).2) else (false, true) := by rw [shapeM]; simp [shapeML, shapeOp]
theorem half_z {n : Int} (h0 : 0 ≤ n) (h1 : n ≤ 1000000000) : wrap64 (n.tdiv 2) = n / 2 := by
  have e : n.tdiv 2 = n / 2 := by rw [Int.tdiv_eq_ediv_of_nonneg h0]
  rw [e]; unfold wrap64; omega
theorem node_bounds {nc nr : Nat} {op n : Int} (h : nodeOk nc nr op n = true) (hr : nr ≤ 100000) (hq : op = 6 ∨ op = 7) : 0 ≤ n ∧ n ≤ 1000000000 := by
  unfold nodeOk at h; rcases hq with rfl | rfl <;> simp at h <;> omega
set_option maxRecDepth 100000 in
set_option maxHeartbeats 4000000 in
theorem jof_calls (top : Bool) (C R : List Int) (nc nr : Nat) (hnr : nr ≤ 100000) (N : Nat) : ∀ (c : Con) (A : Option Addr) (cap b1 b2 g : Nat) (ok : Nat → Prop) (w : World), c.size < N → fitC nc nr c = true → ConR ok w c [.int .i64 c.op, .int .i64 c.n, .slice A c.args.length cap] → JudgeR w C R b1 b2 g →
    Calls Tryz.prog 55 #[JV top b1 b2 g, conV c A cap] w (RetSt (shapeM top (inL C) (inL R) c) w) := by
  induction N with
  | zero => intro c A cap b1 b2 g ok w h; omega
  | succ N ih =>
  intro c A cap b1 b2 g ok w hN hf hc hj
  obtain ⟨op, n, args⟩ := c
  obtain ⟨⟨p0, p1⟩, har, hno, hfl⟩ := fit_parts hf
  have IHA : ∀ (bb oo : Nat) (i : Nat) (hi : i < args.length) (A0 : Option Addr) (k0 : Nat), ConR ok w args[i] [.int .i64 args[i].op, .int .i64 args[i].n, .slice A0 args[i].args.length k0] → ∀ w', Keeps (fun _ => False) w w' → Calls Tryz.prog 55 #[JV top b1 b2 g, conV args[i] A0 k0] w' (RetSt (shapeM top (inL C) (inL R) args[i]) w') :=
    fun bb oo i hi A0 k0 h w' hk => ih args[i] A0 k0 b1 b2 g ok w' (by have := Con.size_at i hi; simp only [Con.size] at hN; omega) (fitL_at hfl i hi) (h.keep hk (fun _ _ h => h)) (hj.still hk)
  have hcc := conArgs hc
  show Calls Tryz.prog 55 #[.agg #[outV top, .map (some b1), .map (some b2), .pointer (some ⟨g, 0, none⟩)], conV ⟨op, n, args⟩ A cap] w _
  have hcases : op = 0 ∨ op = 1 ∨ op = 2 ∨ op = 3 ∨ op = 4 ∨ op = 5 ∨ op = 6 ∨ op = 7 := by omega
  have un : ∀ (h1 : args.length = 1), ∃ d A0 k0 bb oo, args = [d] ∧ A = some ⟨bb, oo, none⟩ ∧ ArgAt w bb oo d A0 k0 ∧ ∀ w', Keeps (fun _ => False) w w' → Calls Tryz.prog 55 #[JV top b1 b2 g, conV d A0 k0] w' (RetSt (shapeM top (inL C) (inL R) d) w') := by
    intro h1
    obtain ⟨d, rfl⟩ := List.length_eq_one_iff.1 h1
    obtain ⟨bb, oo, rfl, hb, hr⟩ := hcc (by simp)
    obtain ⟨A0, k0, ha, hcd⟩ := argAt_of hr 0 (by simp)
    exact ⟨d, A0, k0, bb, oo, rfl, rfl, by simpa using ha, IHA bb oo 0 (by simp) A0 k0 hcd⟩
  have bin : ∀ (h1 : args.length = 2), ∃ d e A0 k0 A1 k1 bb oo, args = [d, e] ∧ A = some ⟨bb, oo, none⟩ ∧ ArgAt w bb oo d A0 k0 ∧ ArgAt w bb (oo + 3) e A1 k1 ∧ (∀ w', Keeps (fun _ => False) w w' → Calls Tryz.prog 55 #[JV top b1 b2 g, conV d A0 k0] w' (RetSt (shapeM top (inL C) (inL R) d) w')) ∧
      ∀ w', Keeps (fun _ => False) w w' → Calls Tryz.prog 55 #[JV top b1 b2 g, conV e A1 k1] w' (RetSt (shapeM top (inL C) (inL R) e) w') := by
    intro h1
    obtain ⟨d, e, rfl⟩ : ∃ d e, args = [d, e] := by match args, h1 with | [d, e], _ => exact ⟨d, e, rfl⟩
    obtain ⟨bb, oo, rfl, hb, hr⟩ := hcc (by simp)
    obtain ⟨A0, k0, ha, hcd⟩ := argAt_of hr 0 (by simp)
    obtain ⟨A1, k1, ha1, hcd1⟩ := argAt_of hr 1 (by simp)
    exact ⟨d, e, A0, k0, A1, k1, bb, oo, rfl, rfl, by simpa using ha, by simpa using ha1, IHA bb oo 0 (by simp) A0 k0 hcd, IHA bb oo 1 (by simp) A1 k1 hcd1⟩
  clear IHA ih
  rcases hcases with rfl | rfl | rfl | rfl | rfl | rfl | rfl | rfl
  · refine jofStep (outV top) ⟨0, n, args⟩ A cap b1 b2 g 0 85 _ w (enters_of Tryz.func85 (by kernel_rfl) rfl) hj.t rfl rfl (by decide) (fun w' hk => ?_)
    rw [shapeM0]
    have hj' := hj.still hk
    cases top
    · exact jname_n b1 b2 g C R n A _ cap w' hj'
    · exact jname_e b1 b2 g C R n A _ cap w' hj'
  · refine jofStep (outV top) ⟨1, n, args⟩ A cap b1 b2 g 1 86 _ w (enters_of Tryz.func86 (by kernel_rfl) rfl) hj.t rfl rfl (by decide) (fun w' hk => ?_)
    rw [shapeM1]
    exact jtop_calls _ b1 b2 g 1 n A _ cap w'
  · refine jofStep (outV top) ⟨2, n, args⟩ A cap b1 b2 g 2 87 _ w (enters_of Tryz.func87 (by kernel_rfl) rfl) hj.t rfl rfl (by decide) (fun w' hk => ?_)
    rw [shapeM2]
    exact jbot_calls _ b1 b2 g 2 n A _ cap w'
  · refine jofStep (outV top) ⟨3, n, args⟩ A cap b1 b2 g 3 88 _ w (enters_of Tryz.func88 (by kernel_rfl) rfl) hj.t rfl rfl (by decide) (fun w' hk => ?_)
    obtain ⟨d, A0, k0, bb, oo, rfl, rfl, ha, hcd⟩ := un (by have h := har; simp [arityZ] at h; omega)
    rw [shapeM3]
    exact jnot_calls (outV top) b1 b2 g bb oo cap d A0 k0 _ n w' (ha.still hk) (fun w2 hk2 => hcd w2 (hk.then_ hk2))
  · refine jofStep (outV top) ⟨4, n, args⟩ A cap b1 b2 g 4 89 _ w (enters_of Tryz.func89 (by kernel_rfl) rfl) hj.t rfl rfl (by decide) (fun w' hk => ?_)
    obtain ⟨d, e, A0, k0, A1, k1, bb, oo, rfl, rfl, ha, ha1, hcd, hce⟩ := bin (by have h := har; simp [arityZ] at h; omega)
    rw [shapeM4]
    exact jand_calls (outV top) b1 b2 g bb oo cap d e A0 k0 _ A1 k1 _ n w' (ha.still hk) (fun w2 hk2 => hcd w2 (hk.then_ hk2)) (ha1.still hk) (fun w2 hk2 => hce w2 (hk.then_ hk2))
  · refine jofStep (outV top) ⟨5, n, args⟩ A cap b1 b2 g 5 90 _ w (enters_of Tryz.func90 (by kernel_rfl) rfl) hj.t rfl rfl (by decide) (fun w' hk => ?_)
    obtain ⟨d, e, A0, k0, A1, k1, bb, oo, rfl, rfl, ha, ha1, hcd, hce⟩ := bin (by have h := har; simp [arityZ] at h; omega)
    rw [shapeM5]
    exact jor_calls (outV top) b1 b2 g bb oo cap d e A0 k0 _ A1 k1 _ n w' (ha.still hk) (fun w2 hk2 => hcd w2 (hk.then_ hk2)) (ha1.still hk) (fun w2 hk2 => hce w2 (hk.then_ hk2))
  · refine jofStep (outV top) ⟨6, n, args⟩ A cap b1 b2 g 6 91 _ w (enters_of Tryz.func91 (by kernel_rfl) rfl) hj.t rfl rfl (by decide) (fun w' hk => ?_)
    obtain ⟨d, A0, k0, bb, oo, rfl, rfl, ha, hcd⟩ := un (by have h := har; simp [arityZ] at h; omega)
    rw [shapeM6]
    have hn := node_bounds hno hnr (by omega)
    have hr : MapS w' b2 R := (hj.still hk).r
    cases top
    · exact jquantified_n_calls b1 b2 g bb oo cap R d A0 k0 _ n w' hr (half_z hn.1 hn.2) (ha.still hk) (fun w2 hk2 => hcd w2 (hk.then_ hk2))
    · exact jquantified_e_calls b1 b2 g bb oo cap R d A0 k0 _ n w' hr (half_z hn.1 hn.2) (ha.still hk) (fun w2 hk2 => hcd w2 (hk.then_ hk2))
  · refine jofStep (outV top) ⟨7, n, args⟩ A cap b1 b2 g 7 92 _ w (enters_of Tryz.func92 (by kernel_rfl) rfl) hj.t rfl rfl (by decide) (fun w' hk => ?_)
    obtain ⟨d, A0, k0, bb, oo, rfl, rfl, ha, hcd⟩ := un (by have h := har; simp [arityZ] at h; omega)
    rw [shapeM7]
    have hn := node_bounds hno hnr (by omega)
    have hr : MapS w' b2 R := (hj.still hk).r
    cases top
    · exact juniversal_n_calls b1 b2 g bb oo cap R d A0 k0 _ n w' hr (half_z hn.1 hn.2) (ha.still hk) (fun w2 hk2 => hcd w2 (hk.then_ hk2))
    · exact juniversal_e_calls b1 b2 g bb oo cap R d A0 k0 _ n w' hr (half_z hn.1 hn.2) (ha.still hk) (fun w2 hk2 => hcd w2 (hk.then_ hk2))
end Go.Proofs.YthiclhbnggehoaaGreatDoor
