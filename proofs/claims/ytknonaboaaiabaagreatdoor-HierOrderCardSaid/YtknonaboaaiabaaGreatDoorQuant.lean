/- What hier.Either and hier.Quant compute. -/
import Derived.Test.YtknonaboaaiabaaGreatDoorNnf
import Derived.Deep.RegionHeld3
namespace Go.Proofs.YtknonaboaaiabaaGreatDoor
open Go.RowKit
set_option linter.unusedVariables false
set_option linter.unusedSimpArgs false
/-- What a cell holds, whatever it is. -/
def cellAt (w : World) (g k : Nat) : Value := (w.cell? ⟨g, k, none⟩).getD undef
theorem cellAt_eq {w : World} {g k : Nat} {v : Value} (h : w.cell? ⟨g, k, none⟩ = some v) : w.cell? ⟨g, k, none⟩ = some (cellAt w g k) := by rw [cellAt, h]; rfl
/-- What a region reads of a box of six cells, and that three cells may be written. -/
abbrev Hold6 (w : World) (g1 g2 : Nat) (v0 v1 v2 v3 v4 v5 : Value) : Prop :=
  w.cell? ⟨g1, 0, none⟩ = some v0 ∧ w.cell? ⟨g1, 1, none⟩ = some v1 ∧ w.cell? ⟨g1, 2, none⟩ = some v2 ∧ w.cell? ⟨g1, 3, none⟩ = some v3 ∧ w.cell? ⟨g1, 4, none⟩ = some v4 ∧ w.cell? ⟨g1, 5, none⟩ = some v5 ∧
      w.cell? ⟨g2, 0, none⟩ = some (cellAt w g2 0) ∧ w.cell? ⟨g2, 1, none⟩ = some (cellAt w g2 1) ∧ w.cell? ⟨g2, 2, none⟩ = some (cellAt w g2 2) ∧ w.frozen? ⟨g2, 0, none⟩ = false ∧ w.frozen? ⟨g2, 1, none⟩ = false ∧ w.frozen? ⟨g2, 2, none⟩ = false
theorem hold6 {w : World} {g1 g2 : Nat} {t1 t2 : TypeId} {v0 v1 v2 v3 v4 v5 u0 u1 u2 : Value} (h1 : w.heap[g1]? = some (.cells #[v0, v1, v2, v3, v4, v5] t1 (0, 0))) (h2 : w.heap[g2]? = some (.cells #[u0, u1, u2] t2 (0, 0))) : Hold6 w g1 g2 v0 v1 v2 v3 v4 v5 := by
  obtain ⟨x0, x1, x2, x3, x4, x5⟩ := cells6 h1
  obtain ⟨y0, y1, y2⟩ := cells3 h2
  exact ⟨x0, x1, x2, x3, x4, x5, cellAt_eq y0, cellAt_eq y1, cellAt_eq y2, blkFree h2 0, blkFree h2 1, blkFree h2 2⟩
theorem hold6a {w : World} {g1 g2 : Nat} {t1 t2 : TypeId} {v0 v1 v2 v3 v4 v5 u0 u1 u2 : Value} (o : Obj) (h1 : w.heap[g1]? = some (.cells #[v0, v1, v2, v3, v4, v5] t1 (0, 0))) (h2 : w.heap[g2]? = some (.cells #[u0, u1, u2] t2 (0, 0))) : Hold6 (w.alloc o) g1 g2 v0 v1 v2 v3 v4 v5 :=
  hold6 (blkAlloc h1 o) (blkAlloc h2 o)
theorem hold6s {w : World} {g1 g2 : Nat} {t1 t2 : TypeId} {v0 v1 v2 v3 v4 v5 u0 u1 u2 : Value} (o : Obj) (z0 z1 z2 : Value) (h1 : w.heap[g1]? = some (.cells #[v0, v1, v2, v3, v4, v5] t1 (0, 0))) (h2 : w.heap[g2]? = some (.cells #[u0, u1, u2] t2 (0, 0))) (hn : g1 ≠ g2) :
    Hold6 ((((w.alloc o).setCell ⟨g2, 0, none⟩ z0).setCell ⟨g2, 1, none⟩ z1).setCell ⟨g2, 2, none⟩ z2) g1 g2 v0 v1 v2 v3 v4 v5 :=
  hold6 ((((Keeps.refl (fun i => i = g2) (w.alloc o)).set (g := g2) (Or.inl rfl) z0 |>.set (g := g2) (Or.inl rfl) z1 |>.set (g := g2) (Or.inl rfl) z2)).blk (blkAlloc h1 o) hn) (blkSet (blkSet (blkSet (blkAlloc h2 o) 0 _) 1 _) 2 _)
def eitherC (p : Con × Con) : Con := ⟨5, 0, [nnfC p.1 true, nnfC p.2 false]⟩
set_option maxRecDepth 100000 in
set_option maxHeartbeats 4000000 in
theorem either_calls (p : Con × Con) (A1 A2 : Option Addr) (c1 c2 : Nat) (ok : Nat → Prop) (w : World) (hs1 : shapeC p.1 = true) (hs2 : shapeC p.2 = true)
    (h1 : ConR ok w p.1 [.int .i64 p.1.op, .int .i64 p.1.n, .slice A1 p.1.args.length c1]) (h2 : ConR ok w p.2 [.int .i64 p.2.op, .int .i64 p.2.n, .slice A2 p.2.args.length c2]) (hd : DualsTab w) :
    Calls Tryz.prog 220 #[.agg #[.int .i64 p.1.op, .int .i64 p.1.n, .slice A1 p.1.args.length c1, .int .i64 p.2.op, .int .i64 p.2.n, .slice A2 p.2.args.length c2]] w (RetCon (eitherC p) w) := by
  obtain ⟨a, b⟩ := p
  dsimp only at hs1 hs2 h1 h2 ⊢
  have hcall1 : ∀ W, Keeps (fun _ => False) w W → Calls Tryz.prog 127 #[.agg #[.int .i64 a.op, .int .i64 a.n, .slice A1 a.args.length c1], .bool true] W (RetCon (nnfC a true) W) :=
    fun W hk => nnf_calls (a.size + 1) a true A1 c1 ok W (by omega) hs1 (h1.keep hk (fun _ _ h => h)) (hd.keep hk (fun h => h))
  have hcall2 : ∀ W, Keeps (fun _ => False) w W → Calls Tryz.prog 127 #[.agg #[.int .i64 b.op, .int .i64 b.n, .slice A2 b.args.length c2], .bool false] W (RetCon (nnfC b false) W) :=
    fun W hk => nnf_calls (b.size + 1) b false A2 c2 ok W (by omega) hs2 (h2.keep hk (fun _ _ h => h)) (hd.keep hk (fun h => h))
  have HC1 := Lib.hid hcall1
  have HC2 := Lib.hid hcall2
  have hV := Lib.hid (show eitherC (a, b) = ⟨5, 0, [nnfC a true, nnfC b false]⟩ from rfl)
  generalize nnfC a true = r1 at *
  generalize nnfC b false = r2 at *
  clear hcall1 hcall2 h1 h2 hd hs1 hs2
  go_enter Tryz.func220, Tryz.ntmps220
  go_wp2_with fail
  generalize hW0 : World.alloc _ _ = W0
  have hK0 : Keeps (fun _ => False) w W0 := by rw [← hW0]; repeat (first | exact Keeps.refl _ _ | refine Keeps.drewN ?_ _ | refine Keeps.drew ?_ | refine Keeps.alloc ?_ _ | refine Keeps.set ?_ (Or.inl (by rfl)) _)
  have hb1 : W0.heap[w.heap.size]? = some (.cells #[.int .i64 a.op, .int .i64 a.n, .slice A1 a.args.length c1, .int .i64 b.op, .int .i64 b.n, .slice A2 b.args.length c2] 134 (0, 0)) := by rw [← hW0]; exact blkAlloc (blkNew rfl) _
  have hb2 : W0.heap[w.heap.size + 1]? = some (.cells #[.int .i64 0, .int .i64 0, .slice none 0 0] 94 (0, 0)) := by rw [← hW0]; exact blkNew (by simp)
  have hsz0 : W0.heap.size = w.heap.size + 2 := by rw [← hW0]; simp
  clear hW0
  obtain ⟨x0, x1, x2, x3, x4, x5⟩ := cells6 hb1
  have f0 := blkFree hb2 0
  have f1 := blkFree hb2 1
  have f2 := blkFree hb2 2
  have HB1 := Lib.hid hb1
  have HB2 := Lib.hid hb2
  have HSZ := Lib.hid hsz0
  clear hb1 hb2 hsz0
  have hne1 : w.heap.size ≠ w.heap.size + 1 := by omega
  go_region_held3 (fun w' => w'.cell? ⟨w.heap.size, 0, none⟩ = some (.int .i64 a.op) ∧ w'.cell? ⟨w.heap.size, 1, none⟩ = some (.int .i64 a.n) ∧ w'.cell? ⟨w.heap.size, 2, none⟩ = some (.slice A1 a.args.length c1) ∧
      w'.cell? ⟨w.heap.size, 3, none⟩ = some (.int .i64 b.op) ∧ w'.cell? ⟨w.heap.size, 4, none⟩ = some (.int .i64 b.n) ∧ w'.cell? ⟨w.heap.size, 5, none⟩ = some (.slice A2 b.args.length c2) ∧
      w'.cell? ⟨w.heap.size + 1, 0, none⟩ = some (cellAt w' (w.heap.size + 1) 0) ∧ w'.cell? ⟨w.heap.size + 1, 1, none⟩ = some (cellAt w' (w.heap.size + 1) 1) ∧ w'.cell? ⟨w.heap.size + 1, 2, none⟩ = some (cellAt w' (w.heap.size + 1) 2) ∧ w'.frozen? ⟨w.heap.size + 1, 0, none⟩ = false ∧ w'.frozen? ⟨w.heap.size + 1, 1, none⟩ = false ∧ w'.frozen? ⟨w.heap.size + 1, 2, none⟩ = false)
    (first
      | exact hold6 HB1.out HB2.out
      | with_reducible exact hold6 HY1.out HY2.out
      | with_reducible exact hold6 HZ1.out HZ2.out
      | with_reducible exact hold6a _ HZ1.out HZ2.out
      | with_reducible exact hold6s _ _ _ _ HZ1.out HZ2.out hne1)
    (first
      | (go_at_call 127; refine (HC1.out _ (by first | exact hK0 | exact hK0.drew)).mono ?_; clear HC1; rintro e w5 ⟨B1, d1, rfl, hr1, hk5⟩; have HY1 := Lib.hid (hk5.blk HB1.out (fun h => h)); have HY2 := Lib.hid (hk5.blk HB2.out (fun h => h)))
      | (go_at_call 127; refine (HC2.out _ (by first | exact Keeps.then_ hK0.drew hk5 | exact Keeps.then_ hK0 hk5)).mono ?_; clear HC2; rintro e w6 ⟨B2, d2, rfl, hr2, hk6⟩; have HZ1 := Lib.hid (hk6.blk HY1.out (fun h => h)); have HZ2 := Lib.hid (hk6.blk HY2.out (fun h => h))))
  have hY3 : w6.heap[w.heap.size + 1]? = some (.cells #[.int .i64 0, .int .i64 0, .slice none 0 0] 94 (0, 0)) := HZ2.out
  have hkk : Keeps (fun _ => False) w w6 := (Keeps.then_ hK0.drew hk5).then_ hk6
  have hr1' := (hr1.mono (ok' := fun b => W0.heap.size ≤ b) (fun _ h => h)).keep hk6 (fun _ _ h => h)
  have hs5 := hk5.size
  have hs6 := hk6.size
  have hs0 := hK0.size
  have hs56 : W0.heap.size ≤ w5.heap.size := hs5
  have hz := HSZ.out
  generalize hW7 : World.alloc _ _ = W7
  have hK7 : Keeps (fun _ => False) w6 W7 := by rw [← hW7]; repeat (first | exact Keeps.refl _ _ | refine Keeps.drewN ?_ _ | refine Keeps.drew ?_ | refine Keeps.alloc ?_ _ | refine Keeps.set ?_ (Or.inl (by rfl)) _)
  have hb7 : W7.heap[w6.heap.size]? = some (.cells #[.int .i64 r1.op, .int .i64 r1.n, .slice B1 r1.args.length d1, .int .i64 r2.op, .int .i64 r2.n, .slice B2 r2.args.length d2] 94 (0, 0)) := by rw [← hW7]; exact blkNew rfl
  clear hW7
  have hb72 := hK7.blk hY3 (fun h => h)
  go_wp2_with fail
  generalize hW3 : World.setCell _ _ _ = W3
  have hb3 : W3.heap[w.heap.size + 1]? = some (.cells #[.int .i64 5, .int .i64 0, .slice (some ⟨w6.heap.size, 0, none⟩) 2 2] 94 (0, 0)) := by rw [← hW3]; exact blkSet (blkSet (blkSet hb72 0 _) 1 _) 2 _
  have hK3 : Keeps (fun i => i = w.heap.size + 1) W7 W3 := by rw [← hW3]; repeat (first | exact Keeps.refl _ _ | refine Keeps.drewN ?_ _ | refine Keeps.drew ?_ | refine Keeps.alloc ?_ _ | refine Keeps.set ?_ (Or.inl (by rfl)) _)
  clear hW3
  obtain ⟨z0, z1, z2⟩ := cells3 hb3
  have hb8 := hK3.blk hb7 (by omega)
  obtain ⟨t0, t1, t2, t3, t4, t5⟩ := cells6 hb8
  rw [hV.out]
  have hc1 := ((hr1'.keep hK7 (fun _ _ h => h)).keep hK3 (fun k hk e => by omega)).mono (ok' := fun b => w.heap.size ≤ b) (fun k hk => by omega)
  have hc2 := ((hr2.keep hK7 (fun _ _ h => h)).keep hK3 (fun k hk e => by omega)).mono (ok' := fun b => w.heap.size ≤ b) (fun k hk => by omega)
  refine bodyPost_ret (v := .agg #[.int .i64 5, .int .i64 0, .slice (some ⟨w6.heap.size, 0, none⟩) 2 2]) (by simp [results, Tryz.results220, go_sem, z0, z1, z2]) rfl (RetCon.of (r := ⟨5, 0, [r1, r2]⟩) ?_ (((hkk.then_ hK7).of0.then_ hK3).new (fun i hi => by omega)))
  simp only [ConR, ConsR]
  exact ⟨_, 2, rfl, Nat.le_refl _, fun _ => ⟨_, 0, rfl, by omega, ⟨_, _, _, t0, t1, t2, hc1⟩, ⟨_, _, _, t3, t4, t5, hc2⟩, fun _ => ⟨_, _, hb8⟩⟩⟩
end Go.Proofs.YtknonaboaaiabaaGreatDoor
/- What hier.Quant computes. -/
namespace Go.Proofs.YtknonaboaaiabaaGreatDoor
open Go.RowKit
set_option linter.unusedVariables false
set_option linter.unusedSimpArgs false
def quantC (c : Con) : Con := if c.op = 6 then c else ⟨6, c.n, [nnfH c.args true]⟩
def RetQuant (ok : Nat → Prop) (c : Con) (w : World) (e : Ending) (w' : World) : Prop :=
  ∃ A cap, e = .returned (.tuple #[.agg #[.int .i64 (quantC c).op, .int .i64 (quantC c).n, .slice A (quantC c).args.length cap], .bool (decide (c.op = 6))]) ∧ ConR (fun b => ok b ∨ w.heap.size ≤ b) w' (quantC c) [.int .i64 (quantC c).op, .int .i64 (quantC c).n, .slice A (quantC c).args.length cap] ∧ Keeps (fun _ => False) w w'
abbrev HoldQ (w : World) (g1 g2 b o : Nat) (v1 v2 x0 x1 x2 : Value) : Prop :=
  w.cell? ⟨g1, 1, none⟩ = some v1 ∧ w.cell? ⟨g1, 2, none⟩ = some v2 ∧ w.cell? ⟨b, o, none⟩ = some x0 ∧ w.cell? ⟨b, o + 1, none⟩ = some x1 ∧ w.cell? ⟨b, o + 2, none⟩ = some x2 ∧
      w.cell? ⟨g2, 0, none⟩ = some (cellAt w g2 0) ∧ w.cell? ⟨g2, 1, none⟩ = some (cellAt w g2 1) ∧ w.cell? ⟨g2, 2, none⟩ = some (cellAt w g2 2) ∧ w.frozen? ⟨g2, 0, none⟩ = false ∧ w.frozen? ⟨g2, 1, none⟩ = false ∧ w.frozen? ⟨g2, 2, none⟩ = false
theorem holdQ {w W : World} {g1 g2 b o : Nat} {t1 t2 : TypeId} {v0 v1 v2 u0 u1 u2 x0 x1 x2 : Value} (h1 : W.heap[g1]? = some (.cells #[v0, v1, v2] t1 (0, 0))) (h2 : W.heap[g2]? = some (.cells #[u0, u1, u2] t2 (0, 0)))
    (hk : Keeps (fun i => i = g2) w W) (hb : b ≠ g2) (e0 : w.cell? ⟨b, o, none⟩ = some x0) (e1 : w.cell? ⟨b, o + 1, none⟩ = some x1) (e2 : w.cell? ⟨b, o + 2, none⟩ = some x2) : HoldQ W g1 g2 b o v1 v2 x0 x1 x2 := by
  obtain ⟨_, y1, y2⟩ := cells3 h1
  obtain ⟨z0, z1, z2⟩ := cells3 h2
  exact ⟨y1, y2, hk.cell e0 hb, hk.cell e1 hb, hk.cell e2 hb, cellAt_eq z0, cellAt_eq z1, cellAt_eq z2, blkFree h2 0, blkFree h2 1, blkFree h2 2⟩
theorem holdQa {w W : World} {g1 g2 b o : Nat} {t1 t2 : TypeId} {v0 v1 v2 u0 u1 u2 x0 x1 x2 : Value} (ob : Obj) (h1 : W.heap[g1]? = some (.cells #[v0, v1, v2] t1 (0, 0))) (h2 : W.heap[g2]? = some (.cells #[u0, u1, u2] t2 (0, 0)))
    (hk : Keeps (fun i => i = g2) w W) (hb : b ≠ g2) (e0 : w.cell? ⟨b, o, none⟩ = some x0) (e1 : w.cell? ⟨b, o + 1, none⟩ = some x1) (e2 : w.cell? ⟨b, o + 2, none⟩ = some x2) : HoldQ (W.alloc ob) g1 g2 b o v1 v2 x0 x1 x2 :=
  holdQ (blkAlloc h1 ob) (blkAlloc h2 ob) (hk.alloc ob) hb e0 e1 e2
theorem holdQs {w W : World} {g1 g2 b o : Nat} {t1 t2 : TypeId} {v0 v1 v2 u0 u1 u2 x0 x1 x2 : Value} (ob : Obj) (z0 z1 z2 : Value) (h1 : W.heap[g1]? = some (.cells #[v0, v1, v2] t1 (0, 0))) (h2 : W.heap[g2]? = some (.cells #[u0, u1, u2] t2 (0, 0)))
    (hk : Keeps (fun i => i = g2) w W) (hb : b ≠ g2) (e0 : w.cell? ⟨b, o, none⟩ = some x0) (e1 : w.cell? ⟨b, o + 1, none⟩ = some x1) (e2 : w.cell? ⟨b, o + 2, none⟩ = some x2) (hn : g1 ≠ g2) :
    HoldQ ((((W.alloc ob).setCell ⟨g2, 0, none⟩ z0).setCell ⟨g2, 1, none⟩ z1).setCell ⟨g2, 2, none⟩ z2) g1 g2 b o v1 v2 x0 x1 x2 :=
  have hs := ((Keeps.refl (fun i => i = g2) (W.alloc ob)).set (g := g2) (Or.inl rfl) z0 |>.set (g := g2) (Or.inl rfl) z1 |>.set (g := g2) (Or.inl rfl) z2)
  holdQ (hs.blk (blkAlloc h1 ob) hn) (blkSet (blkSet (blkSet (blkAlloc h2 ob) 0 _) 1 _) 2 _) ((hk.alloc ob).then_ hs) hb e0 e1 e2
set_option maxRecDepth 100000 in
set_option maxHeartbeats 4000000 in
theorem quant_calls (c : Con) (A : Option Addr) (cap : Nat) (ok : Nat → Prop) (w : World) (hs : shapeC c = true) (hop : c.op = 6 ∨ c.op = 7) (hc : ConR ok w c [.int .i64 c.op, .int .i64 c.n, .slice A c.args.length cap]) (hd : DualsTab w) :
    Calls Tryz.prog 185 #[.agg #[.int .i64 c.op, .int .i64 c.n, .slice A c.args.length cap]] w (RetQuant ok c w) := by
  obtain ⟨op, n, args⟩ := c
  simp only [Con.op, Con.n, Con.args] at hop hc ⊢
  by_cases h6 : op = 6
  · subst h6
    have hq : quantC ⟨6, n, args⟩ = ⟨6, n, args⟩ := by simp [quantC, Con.op]
    have HC := Lib.hid hc
    clear hc
    go_enter Tryz.func185, Tryz.ntmps185
    go_wp2_with fail
    generalize hW0 : World.alloc _ _ = W0
    have hK0 : Keeps (fun _ => False) w W0 := by rw [← hW0]; repeat (first | exact Keeps.refl _ _ | refine Keeps.drewN ?_ _ | refine Keeps.drew ?_ | refine Keeps.alloc ?_ _ | refine Keeps.set ?_ (Or.inl (by rfl)) _)
    have hb : W0.heap[w.heap.size + 1]? = some (.cells #[.int .i64 6, .int .i64 n, .slice A args.length cap] 94 (0, 0)) := by rw [← hW0]; exact blkNew (by simp)
    clear hW0
    obtain ⟨z0, z1, z2⟩ := cells3 hb
    refine bodyPost_ret (v := .tuple #[.agg #[.int .i64 6, .int .i64 n, .slice A args.length cap], .bool true]) (by simp [results, Tryz.results185, go_sem, z0, z1, z2]) rfl ⟨A, cap, by rw [hq]; rfl, by rw [hq]; exact (HC.out.keep hK0 (fun _ _ h => h)).mono (fun _ h => .inl h), hK0⟩
  · have h7 : op = 7 := by omega
    subst h7
    simp only [shapeC, Bool.and_eq_true, decide_eq_true_eq] at hs
    have hl1 : args.length = 1 := by have := hs.1.2; unfold arityZ at this; simp at this; omega
    obtain ⟨d, rfl⟩ : ∃ d, args = [d] := List.length_eq_one_iff.1 hl1
    have hsd : shapeC d = true := by have := hs.2; simp only [shapeL, Bool.and_true] at this; exact this
    have hq : quantC ⟨7, n, [d]⟩ = ⟨6, n, [nnfC d true]⟩ := by simp [quantC, Con.op, Con.n, Con.args, nnfH]
    simp only [ConR] at hc
    obtain ⟨A1, cap1, e1, hcap, hr⟩ := hc
    simp only [List.cons.injEq, Value.slice.injEq, and_true, true_and] at e1
    obtain ⟨rfl, rfl⟩ := e1
    obtain ⟨b, o, rfl, hb, hr⟩ := hr (by simp)
    obtain ⟨A', cap', e0, e1, e2, hcd⟩ := hr.at_ 0 (by simp)
    simp only [List.getElem_cons_zero, Nat.zero_mul, Nat.add_zero] at e0 e1 e2 hcd
    have hbl := World.block_lt_of_cell? w _ e0
    simp only at hbl
    have hcall1 : ∀ W, Keeps (fun _ => False) w W → Calls Tryz.prog 127 #[.agg #[.int .i64 d.op, .int .i64 d.n, .slice A' d.args.length cap'], .bool true] W (RetCon (nnfC d true) W) :=
      fun W hk => nnf_calls (d.size + 1) d true A' cap' ok W (by omega) hsd (hcd.keep hk (fun _ _ h => h)) (hd.keep hk (fun h => h))
    have HC1 := Lib.hid hcall1
    generalize nnfC d true = r1 at *
    clear hcall1 hcd hr hs hd
    go_enter Tryz.func185, Tryz.ntmps185
    go_wp2_with fail
    generalize hW0 : World.alloc _ _ = W0
    have hK0 : Keeps (fun _ => False) w W0 := by rw [← hW0]; repeat (first | exact Keeps.refl _ _ | refine Keeps.drewN ?_ _ | refine Keeps.drew ?_ | refine Keeps.alloc ?_ _ | refine Keeps.set ?_ (Or.inl (by rfl)) _)
    have hb1 : W0.heap[w.heap.size]? = some (.cells #[.int .i64 7, .int .i64 n, .slice (some ⟨b, o, none⟩) 1 cap] 94 (0, 0)) := by rw [← hW0]; exact blkAlloc (blkNew rfl) _
    have hb2 : W0.heap[w.heap.size + 1]? = some (.cells #[.int .i64 0, .int .i64 0, .slice none 0 0] 94 (0, 0)) := by rw [← hW0]; exact blkNew (by simp)
    have hsz0 : W0.heap.size = w.heap.size + 2 := by rw [← hW0]; simp
    clear hW0
    have hbne : b ≠ w.heap.size + 1 := by omega
    have hne1 : w.heap.size ≠ w.heap.size + 1 := by omega
    have HB1 := Lib.hid hb1
    have HB2 := Lib.hid hb2
    have HSZ := Lib.hid hsz0
    have E0 := Lib.hid e0
    have E1 := Lib.hid e1
    have E2 := Lib.hid e2
    have KK0 := Lib.hid hK0
    clear hb1 hb2 hsz0 e0 e1 e2 hK0 hr
    go_region_held3 (fun w' => w'.cell? ⟨w.heap.size, 1, none⟩ = some (.int .i64 n) ∧ w'.cell? ⟨w.heap.size, 2, none⟩ = some (.slice (some ⟨b, o, none⟩) 1 cap) ∧ w'.cell? ⟨b, o, none⟩ = some (.int .i64 d.op) ∧ w'.cell? ⟨b, o + 1, none⟩ = some (.int .i64 d.n) ∧ w'.cell? ⟨b, o + 2, none⟩ = some (.slice A' d.args.length cap') ∧
        w'.cell? ⟨w.heap.size + 1, 0, none⟩ = some (cellAt w' (w.heap.size + 1) 0) ∧ w'.cell? ⟨w.heap.size + 1, 1, none⟩ = some (cellAt w' (w.heap.size + 1) 1) ∧ w'.cell? ⟨w.heap.size + 1, 2, none⟩ = some (cellAt w' (w.heap.size + 1) 2) ∧ w'.frozen? ⟨w.heap.size + 1, 0, none⟩ = false ∧ w'.frozen? ⟨w.heap.size + 1, 1, none⟩ = false ∧ w'.frozen? ⟨w.heap.size + 1, 2, none⟩ = false)
      (first
        | exact holdQ HB1.out HB2.out KK0.out.of0 hbne E0.out E1.out E2.out
        | exact holdQ HB1.out HB2.out KK0.out.drew.of0 hbne E0.out E1.out E2.out
        | with_reducible exact holdQ HY1.out HY2.out HKY.out.of0 hbne E0.out E1.out E2.out
        | with_reducible exact holdQa _ HY1.out HY2.out HKY.out.of0 hbne E0.out E1.out E2.out
        | with_reducible exact holdQs _ _ _ _ HY1.out HY2.out HKY.out.of0 hbne E0.out E1.out E2.out hne1)
      ((go_at_call 127; refine (HC1.out _ (by first | exact KK0.out | exact KK0.out.drew)).mono ?_; clear HC1; rintro e w5 ⟨B1, d1, rfl, hr1, hk5⟩; have HY1 := Lib.hid (hk5.blk HB1.out (fun h => h)); have HY2 := Lib.hid (hk5.blk HB2.out (fun h => h)); have HKY := Lib.hid (KK0.out.drew.then_ hk5)))
    have hkk := HKY.out
    have hr1' := hr1.mono (ok' := fun b => W0.heap.size ≤ b) (fun _ h => h)
    have hz := HSZ.out
    generalize hW7 : World.alloc _ _ = W7
    have hK7 : Keeps (fun _ => False) w5 W7 := by rw [← hW7]; repeat (first | exact Keeps.refl _ _ | refine Keeps.drewN ?_ _ | refine Keeps.drew ?_ | refine Keeps.alloc ?_ _ | refine Keeps.set ?_ (Or.inl (by rfl)) _)
    have hb7 : W7.heap[w5.heap.size]? = some (.cells #[.int .i64 r1.op, .int .i64 r1.n, .slice B1 r1.args.length d1] 94 (0, 0)) := by rw [← hW7]; exact blkNew rfl
    clear hW7
    have hb72 := hK7.blk HY2.out (fun h => h)
    have hlt5 := blkLt HY2.out
    go_wp2_with fail
    generalize hW3 : World.setCell _ _ _ = W3
    have hb3 : W3.heap[w.heap.size + 1]? = some (.cells #[.int .i64 6, .int .i64 n, .slice (some ⟨w5.heap.size, 0, none⟩) 1 1] 94 (0, 0)) := by rw [← hW3]; exact blkSet (blkSet (blkSet hb72 0 _) 1 _) 2 _
    have hK3 : Keeps (fun i => i = w.heap.size + 1) W7 W3 := by rw [← hW3]; repeat (first | exact Keeps.refl _ _ | refine Keeps.drewN ?_ _ | refine Keeps.drew ?_ | refine Keeps.alloc ?_ _ | refine Keeps.set ?_ (Or.inl (by rfl)) _)
    clear hW3
    obtain ⟨z0, z1, z2⟩ := cells3 hb3
    have hb8 := hK3.blk hb7 (by omega)
    obtain ⟨t0, t1, t2⟩ := cells3 hb8
    have hc1 := ((hr1'.keep hK7 (fun _ _ h => h)).keep hK3 (fun k hk e => by omega)).mono (ok' := fun b => ok b ∨ w.heap.size ≤ b) (fun k hk => .inr (by omega))
    refine bodyPost_ret (v := .tuple #[.agg #[.int .i64 6, .int .i64 n, .slice (some ⟨w5.heap.size, 0, none⟩) 1 1], .bool false]) (by simp [results, Tryz.results185, go_sem, z0, z1, z2]) rfl ⟨some ⟨w5.heap.size, 0, none⟩, 1, by rw [hq]; rfl, ?_, ((hkk.then_ hK7).of0.then_ hK3).new (fun i hi => by omega)⟩
    rw [hq]
    simp only [Con.op, Con.n, Con.args, ConR, ConsR]
    exact ⟨_, 1, rfl, Nat.le_refl _, fun _ => ⟨_, 0, rfl, .inr (by omega), ⟨_, _, _, t0, t1, t2, hc1⟩, fun _ => ⟨_, _, hb8⟩⟩⟩
end Go.Proofs.YtknonaboaaiabaaGreatDoor
