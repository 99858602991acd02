/- What hier.Quant computes. -/
import Derived.Test.YtoafelppnagpbaaDoorEither
namespace Go.Proofs.YtoafelppnagpbaaDoor
open Go.RowKit
set_option linter.unusedVariables false
set_option linter.unusedSimpArgs false
def quantC (c : Con) : Con := if c.op = 6 then c else ⟨6, c.n, [nnfH c.args true]⟩
def RetQuant (ok : Nat → Prop) (c : Con) (w : World) (e : Ending) (w' : World) : Prop :=
  ∃ A cap, e = .returned (.tuple #[.agg #[.int .i64 (quantC c).op, .int .i64 (quantC c).n, .slice A (quantC c).args.length cap], .bool (decide (c.op = 6))]) ∧ ConR (fun b => ok b ∨ w.heap.size ≤ b) w' (quantC c) [.int .i64 (quantC c).op, .int .i64 (quantC c).n, .slice A (quantC c).args.length cap] ∧ Keeps (fun _ => False) w w'
abbrev HoldQ (w : World) (g1 g2 b o : Nat) (v1 v2 x0 x1 x2 : Value) : Prop :=
  w.cell? ⟨g1, 1, none⟩ = some v1 ∧ w.cell? ⟨g1, 2, none⟩ = some v2 ∧ w.cell? ⟨b, o, none⟩ = some x0 ∧ w.cell? ⟨b, o + 1, none⟩ = some x1 ∧ w.cell? ⟨b, o + 2, none⟩ = some x2 ∧
      w.cell? ⟨g2, 0, none⟩ = some (cellAt w g2 0) ∧ w.cell? ⟨g2, 1, none⟩ = some (cellAt w g2 1) ∧ w.cell? ⟨g2, 2, none⟩ = some (cellAt w g2 2) ∧ w.frozen? ⟨g2, 0, none⟩ = false ∧ w.frozen? ⟨g2, 1, none⟩ = false ∧ w.frozen? ⟨g2, 2, none⟩ = false
theorem holdQ {w W : World} {g1 g2 b o : Nat} {t1 t2 : TypeId} {v0 v1 v2 u0 u1 u2 x0 x1 x2 : Value} (h1 : W.heap[g1]? = some (.cells #[v0, v1, v2] t1 (0, 0))) (h2 : W.heap[g2]? = some (.cells #[u0, u1, u2] t2 (0, 0)))
    (hk : Keeps (fun i => i = g2) w W) (hb : b ≠ g2) (e0 : w.cell? ⟨b, o, none⟩ = some x0) (e1 : w.cell? ⟨b, o + 1, none⟩ = some x1) (e2 : w.cell? ⟨b, o + 2, none⟩ = some x2) : HoldQ W g1 g2 b o v1 v2 x0 x1 x2 := by
  obtain ⟨_, y1, y2⟩ := cells3 h1
  obtain ⟨z0, z1, z2⟩ := cells3 h2
  exact ⟨y1, y2, hk.cell e0 hb, hk.cell e1 hb, hk.cell e2 hb, cellAt_eq z0, cellAt_eq z1, cellAt_eq z2, blkFree h2 0, blkFree h2 1, blkFree h2 2⟩
theorem holdQa {w W : World} {g1 g2 b o : Nat} {t1 t2 : TypeId} {v0 v1 v2 u0 u1 u2 x0 x1 x2 : Value} (ob : Obj) (h1 : W.heap[g1]? = some (.cells #[v0, v1, v2] t1 (0, 0))) (h2 : W.heap[g2]? = some (.cells #[u0, u1, u2] t2 (0, 0)))
    (hk : Keeps (fun i => i = g2) w W) (hb : b ≠ g2) (e0 : w.cell? ⟨b, o, none⟩ = some x0) (e1 : w.cell? ⟨b, o + 1, none⟩ = some x1) (e2 : w.cell? ⟨b, o + 2, none⟩ = some x2) : HoldQ (W.alloc ob) g1 g2 b o v1 v2 x0 x1 x2 :=
  holdQ (blkAlloc h1 ob) (blkAlloc h2 ob) (hk.alloc ob) hb e0 e1 e2
theorem holdQs {w W : World} {g1 g2 b o : Nat} {t1 t2 : TypeId} {v0 v1 v2 u0 u1 u2 x0 x1 x2 : Value} (ob : Obj) (z0 z1 z2 : Value) (h1 : W.heap[g1]? = some (.cells #[v0, v1, v2] t1 (0, 0))) (h2 : W.heap[g2]? = some (.cells #[u0, u1, u2] t2 (0, 0)))
    (hk : Keeps (fun i => i = g2) w W) (hb : b ≠ g2) (e0 : w.cell? ⟨b, o, none⟩ = some x0) (e1 : w.cell? ⟨b, o + 1, none⟩ = some x1) (e2 : w.cell? ⟨b, o + 2, none⟩ = some x2) (hn : g1 ≠ g2) :
    HoldQ ((((W.alloc ob).setCell ⟨g2, 0, none⟩ z0).setCell ⟨g2, 1, none⟩ z1).setCell ⟨g2, 2, none⟩ z2) g1 g2 b o v1 v2 x0 x1 x2 :=
  have hs := ((Keeps.refl (fun i => i = g2) (W.alloc ob)).set (g := g2) (Or.inl rfl) z0 |>.set (g := g2) (Or.inl rfl) z1 |>.set (g := g2) (Or.inl rfl) z2)
  holdQ (hs.blk (blkAlloc h1 ob) hn) (blkSet (blkSet (blkSet (blkAlloc h2 ob) 0 _) 1 _) 2 _) ((hk.alloc ob).then_ hs) hb e0 e1 e2
set_option maxRecDepth 100000 in
set_option maxHeartbeats 4000000 in
theorem quant_calls (c : Con) (A : Option Addr) (cap : Nat) (ok : Nat → Prop) (w : World) (hs : shapeC c = true) (hop : c.op = 6 ∨ c.op = 7) (hc : ConR ok w c [.int .i64 c.op, .int .i64 c.n, .slice A c.args.length cap]) (hd : DualsTab w) :
    Calls Tryd.prog 60 #[.agg #[.int .i64 c.op, .int .i64 c.n, .slice A c.args.length cap]] w (RetQuant ok c w) := by
  obtain ⟨op, n, args⟩ := c
  simp only [Con.op, Con.n, Con.args] at hop hc ⊢
  by_cases h6 : op = 6
  · subst h6
    have hq : quantC ⟨6, n, args⟩ = ⟨6, n, args⟩ := by simp [quantC, Con.op]
    have HC := Lib.hid hc
    clear hc
    go_enter Tryd.func60, Tryd.ntmps60
    go_wp2_with fail
    generalize hW0 : World.alloc _ _ = W0
    have hK0 : Keeps (fun _ => False) w W0 := by rw [← hW0]; repeat (first | exact Keeps.refl _ _ | refine Keeps.drewN ?_ _ | refine Keeps.drew ?_ | refine Keeps.alloc ?_ _ | refine Keeps.set ?_ (Or.inl (by rfl)) _)
    have hb : W0.heap[w.heap.size + 1]? = some (.cells #[.int .i64 6, .int .i64 n, .slice A args.length cap] 48 (0, 0)) := by rw [← hW0]; exact blkNew (by simp)
    clear hW0
    obtain ⟨z0, z1, z2⟩ := cells3 hb
    refine bodyPost_ret (v := .tuple #[.agg #[.int .i64 6, .int .i64 n, .slice A args.length cap], .bool true]) (by simp [results, Tryd.results60, go_sem, z0, z1, z2]) rfl ⟨A, cap, by rw [hq]; rfl, by rw [hq]; exact (HC.out.keep hK0 (fun _ _ h => h)).mono (fun _ h => .inl h), hK0⟩
  · have h7 : op = 7 := by omega
    subst h7
    simp only [shapeC, Bool.and_eq_true, decide_eq_true_eq] at hs
    have hl1 : args.length = 1 := by have := hs.1.2; unfold arityZ at this; simp at this; omega
    obtain ⟨d, rfl⟩ : ∃ d, args = [d] := List.length_eq_one_iff.1 hl1
    have hsd : shapeC d = true := by have := hs.2; simp only [shapeL, Bool.and_true] at this; exact this
    have hq : quantC ⟨7, n, [d]⟩ = ⟨6, n, [nnfC d true]⟩ := by simp [quantC, Con.op, Con.n, Con.args, nnfH]
    simp only [ConR] at hc
    obtain ⟨A1, cap1, e1, hcap, hr⟩ := hc
    simp only [List.cons.injEq, Value.slice.injEq, and_true, true_and] at e1
    obtain ⟨rfl, rfl⟩ := e1
    obtain ⟨b, o, rfl, hb, hr⟩ := hr (by simp)
    obtain ⟨A', cap', e0, e1, e2, hcd⟩ := hr.at_ 0 (by simp)
    simp only [List.getElem_cons_zero, Nat.zero_mul, Nat.add_zero] at e0 e1 e2 hcd
    have hbl := World.block_lt_of_cell? w _ e0
    simp only at hbl
    have hcall1 : ∀ W, Keeps (fun _ => False) w W → Calls Tryd.prog 36 #[.agg #[.int .i64 d.op, .int .i64 d.n, .slice A' d.args.length cap'], .bool true] W (RetCon (nnfC d true) W) :=
      fun W hk => nnf_calls (d.size + 1) d true A' cap' ok W (by omega) hsd (hcd.keep hk (fun _ _ h => h)) (hd.keep hk (fun h => h))
    have HC1 := Lib.hid hcall1
    generalize nnfC d true = r1 at *
    clear hcall1 hcd hr hs hd
    go_enter Tryd.func60, Tryd.ntmps60
    go_wp2_with fail
    generalize hW0 : World.alloc _ _ = W0
    have hK0 : Keeps (fun _ => False) w W0 := by rw [← hW0]; repeat (first | exact Keeps.refl _ _ | refine Keeps.drewN ?_ _ | refine Keeps.drew ?_ | refine Keeps.alloc ?_ _ | refine Keeps.set ?_ (Or.inl (by rfl)) _)
    have hb1 : W0.heap[w.heap.size]? = some (.cells #[.int .i64 7, .int .i64 n, .slice (some ⟨b, o, none⟩) 1 cap] 48 (0, 0)) := by rw [← hW0]; exact blkAlloc (blkNew rfl) _
    have hb2 : W0.heap[w.heap.size + 1]? = some (.cells #[.int .i64 0, .int .i64 0, .slice none 0 0] 48 (0, 0)) := by rw [← hW0]; exact blkNew (by simp)
    have hsz0 : W0.heap.size = w.heap.size + 2 := by rw [← hW0]; simp
    clear hW0
    have hbne : b ≠ w.heap.size + 1 := by omega
    have hne1 : w.heap.size ≠ w.heap.size + 1 := by omega
    have HB1 := Lib.hid hb1
    have HB2 := Lib.hid hb2
    have HSZ := Lib.hid hsz0
    have E0 := Lib.hid e0
    have E1 := Lib.hid e1
    have E2 := Lib.hid e2
    have KK0 := Lib.hid hK0
    clear hb1 hb2 hsz0 e0 e1 e2 hK0 hr
    go_region_held3 (fun w' => w'.cell? ⟨w.heap.size, 1, none⟩ = some (.int .i64 n) ∧ w'.cell? ⟨w.heap.size, 2, none⟩ = some (.slice (some ⟨b, o, none⟩) 1 cap) ∧ w'.cell? ⟨b, o, none⟩ = some (.int .i64 d.op) ∧ w'.cell? ⟨b, o + 1, none⟩ = some (.int .i64 d.n) ∧ w'.cell? ⟨b, o + 2, none⟩ = some (.slice A' d.args.length cap') ∧
        w'.cell? ⟨w.heap.size + 1, 0, none⟩ = some (cellAt w' (w.heap.size + 1) 0) ∧ w'.cell? ⟨w.heap.size + 1, 1, none⟩ = some (cellAt w' (w.heap.size + 1) 1) ∧ w'.cell? ⟨w.heap.size + 1, 2, none⟩ = some (cellAt w' (w.heap.size + 1) 2) ∧ w'.frozen? ⟨w.heap.size + 1, 0, none⟩ = false ∧ w'.frozen? ⟨w.heap.size + 1, 1, none⟩ = false ∧ w'.frozen? ⟨w.heap.size + 1, 2, none⟩ = false)
      (first
        | exact holdQ HB1.out HB2.out KK0.out.of0 hbne E0.out E1.out E2.out
        | exact holdQ HB1.out HB2.out KK0.out.drew.of0 hbne E0.out E1.out E2.out
        | with_reducible exact holdQ HY1.out HY2.out HKY.out.of0 hbne E0.out E1.out E2.out
        | with_reducible exact holdQa _ HY1.out HY2.out HKY.out.of0 hbne E0.out E1.out E2.out
        | with_reducible exact holdQs _ _ _ _ HY1.out HY2.out HKY.out.of0 hbne E0.out E1.out E2.out hne1)
      ((go_at_call 36; refine (HC1.out _ (by first | exact KK0.out | exact KK0.out.drew)).mono ?_; clear HC1; rintro e w5 ⟨B1, d1, rfl, hr1, hk5⟩; have HY1 := Lib.hid (hk5.blk HB1.out (fun h => h)); have HY2 := Lib.hid (hk5.blk HB2.out (fun h => h)); have HKY := Lib.hid (KK0.out.drew.then_ hk5)))
    have hkk := HKY.out
    have hr1' := hr1.mono (ok' := fun b => W0.heap.size ≤ b) (fun _ h => h)
    have hz := HSZ.out
    generalize hW7 : World.alloc _ _ = W7
    have hK7 : Keeps (fun _ => False) w5 W7 := by rw [← hW7]; repeat (first | exact Keeps.refl _ _ | refine Keeps.drewN ?_ _ | refine Keeps.drew ?_ | refine Keeps.alloc ?_ _ | refine Keeps.set ?_ (Or.inl (by rfl)) _)
    have hb7 : W7.heap[w5.heap.size]? = some (.cells #[.int .i64 r1.op, .int .i64 r1.n, .slice B1 r1.args.length d1] 48 (0, 0)) := by rw [← hW7]; exact blkNew rfl
    clear hW7
    have hb72 := hK7.blk HY2.out (fun h => h)
    have hlt5 := blkLt HY2.out
    go_wp2_with fail
    generalize hW3 : World.setCell _ _ _ = W3
    have hb3 : W3.heap[w.heap.size + 1]? = some (.cells #[.int .i64 6, .int .i64 n, .slice (some ⟨w5.heap.size, 0, none⟩) 1 1] 48 (0, 0)) := by rw [← hW3]; exact blkSet (blkSet (blkSet hb72 0 _) 1 _) 2 _
    have hK3 : Keeps (fun i => i = w.heap.size + 1) W7 W3 := by rw [← hW3]; repeat (first | exact Keeps.refl _ _ | refine Keeps.drewN ?_ _ | refine Keeps.drew ?_ | refine Keeps.alloc ?_ _ | refine Keeps.set ?_ (Or.inl (by rfl)) _)
    clear hW3
    obtain ⟨z0, z1, z2⟩ := cells3 hb3
    have hb8 := hK3.blk hb7 (by omega)
    obtain ⟨t0, t1, t2⟩ := cells3 hb8
    have hc1 := ((hr1'.keep hK7 (fun _ _ h => h)).keep hK3 (fun k hk e => by omega)).mono (ok' := fun b => ok b ∨ w.heap.size ≤ b) (fun k hk => .inr (by omega))
    refine bodyPost_ret (v := .tuple #[.agg #[.int .i64 6, .int .i64 n, .slice (some ⟨w5.heap.size, 0, none⟩) 1 1], .bool false]) (by simp [results, Tryd.results60, go_sem, z0, z1, z2]) rfl ⟨some ⟨w5.heap.size, 0, none⟩, 1, by rw [hq]; rfl, ?_, ((hkk.then_ hK7).of0.then_ hK3).new (fun i hi => by omega)⟩
    rw [hq]
    simp only [Con.op, Con.n, Con.args, ConR, ConsR]
    exact ⟨_, 1, rfl, Nat.le_refl _, fun _ => ⟨_, 0, rfl, .inr (by omega), ⟨_, _, _, t0, t1, t2, hc1⟩, trivial⟩⟩
end Go.Proofs.YtoafelppnagpbaaDoor
