/- module.judgeOf: a judge for a signature. -/
import Derived.Test.YthiclhbnggehoaaGreatDoorKnow
import Derived.Deep.Cut
import Derived.Test.YthiclhbnggehoaaGreatDoorRegInv
namespace Go.Proofs.YthiclhbnggehoaaGreatDoor
open Go.RowKit
set_option linter.unusedVariables false
set_option linter.unusedSimpArgs false
theorem Keeps.rwCell {W W' : World} (h : Keeps (fun _ => False) W W') : ∀ g j, g < W.heap.size → W'.cell? ⟨g, j, none⟩ = W.cell? ⟨g, j, none⟩ := fun g j hg => World.cell?_of_block (w := W) (a := ⟨g, j, none⟩) (h.block g hg (fun h => h))
theorem Keeps.rwFz {W W' : World} (h : Keeps (fun _ => False) W W') : ∀ g j, g < W.heap.size → W'.frozen? ⟨g, j, none⟩ = W.frozen? ⟨g, j, none⟩ := fun g j hg => World.frozen?_of_block (w := W) (a := ⟨g, j, none⟩) (h.block g hg (fun h => h))
/-- What a judge that was just made holds. -/
structure JNew (w : World) (T : TypeId) (t b1 b2 g : Nat) (wc : World) : Prop where
  h : wc.heap[t]? = some (.cells #[.iface T (.agg #[]), .map (some b1), .map (some b2), .pointer (some ⟨g, 0, none⟩)] 101 (0, 0))
  m1 : wc.heap[b1]? = some (.map #[] 0)
  m2 : wc.heap[b2]? = some (.map #[] 0)
  o : wc.heap[g]? = some (.cells howT 143 (0, 0))
  n1 : w.heap.size ≤ b1
  n2 : w.heap.size ≤ b2
  n3 : w.heap.size ≤ g
  n4 : w.heap.size ≤ t
  d : b1 < b2 ∨ b2 < b1
  k : Keeps (fun _ => False) w wc
theorem JNew.of {w W : World} {T : TypeId} {t b1 b2 g : Nat} {x0 x1 x2 x3 : Value} (h : W.heap[t]? = some (.cells #[x0, x1, x2, x3] 101 (0, 0))) (m1 : W.heap[b1]? = some (.map #[] 0)) (m2 : W.heap[b2]? = some (.map #[] 0))
    (o : W.heap[g]? = some (.cells howT 143 (0, 0))) (n1 : w.heap.size ≤ b1) (n2 : w.heap.size ≤ b2) (n3 : w.heap.size ≤ g) (n4 : w.heap.size ≤ t) (d : b1 < b2 ∨ b2 < b1) (k : Keeps (fun _ => False) w W) :
    JNew w T t b1 b2 g ((((W.setCell ⟨t, 0, none⟩ (.iface T (.agg #[]))).setCell ⟨t, 1, none⟩ (.map (some b1))).setCell ⟨t, 2, none⟩ (.map (some b2))).setCell ⟨t, 3, none⟩ (.pointer (some ⟨g, 0, none⟩))) := by
  have e1 : b1 ≠ t := by rintro rfl; rw [h] at m1; cases m1
  have e2 : b2 ≠ t := by rintro rfl; rw [h] at m2; cases m2
  have e3 : g ≠ t := by rintro rfl; rw [h] at o; simp at o
  have hk : Keeps (fun i => i = t) W ((((W.setCell ⟨t, 0, none⟩ (.iface T (.agg #[]))).setCell ⟨t, 1, none⟩ (.map (some b1))).setCell ⟨t, 2, none⟩ (.map (some b2))).setCell ⟨t, 3, none⟩ (.pointer (some ⟨g, 0, none⟩))) :=
    ((((Keeps.refl (fun i => i = t) W).set (g := t) (Or.inl (by rfl)) _).set (g := t) (Or.inl (by rfl)) _).set (g := t) (Or.inl (by rfl)) _).set (g := t) (Or.inl (by rfl)) _
  refine ⟨?_, hk.blk m1 e1, hk.blk m2 e2, hk.blk o e3, n1, n2, n3, n4, d, k.trans hk (fun i hi => .inr (by omega))⟩
  have := blkSet (blkSet (blkSet (blkSet h 0 (.iface T (.agg #[]))) 1 (.map (some b1))) 2 (.map (some b2))) 3 (.pointer (some ⟨g, 0, none⟩))
  simpa using this
theorem MapS.new {w : World} {b : Nat} (h : w.heap[b]? = some (.map #[] 0)) : MapS w b [] := ⟨[], ⟨#[], 0, h, rfl, by simp, by simp, by simp⟩, SetM.nil⟩
theorem blkF {w w' : World} {g : Nat} {o : Obj} (h : Keeps (fun _ => False) w w') (hv : w.heap[g]? = some o) : w'.heap[g]? = some o := h.blk hv (fun h => h)
theorem keepsF {a b c : World} (k : Keeps (fun _ => False) b c) (h : Keeps (fun _ => False) a b) : Keeps (fun _ => False) a c := h.then_ k
/-- The region's invariant: what each operation that is listed has laid. -/
structure JI (w : World) (T : TypeId) (tp : Int) (l0 l1 l2 l3 l4 l5 l6 l7 l8 : Bool) (t5 t6 t7 t8 t9 t10 t11 t12 : Value) (wc : World) : Prop where
  c0 : l0 = true → t6 = .agg #[outV false, outV true]
  c1 : l1 = true → t7 = .int .i64 tp
  c2 : l2 = true → t8 = .iface T (.agg #[])
  c3 : l3 = true → ∃ b, t9 = .map (some b) ∧ w.heap.size ≤ b ∧ wc.heap[b]? = some (.map #[] 0)
  c4 : l4 = true → ∃ b, t10 = .map (some b) ∧ w.heap.size ≤ b ∧ wc.heap[b]? = some (.map #[] 0)
  cd : l3 = true → l4 = true → t9 ≠ t10
  c5 : l5 = true → ∃ g, t11 = .pointer (some ⟨g, 0, none⟩) ∧ w.heap.size ≤ g ∧ wc.heap[g]? = some (.cells howT 143 (0, 0))
  c6 : l6 = true → t12 = .agg #[t8, t9, t10, t11]
  c7 : l7 = true → ∃ t, t5 = .pointer (some ⟨t, 0, none⟩) ∧ w.heap.size ≤ t ∧ wc.heap[t]? = some (.cells (if l8 then #[t8, t9, t10, t11] else #[.nilIface, .map none, .map none, .pointer none]) 101 (0, 0))
  c9 : l6 = true → l2 = true ∧ l3 = true ∧ l4 = true ∧ l5 = true
  c10 : l8 = true → l6 = true ∧ l7 = true
  k : Keeps (fun _ => False) w wc
theorem JI.still {w : World} {T : TypeId} {tp : Int} {l0 l1 l2 l3 l4 l5 l6 l7 l8 : Bool} {t5 t6 t7 t8 t9 t10 t11 t12 : Value} {wc wd : World} (h : JI w T tp l0 l1 l2 l3 l4 l5 l6 l7 l8 t5 t6 t7 t8 t9 t10 t11 t12 wc) (hk : Keeps (fun _ => False) wc wd) : JI w T tp l0 l1 l2 l3 l4 l5 l6 l7 l8 t5 t6 t7 t8 t9 t10 t11 t12 wd :=
  ⟨h.c0, h.c1, h.c2, fun e => (by obtain ⟨b, h1, h2, h3⟩ := h.c3 e; exact ⟨b, h1, h2, blkF hk h3⟩), fun e => (by obtain ⟨b, h1, h2, h3⟩ := h.c4 e; exact ⟨b, h1, h2, blkF hk h3⟩), h.cd,
    fun e => (by obtain ⟨b, h1, h2, h3⟩ := h.c5 e; exact ⟨b, h1, h2, blkF hk h3⟩), h.c6, fun e => (by obtain ⟨b, h1, h2, h3⟩ := h.c7 e; exact ⟨b, h1, h2, blkF hk h3⟩), h.c9, h.c10, h.k.then_ hk⟩
theorem JI.s0 {w : World} {T : TypeId} {tp : Int} {l1 l2 l3 l4 l5 l6 l7 l8 : Bool} {t5 t6 t7 t8 t9 t10 t11 t12 : Value} {wc : World} (h : JI w T tp false l1 l2 l3 l4 l5 l6 l7 l8 t5 t6 t7 t8 t9 t10 t11 t12 wc) : JI w T tp true l1 l2 l3 l4 l5 l6 l7 l8 t5 (.agg #[outV false, outV true]) t7 t8 t9 t10 t11 t12 wc :=
  ⟨fun _ => rfl, h.c1, h.c2, h.c3, h.c4, h.cd, h.c5, h.c6, h.c7, h.c9, h.c10, h.k⟩
theorem JI.s1 {w : World} {T : TypeId} {tp : Int} {l0 l2 l3 l4 l5 l6 l7 l8 : Bool} {t5 t6 t7 t8 t9 t10 t11 t12 : Value} {wc : World} (h : JI w T tp l0 false l2 l3 l4 l5 l6 l7 l8 t5 t6 t7 t8 t9 t10 t11 t12 wc) : JI w T tp l0 true l2 l3 l4 l5 l6 l7 l8 t5 t6 (.int .i64 tp) t8 t9 t10 t11 t12 wc :=
  ⟨h.c0, fun _ => rfl, h.c2, h.c3, h.c4, h.cd, h.c5, h.c6, h.c7, h.c9, h.c10, h.k⟩
theorem JI.no6 {w : World} {T : TypeId} {tp : Int} {l0 l1 l2 l3 l4 l5 l6 l7 l8 : Bool} {t5 t6 t7 t8 t9 t10 t11 t12 : Value} {wc : World} (h : JI w T tp l0 l1 l2 l3 l4 l5 l6 l7 l8 t5 t6 t7 t8 t9 t10 t11 t12 wc) (hn : l2 = false ∨ l3 = false ∨ l4 = false ∨ l5 = false) : l6 = false ∧ l8 = false := by
  have h6 : l6 = false := by cases l6 with
    | false => rfl
    | true => obtain ⟨a, b, c, d⟩ := h.c9 rfl; rcases hn with e | e | e | e <;> simp_all
  refine ⟨h6, ?_⟩
  cases l8 with
  | false => rfl
  | true => exact absurd (h.c10 rfl).1 (by simp [h6])
theorem JI.s2 {w : World} {T : TypeId} {tp : Int} {l0 l1 l3 l4 l5 l6 l7 l8 : Bool} {t5 t6 t7 t8 t9 t10 t11 t12 : Value} {wc : World} (h : JI w T tp l0 l1 false l3 l4 l5 l6 l7 l8 t5 t6 t7 t8 t9 t10 t11 t12 wc) : JI w T tp l0 l1 true l3 l4 l5 l6 l7 l8 t5 t6 t7 (.iface T (.agg #[])) t9 t10 t11 t12 wc := by
  obtain ⟨rfl, rfl⟩ := h.no6 (.inl rfl)
  exact ⟨h.c0, h.c1, fun _ => rfl, h.c3, h.c4, h.cd, h.c5, fun e => (by cases e), fun e => (by simpa using h.c7 e), fun e => (by cases e), fun e => (by cases e), h.k⟩
theorem JI.s3 {w : World} {T : TypeId} {tp : Int} {l0 l1 l2 l4 l5 l6 l7 l8 : Bool} {t5 t6 t7 t8 t9 t10 t11 t12 : Value} {wc : World} (h : JI w T tp l0 l1 l2 false l4 l5 l6 l7 l8 t5 t6 t7 t8 t9 t10 t11 t12 wc) : JI w T tp l0 l1 l2 true l4 l5 l6 l7 l8 t5 t6 t7 t8 (.map (some wc.heap.size)) t10 t11 t12 (wc.alloc (.map #[] 0)) := by
  obtain ⟨rfl, rfl⟩ := h.no6 (.inr (.inl rfl))
  have hk : Keeps (fun _ => False) wc (wc.alloc (.map #[] 0)) := (Keeps.refl _ _).alloc _
  have h' := h.still hk
  refine ⟨h'.c0, h'.c1, h'.c2, fun _ => ⟨_, rfl, h.k.size, blkNew rfl⟩, h'.c4, fun _ e => ?_, h'.c5, fun e => (by cases e), fun e => (by simpa using h'.c7 e), fun e => (by cases e), fun e => (by cases e), h'.k⟩
  obtain ⟨b, h1, _, h3⟩ := h.c4 e
  rw [h1]
  intro he
  injection he with he
  injection he with he
  subst he
  simp at h3
theorem JI.s4 {w : World} {T : TypeId} {tp : Int} {l0 l1 l2 l3 l5 l6 l7 l8 : Bool} {t5 t6 t7 t8 t9 t10 t11 t12 : Value} {wc : World} (h : JI w T tp l0 l1 l2 l3 false l5 l6 l7 l8 t5 t6 t7 t8 t9 t10 t11 t12 wc) : JI w T tp l0 l1 l2 l3 true l5 l6 l7 l8 t5 t6 t7 t8 t9 (.map (some wc.heap.size)) t11 t12 (wc.alloc (.map #[] 0)) := by
  obtain ⟨rfl, rfl⟩ := h.no6 (.inr (.inr (.inl rfl)))
  have hk : Keeps (fun _ => False) wc (wc.alloc (.map #[] 0)) := (Keeps.refl _ _).alloc _
  have h' := h.still hk
  refine ⟨h'.c0, h'.c1, h'.c2, h'.c3, fun _ => ⟨_, rfl, h.k.size, blkNew rfl⟩, fun e _ => ?_, h'.c5, fun e => (by cases e), fun e => (by simpa using h'.c7 e), fun e => (by cases e), fun e => (by cases e), h'.k⟩
  obtain ⟨b, h1, _, h3⟩ := h.c3 e
  rw [h1]
  intro he
  injection he with he
  injection he with he
  subst he
  simp at h3
theorem JI.s5 {w : World} {T : TypeId} {tp : Int} {l0 l1 l2 l3 l4 l6 l7 l8 : Bool} {t5 t6 t7 t8 t9 t10 t11 t12 : Value} {wc wd : World} {g : Nat} (h : JI w T tp l0 l1 l2 l3 l4 false l6 l7 l8 t5 t6 t7 t8 t9 t10 t11 t12 wc) (hk : Keeps (fun _ => False) wc wd) (hg : wc.heap.size ≤ g) (ho : wd.heap[g]? = some (.cells howT 143 (0, 0))) : JI w T tp l0 l1 l2 l3 l4 true l6 l7 l8 t5 t6 t7 t8 t9 t10 (.pointer (some ⟨g, 0, none⟩)) t12 wd := by
  obtain ⟨rfl, rfl⟩ := h.no6 (.inr (.inr (.inr rfl)))
  have h' := h.still hk
  exact ⟨h'.c0, h'.c1, h'.c2, h'.c3, h'.c4, h'.cd, fun _ => ⟨g, rfl, Nat.le_trans h.k.size hg, ho⟩, fun e => (by cases e), fun e => (by simpa using h'.c7 e), fun e => (by cases e), fun e => (by cases e), h'.k⟩
theorem JI.s6 {w : World} {T : TypeId} {tp : Int} {l0 l1 l7 l8 : Bool} {t5 t6 t7 t8 t9 t10 t11 t12 : Value} {wc : World} (h : JI w T tp l0 l1 true true true true false l7 l8 t5 t6 t7 t8 t9 t10 t11 t12 wc) : JI w T tp l0 l1 true true true true true l7 l8 t5 t6 t7 t8 t9 t10 t11 (.agg #[t8, t9, t10, t11]) wc :=
  ⟨h.c0, h.c1, h.c2, h.c3, h.c4, h.cd, h.c5, fun _ => rfl, h.c7, fun _ => ⟨rfl, rfl, rfl, rfl⟩, fun e => ⟨rfl, (h.c10 e).2⟩, h.k⟩
theorem JI.s7 {w : World} {T : TypeId} {tp : Int} {l0 l1 l2 l3 l4 l5 l6 l8 : Bool} {t5 t6 t7 t8 t9 t10 t11 t12 : Value} {wc : World} (h : JI w T tp l0 l1 l2 l3 l4 l5 l6 false l8 t5 t6 t7 t8 t9 t10 t11 t12 wc) : JI w T tp l0 l1 l2 l3 l4 l5 l6 true l8 (.pointer (some ⟨wc.heap.size, 0, none⟩)) t6 t7 t8 t9 t10 t11 t12 (wc.alloc (.cells #[.nilIface, .map none, .map none, .pointer none] 101 (0, 0))) := by
  have h8 : l8 = false := by
    cases l8 with
    | false => rfl
    | true => exact absurd (h.c10 rfl).2 (by simp)
  subst h8
  have hk : Keeps (fun _ => False) wc (wc.alloc (.cells #[.nilIface, .map none, .map none, .pointer none] 101 (0, 0))) := (Keeps.refl _ _).alloc _
  have h' := h.still hk
  exact ⟨h'.c0, h'.c1, h'.c2, h'.c3, h'.c4, h'.cd, h'.c5, h'.c6, fun _ => ⟨_, rfl, h.k.size, by simpa using blkNew rfl⟩, h'.c9, fun e => (by cases e), h'.k⟩
theorem JI.s8 {w : World} {T : TypeId} {tp : Int} {l0 l1 : Bool} {t6 t7 t12 : Value} {b1 b2 g t : Nat} {wc : World} (h : JI w T tp l0 l1 true true true true true true false (.pointer (some ⟨t, 0, none⟩)) t6 t7 (.iface T (.agg #[])) (.map (some b1)) (.map (some b2)) (.pointer (some ⟨g, 0, none⟩)) t12 wc) :
    JI w T tp l0 l1 true true true true true true true (.pointer (some ⟨t, 0, none⟩)) t6 t7 (.iface T (.agg #[])) (.map (some b1)) (.map (some b2)) (.pointer (some ⟨g, 0, none⟩)) t12 ((((wc.setCell ⟨t, 0, none⟩ (.iface T (.agg #[]))).setCell ⟨t, 1, none⟩ (.map (some b1))).setCell ⟨t, 2, none⟩ (.map (some b2))).setCell ⟨t, 3, none⟩ (.pointer (some ⟨g, 0, none⟩))) := by
  obtain ⟨_, e1, n1, m1⟩ := h.c3 rfl
  obtain ⟨_, e2, n2, m2⟩ := h.c4 rfl
  obtain ⟨_, e3, n3, o⟩ := h.c5 rfl
  obtain ⟨_, e4, n4, ht⟩ := h.c7 rfl
  injection e1 with e1; injection e1 with e1; subst e1
  injection e2 with e2; injection e2 with e2; subst e2
  injection e3 with e3; injection e3 with e3; injection e3 with e3; subst e3
  injection e4 with e4; injection e4 with e4; injection e4 with e4; subst e4
  have hd := h.cd rfl rfl
  have hd' : b1 < b2 ∨ b2 < b1 := by
    have : b1 ≠ b2 := fun e => hd (by rw [e])
    omega
  have hj := JNew.of (T := T) (b1 := b1) (b2 := b2) (g := g) (t := t) (w := w) (W := wc) (by simpa using ht) m1 m2 o n1 n2 n3 n4 hd' h.k
  exact ⟨h.c0, h.c1, h.c2, fun _ => ⟨_, rfl, n1, hj.m1⟩, fun _ => ⟨_, rfl, n2, hj.m2⟩, h.cd, fun _ => ⟨_, rfl, n3, hj.o⟩, h.c6, fun _ => ⟨_, rfl, n4, by simpa using hj.h⟩, h.c9, fun _ => ⟨rfl, rfl⟩, hj.k⟩
def topI (top : Bool) : Int := if top then 1 else 0
theorem idxT (top : Bool) (w : World) : (Instr.index 126 (.agg #[outV false, outV true]) (.int .i64 (topI top))).run Tryz.prog w = .ok (outV top) w := by cases top <;> kernel_rfl
theorem mkMap (w : World) : (Instr.makeMap 98 none).run Tryz.prog w = .ok (.map (some w.heap.size)) (w.alloc (.map #[] 0)) := by kernel_rfl
set_option maxRecDepth 100000 in
set_option maxHeartbeats 40000000 in
theorem judgeOf_calls (top : Bool) (X Y : List Int) (A B : Option Addr) (c d : Nat) (ok : Nat → Prop) (w : World) (hs : SigR ok w X Y A B) (hok : ∀ k, ok k → k < w.heap.size) (hX : X.length ≤ 1000000) (hY : Y.length ≤ 1000000) :
    Calls Tryz.prog 45 #[.agg #[.slice A X.length c, .slice B Y.length d], .int .i64 (topI top)] w fun e w' =>
      ∃ b1 b2 g, e = .returned (JV top b1 b2 g) ∧ JudgeR w' X Y b1 b2 g ∧ w.heap.size ≤ b1 ∧ w.heap.size ≤ b2 ∧ w.heap.size ≤ g ∧ b1 ≠ b2 ∧ Keeps (fun _ => False) w w' := by
  have HS := Lib.hid hs
  clear hs
  obtain ⟨T, hT⟩ : ∃ T, outV top = .iface T (.agg #[]) := by cases top <;> exact ⟨_, rfl⟩
  have HT := Lib.hid hT
  go_enter Tryz.func45, Tryz.ntmps45
  go_upto_region 1 with fail
  generalize hW0 : World.alloc _ _ = W0
  have hK0 : Keeps (fun _ => False) w W0 := by rw [← hW0]; repeat (first | exact Keeps.refl _ _ | refine Keeps.drewN ?_ _ | refine Keeps.drew ?_ | refine Keeps.alloc ?_ _ | refine Keeps.set ?_ (Or.inl (by rfl)) _)
  have hb1 : W0.heap[w.heap.size]? = some (.cells #[.slice A X.length c, .slice B Y.length d] 33 (0, 0)) := by rw [← hW0]; exact blkAlloc (blkNew rfl) _
  have hb2 : W0.heap[w.heap.size + 1]? = some (.cells #[.nilIface, .map none, .map none, .pointer none] 101 (0, 0)) := by rw [← hW0]; exact blkNew (by simp)
  clear hW0
  have HK0 := Lib.hid hK0
  have HB1 := Lib.hid hb1
  have HB2 := Lib.hid hb2
  clear hK0 hb1 hb2
  go_cut [5] from 5 (fun v wc => ∃ t b1 b2 g, v = .pointer (some ⟨t, 0, none⟩) ∧ JNew W0 T t b1 b2 g wc)
  case first =>
    have i0 := idxT top
    rw [hT] at i0
    have i2 := mkMap
    refine wp_region_inv (fun L a wc => ∃ (l0 l1 l2 l3 l4 l5 l6 l7 l8 : Bool) (t5 t6 t7 t8 t9 t10 t11 t12 : Value), L = #[l0, l1, l2, l3, l4, l5, l6, l7, l8] ∧
      a = ⟨#[.agg #[.slice A X.length c, .slice B Y.length d], .int .i64 (topI top), .pointer (some ⟨w.heap.size, 0, none⟩), undef, .pointer (some ⟨w.heap.size + 1, 0, none⟩), t5, t6, t7, t8, t9, t10, t11, t12, undef, undef, undef, undef], []⟩ ∧
      JI W0 T (topI top) l0 l1 l2 l3 l4 l5 l6 l7 l8 t5 t6 t7 t8 t9 t10 t11 t12 wc) (fun L => L.toList.count false) _ _ (by kernel_rfl) ?i0 (by decide) ?ie ?iz ?il ?is
    case i0 =>
      exact ⟨false, false, false, false, false, false, false, false, false, undef, undef, undef, undef, undef, undef, undef, undef, rfl, rfl, by simp, by simp, by simp, by simp, by simp, by simp, by simp, by simp, by simp, by simp, by simp, (Keeps.refl _ _).drew⟩
    case ie =>
      rintro L a wc ⟨l0, l1, l2, l3, l4, l5, l6, l7, l8, t5, t6, t7, t8, t9, t10, t11, t12, rfl, rfl, hI⟩ hr
      have hall : (l0 && (l1 && (l2 && (l3 && (l4 && (l5 && (l6 && (l7 && l8)))))))) = true := by
        clear hI
        revert hr
        revert l0 l1 l2 l3 l4 l5 l6 l7 l8
        decide +kernel
      simp only [Bool.and_eq_true] at hall
      obtain ⟨rfl, rfl, rfl, rfl, rfl, rfl, rfl, rfl, rfl⟩ := hall
      obtain ⟨b1, rfl, n1, m1⟩ := hI.c3 rfl
      obtain ⟨b2, rfl, n2, m2⟩ := hI.c4 rfl
      obtain ⟨g, rfl, n3, ho⟩ := hI.c5 rfl
      obtain ⟨t, rfl, n4, ht⟩ := hI.c7 rfl
      have e8 := hI.c2 rfl
      subst e8
      have hd : b1 < b2 ∨ b2 < b1 := by
        have h := hI.cd rfl rfl
        have : b1 ≠ b2 := fun e => h (by rw [e])
        omega
      have HN : Hid (JNew W0 T t b1 b2 g wc) := ⟨by simpa using ht, m1, m2, ho, n1, n2, n3, n4, hd, hI.k⟩
      clear hI hr hd ht ho m1 m2 n1 n2 n3 n4
      go_wp2_with fail
      go_meet
      exact ⟨t, b1, b2, g, rfl, HN.out⟩
    case iz =>
      rintro L a wc ⟨l0, l1, l2, l3, l4, l5, l6, l7, l8, t5, t6, t7, t8, t9, t10, t11, t12, rfl, -, -⟩
      revert l0 l1 l2 l3 l4 l5 l6 l7 l8
      decide +kernel
    case il =>
      rintro L a wc i ⟨l0, l1, l2, l3, l4, l5, l6, l7, l8, t5, t6, t7, t8, t9, t10, t11, t12, rfl, -, -⟩
      revert i
      revert l0 l1 l2 l3 l4 l5 l6 l7 l8
      decide +kernel
    case is =>
      rintro L a wc i ⟨l0, l1, l2, l3, l4, l5, l6, l7, l8, t5, t6, t7, t8, t9, t10, t11, t12, rfl, rfl, hI⟩ hi K hK
      have hi9 : i < 9 := List.mem_range.1 (List.mem_filter.1 hi).1
      have hor : i = 0 ∨ i = 1 ∨ i = 2 ∨ i = 3 ∨ i = 4 ∨ i = 5 ∨ i = 6 ∨ i = 7 ∨ i = 8 := by omega
      clear hi9
      rcases hor with rfl | rfl | rfl | rfl | rfl | rfl | rfl | rfl | rfl
      · have hb : l0 = false := by
          clear hI hK
          revert hi
          revert l0 l1 l2 l3 l4 l5 l6 l7 l8
          decide +kernel
        obtain rfl := hb
        clear hi
        refine wpOp_step rfl (fun K' hK' => ?_)
        refine step_call rfl 71 #[] (by kernel_rfl) ((kinds_calls _).mono ?_)
        rintro e w1 ⟨rfl, hk1⟩
        exact ⟨_, rfl, hK' _ _ (hK _ _ ⟨_, _, _, _, _, _, _, _, _, _, _, _, _, _, _, _, _, rfl, rfl, (hI.still hk1).s0⟩)⟩
      · have hb : l1 = false := by
          clear hI hK
          revert hi
          revert l0 l1 l2 l3 l4 l5 l6 l7 l8
          decide +kernel
        obtain rfl := hb
        clear hi
        refine wpOp_step rfl (fun K' hK' => ?_)
        go_simp
        exact hK' _ _ (hK _ _ ⟨_, _, _, _, _, _, _, _, _, _, _, _, _, _, _, _, _, rfl, rfl, hI.s1⟩)
      · have hb : l2 = false ∧ l0 = true ∧ l1 = true := by
          clear hI hK
          revert hi
          revert l0 l1 l2 l3 l4 l5 l6 l7 l8
          decide +kernel
        obtain ⟨rfl, rfl, rfl⟩ := hb
        clear hi
        have e6 := hI.c0 rfl
        have e7 := hI.c1 rfl
        subst e6 e7
        refine wpOp_step rfl (fun K' hK' => ?_)
        go_simp
        exact hK' _ _ (hK _ _ ⟨_, _, _, _, _, _, _, _, _, _, _, _, _, _, _, _, _, rfl, rfl, hI.s2⟩)
      · have hb : l3 = false := by
          clear hI hK
          revert hi
          revert l0 l1 l2 l3 l4 l5 l6 l7 l8
          decide +kernel
        obtain rfl := hb
        clear hi
        refine wpOp_step rfl (fun K' hK' => ?_)
        go_simp
        exact hK' _ _ (hK _ _ ⟨_, _, _, _, _, _, _, _, _, _, _, _, _, _, _, _, _, rfl, rfl, hI.s3⟩)
      · have hb : l4 = false := by
          clear hI hK
          revert hi
          revert l0 l1 l2 l3 l4 l5 l6 l7 l8
          decide +kernel
        obtain rfl := hb
        clear hi
        refine wpOp_step rfl (fun K' hK' => ?_)
        go_simp
        exact hK' _ _ (hK _ _ ⟨_, _, _, _, _, _, _, _, _, _, _, _, _, _, _, _, _, rfl, rfl, hI.s4⟩)
      · have hb : l5 = false ∧ l0 = true := by
          clear hI hK
          revert hi
          revert l0 l1 l2 l3 l4 l5 l6 l7 l8
          decide +kernel
        obtain ⟨rfl, rfl⟩ := hb
        clear hi
        refine wpOp_step rfl (fun K' hK' => ?_)
        refine step_call rfl 72 #[] (by kernel_rfl) ((operators_calls _).mono ?_)
        rintro e w1 ⟨rfl, ho1, hk1⟩
        exact ⟨_, rfl, hK' _ _ (hK _ _ ⟨_, _, _, _, _, _, _, _, _, _, _, _, _, _, _, _, _, rfl, rfl, hI.s5 hk1 (Nat.le_refl _) ho1⟩)⟩
      · have hb : l6 = false ∧ l2 = true ∧ l3 = true ∧ l4 = true ∧ l5 = true := by
          clear hI hK
          revert hi
          revert l0 l1 l2 l3 l4 l5 l6 l7 l8
          decide +kernel
        obtain ⟨rfl, rfl, rfl, rfl, rfl⟩ := hb
        clear hi
        obtain ⟨b1, rfl, -, -⟩ := hI.c3 rfl
        obtain ⟨b2, rfl, -, -⟩ := hI.c4 rfl
        obtain ⟨g, rfl, -, -⟩ := hI.c5 rfl
        have e8 := hI.c2 rfl
        subst e8
        refine wpOp_step rfl (fun K' hK' => ?_)
        go_simp
        exact hK' _ _ (hK _ _ ⟨_, _, _, _, _, _, _, _, _, _, _, _, _, _, _, _, _, rfl, rfl, hI.s6⟩)
      · have hb : l7 = false := by
          clear hI hK
          revert hi
          revert l0 l1 l2 l3 l4 l5 l6 l7 l8
          decide +kernel
        obtain rfl := hb
        clear hi
        refine wpOp_step rfl (fun K' hK' => ?_)
        go_simp
        exact hK' _ _ (hK _ _ ⟨_, _, _, _, _, _, _, _, _, _, _, _, _, _, _, _, _, rfl, rfl, hI.s7⟩)
      · have hb : (!l8 && (l2 && (l3 && (l4 && (l5 && (l6 && l7)))))) = true := by
          clear hI hK
          revert hi
          revert l0 l1 l2 l3 l4 l5 l6 l7 l8
          decide +kernel
        simp only [Bool.and_eq_true, Bool.not_eq_true'] at hb
        obtain ⟨rfl, rfl, rfl, rfl, rfl, rfl, rfl⟩ := hb
        clear hi
        obtain ⟨b1, rfl, -, -⟩ := hI.c3 rfl
        obtain ⟨b2, rfl, -, -⟩ := hI.c4 rfl
        obtain ⟨g, rfl, -, -⟩ := hI.c5 rfl
        obtain ⟨t, rfl, -, ht⟩ := hI.c7 rfl
        have e8 := hI.c2 rfl
        subst e8
        have e12 := hI.c6 rfl
        subst e12
        rw [if_neg (by decide)] at ht
        obtain ⟨x0, x1, x2, x3⟩ := cells4 ht
        have f0 := blkFree ht 0
        have f1 := blkFree ht 1
        have f2 := blkFree ht 2
        have f3 := blkFree ht 3
        have hl := blkLt ht
        clear ht
        refine wpOp_step rfl (fun K' hK' => ?_)
        go_simp
        exact hK' _ _ (hK _ _ ⟨_, _, _, _, _, _, _, _, _, _, _, _, _, _, _, _, _, rfl, rfl, hI.s8⟩)
  case rest =>
    obtain ⟨t, b1, b2, g, rfl, hJ⟩ := hcut
    have HJ := Lib.hid hJ
    have hs2 := hJ.k.size
    have hl1 := blkLt HB1.out
    have hl2 := blkLt HB2.out
    have ht := hJ.n4
    have htl := blkLt hJ.h
    have n1 := hJ.n1
    have n2 := hJ.n2
    have n3 := hJ.n3
    obtain ⟨x0, x1, x2, x3⟩ := cells4 hJ.h
    obtain ⟨y0, y1⟩ := cells2 (hJ.k.blk HB1.out (fun h => h))
    have HC1 := Lib.hid (hJ.k.blk HB2.out (fun h => h))
    clear hJ
    have HK1 := Lib.hid (HK0.out.then_ HJ.out.k)
    have HKN : Hid (Calls Tryz.prog 67 #[.agg #[.iface T (.agg #[]), .map (some b1), .map (some b2), .pointer (some ⟨g, 0, none⟩)], .agg #[.slice A X.length c, .slice B Y.length d]] wc _) :=
      know_calls (.iface T (.agg #[])) b1 b2 g [] [] X Y A B c d (fun k => ok k ∧ k < w.heap.size) wc (MapS.new HJ.out.m1) (MapS.new HJ.out.m2) (by have := HJ.out.d; omega) ((⟨HS.out.c.mono (fun k hk => ⟨hk, hok k hk⟩), HS.out.r.mono (fun k hk => ⟨hk, hok k hk⟩)⟩ : SigR _ w X Y A B).keep HK1.out (fun _ _ h => h)) (fun k hk => by have := hk.2; have := HK0.out.size; omega) hX hY
    go_wp2_with (go_at_call 67; refine HKN.out.mono ?_; rintro e w2 ⟨⟨v, rfl⟩, hm1, hm2, hk2⟩; have hne1 : t ≠ b1 := (by rintro rfl; have h1 := HJ.out.h; rw [HJ.out.m1] at h1; cases h1); have hne2 : t ≠ b2 := (by rintro rfl; have h1 := HJ.out.h; rw [HJ.out.m2] at h1; cases h1); have hbt := hk2.blk HJ.out.h (by omega); obtain ⟨z0, z1, z2, z3⟩ := cells4 hbt; have hbt2 := hk2.blk HC1.out (by omega); obtain ⟨r0, r1, r2, r3⟩ := cells4 hbt2; have f0 := blkFree hbt2 0; have f1 := blkFree hbt2 1; have f2 := blkFree hbt2 2; have f3 := blkFree hbt2 3; have HT2 := Lib.hid hbt2; have HM1 := Lib.hid hm1; have HM2 := Lib.hid hm2; have HK2 := Lib.hid hk2; have htl2 := blkLt hbt2; clear hm1 hm2 hk2 hbt hbt2 x0 x1 x2 x3 y0 y1)
    generalize hW3 : World.setCell _ _ _ = W3
    have hk3 : Keeps (fun i => i = w.heap.size + 1) w2 W3 := by rw [← hW3]; repeat (first | exact Keeps.refl _ _ | refine Keeps.drewN ?_ _ | refine Keeps.drew ?_ | refine Keeps.alloc ?_ _ | refine Keeps.set ?_ (Or.inl (by rfl)) _)
    have hb3 : W3.heap[w.heap.size + 1]? = some (.cells #[.iface T (.agg #[]), .map (some b1), .map (some b2), .pointer (some ⟨g, 0, none⟩)] 101 (0, 0)) := by rw [← hW3]; simpa using blkSet (blkSet (blkSet (blkSet HT2.out 0 (.iface T (.agg #[]))) 1 (.map (some b1))) 2 (.map (some b2))) 3 (.pointer (some ⟨g, 0, none⟩))
    clear hW3 z0 z1 z2 z3
    obtain ⟨z0, z1, z2, z3⟩ := cells4 hb3
    have hne3 : g ≠ b1 := (by rintro rfl; have h1 := HJ.out.o; rw [HJ.out.m1] at h1; cases h1)
    have hne4 : g ≠ b2 := (by rintro rfl; have h1 := HJ.out.o; rw [HJ.out.m2] at h1; cases h1)
    have hd := HJ.out.d
    have q1 := HM1.out.keep hk3 (by omega)
    have q2 := HM2.out.keep hk3 (by omega)
    rw [List.nil_append] at q1 q2
    have hs0 := HK0.out.size
    refine bodyPost_ret (v := .agg #[.iface T (.agg #[]), .map (some b1), .map (some b2), .pointer (some ⟨g, 0, none⟩)]) (by simp [results, Tryz.results45, go_sem, z0, z1, z2, z3]) rfl ?_
    unfold JV
    rw [HT.out]
    exact ⟨b1, b2, g, rfl, ⟨q1, q2, hk3.blk (HK2.out.blk HJ.out.o (by omega)) (by omega)⟩, by omega, by omega, by omega, by omega, ((HK1.out.trans HK2.out (fun i hi => .inr (by omega))).trans hk3 (fun i hi => .inr (by omega)))⟩
end Go.Proofs.YthiclhbnggehoaaGreatDoor
