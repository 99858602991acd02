/- The fixed knowledge base of isagogelaw05.awake: what the program's functions answer there. -/
import Derived.Test.YtknonaboaaiabaaGreatDoorHTrue
import Derived.Test.YtknonaboaaiabaaGreatDoorR2
import Derived.Test.YtknonaboaaiabaaGreatDoorRoles
import Derived.Deep.RegionHeld3
namespace Go.Proofs.YtknonaboaaiabaaGreatDoor
open Go.RowKit
set_option linter.unusedVariables false
set_option linter.unusedSimpArgs false
def kb0 : Kb := { cs := [⟨#[65]⟩, ⟨#[66]⟩], rs := [⟨#[114]⟩, ⟨#[115]⟩], is := [], incls := [(⟨0, 0, []⟩, ⟨7, 0, [⟨0, 1, []⟩]⟩)], roles := [(0, 3)], facts := [], links := [] }
theorem kb0_valid : kbValidB kb0 = true := by decide +kernel
theorem reach_kb0 {r s : Nat} (h : Reach (edgeN kb0.roles) r s) : (r = 0 ∨ r = 3) → (s = 0 ∨ s = 3) := by
  induction h with
  | refl => exact fun h => h
  | @step r m s e _ ih =>
    intro hr
    refine ih ?_
    obtain ⟨p, hp, h1⟩ := e
    simp only [kb0, List.mem_singleton] at hp
    subst hp
    rcases h1 with ⟨h1, h2⟩ | ⟨h1, h2⟩
    · right; dsimp only at h2; omega
    · have e1 : inv (Int.toNat 0) = 1 := by decide
      dsimp only at h1
      rw [e1] at h1
      omega
theorem below0 : belowE kb0 0 3 = (true, 0) := by
  have : belowB kb0 0 3 = true := by
    unfold belowB; refine @decide_eq_true _ (_) ?_
    exact Reach.one ⟨(0, 3), by simp [kb0], .inl ⟨rfl, rfl⟩⟩
  unfold belowE; rw [kb0_valid, this]; rfl
theorem below1 : belowE kb0 1 2 = (true, 0) := by
  have : belowB kb0 1 2 = true := by
    unfold belowB; refine @decide_eq_true _ (_) ?_
    exact Reach.one ⟨(0, 3), by simp [kb0], .inr ⟨by decide, by decide⟩⟩
  unfold belowE; rw [kb0_valid, this]; rfl
theorem below2 : belowE kb0 0 2 = (false, 0) := by
  have : belowB kb0 0 2 = false := by
    unfold belowB; refine @decide_eq_false _ (_) ?_
    intro h; have := reach_kb0 h (.inl rfl); simp at this
  unfold belowE; rw [kb0_valid, this]; rfl
theorem below3 : belowE kb0 0 4 = (false, 1) := by
  unfold belowE; rw [kb0_valid]; rfl
theorem s01 : sortZ [0, 1] = [0, 1] := by
  unfold sortZ
  exact List.mergeSort_of_pairwise (by decide)
def all0 : List Con := [⟨5, 0, [⟨3, 0, [⟨0, 0, []⟩]⟩, ⟨7, 0, [⟨0, 1, []⟩]⟩]⟩]
def ms0 : List Con := [⟨0, 0, []⟩, ⟨0, 1, []⟩, ⟨6, 0, [⟨3, 0, [⟨0, 1, []⟩]⟩]⟩]
theorem all0_eq : allC kb0 [] = all0 := by kernel_rfl
theorem names0_eq : (namesC all0).map (·.1) = [0, 1] := by kernel_rfl
theorem nameM0 : nameM kb0.cs kb0.rs all0 = [⟨0, 0, []⟩, ⟨0, 1, []⟩] := by
  unfold nameM; rw [names0_eq, s01]; kernel_rfl
theorem marksC0 : marksC kb0 [] = ms0 := by
  unfold marksC marksL; rw [all0_eq, nameM0]; kernel_rfl
theorem fine0 : fineE (kbValidB kb0) kb0.cs.length kb0.rs.length [] = 0 := by rw [kb0_valid]; rfl
theorem open0 : openE kb0 [] = 0 := by
  unfold openE; rw [marksC0, fine0]; rfl
theorem marks0 : marksE kb0 [] = (ms0, 0) := by
  unfold marksE; rw [open0, marksC0]; kernel_rfl
theorem truth0 : truthE kb0 [] 4 ⟨7, 0, [⟨0, 1, []⟩]⟩ = (false, 0) := by
  unfold truthE
  rw [open0, marksC0, kb0_valid]
  kernel_rfl
theorem same0 : sameC ⟨6, 0, [⟨3, 0, [⟨0, 1, []⟩]⟩]⟩ ⟨6, 0, [⟨3, 0, [⟨0, 1, []⟩]⟩]⟩ = true := by decide +kernel
end Go.Proofs.YtknonaboaaiabaaGreatDoor
/- What the walk of isagogelaw05.awake stands on. -/
namespace Go.Proofs.YtknonaboaaiabaaGreatDoor
open Go.RowKit
set_option linter.unusedVariables false
set_option linter.unusedSimpArgs false
abbrev Hold3 (w : World) (g1 g2 : Nat) (a b c : Value) : Prop :=
  w.cell? ⟨g1, 0, none⟩ = some a ∧ w.cell? ⟨g1, 1, none⟩ = some b ∧ w.cell? ⟨g1, 2, none⟩ = some c ∧ w.cell? ⟨g2, 3, none⟩ = some (cellAt w g2 3) ∧ w.frozen? ⟨g2, 3, none⟩ = false
theorem hold3 {w : World} {g1 g2 : Nat} {t1 t2 : TypeId} {a b c v0 v1 v2 v3 v4 v5 v6 : Value} (h1 : w.heap[g1]? = some (.cells #[a, b, c] t1 (0, 0))) (h2 : w.heap[g2]? = some (.cells #[v0, v1, v2, v3, v4, v5, v6] t2 (0, 0))) : Hold3 w g1 g2 a b c := by
  obtain ⟨x0, x1, x2⟩ := cells3 h1
  obtain ⟨y0, y1, y2, y3, y4, y5, y6⟩ := cells7 h2
  exact ⟨x0, x1, x2, cellAt_eq y3, blkFree h2 3⟩
theorem hold3a {w : World} {g1 g2 : Nat} {t1 t2 : TypeId} {a b c v0 v1 v2 v3 v4 v5 v6 : Value} (o : Obj) (h1 : w.heap[g1]? = some (.cells #[a, b, c] t1 (0, 0))) (h2 : w.heap[g2]? = some (.cells #[v0, v1, v2, v3, v4, v5, v6] t2 (0, 0))) : Hold3 (w.alloc o) g1 g2 a b c :=
  hold3 (blkAlloc h1 o) (blkAlloc h2 o)
theorem hold3s {w : World} {g1 g2 : Nat} {t1 t2 : TypeId} {a b c v0 v1 v2 v3 v4 v5 v6 : Value} (o : Obj) (z : Value) (h1 : w.heap[g1]? = some (.cells #[a, b, c] t1 (0, 0))) (h2 : w.heap[g2]? = some (.cells #[v0, v1, v2, v3, v4, v5, v6] t2 (0, 0))) (hn : g1 ≠ g2) :
    Hold3 ((w.alloc o).setCell ⟨g2, 3, none⟩ z) g1 g2 a b c :=
  hold3 (((Keeps.refl (fun i => i = g2) (w.alloc o)).set (g := g2) (Or.inl rfl) z).blk (blkAlloc h1 o) hn) (blkSet (blkAlloc h2 o) 3 _)
/-- What the walk of awake knows of its base: its box at gd, its arrays, the tables. -/
structure Awk (W : World) (gb gc gd gI gA gR : Nat) (m : Int) : Prop where
  box : W.heap[gd]? = some (.cells #[.slice (some ⟨gb, 0, none⟩) 2 2, .slice (some ⟨gc, 0, none⟩) 2 2, .slice none 0 0, .slice (some ⟨gI, 0, none⟩) 1 1, .slice (some ⟨gR, 0, none⟩) 1 1, .slice none 0 0, .slice none 0 0] 30 (0, 0))
  n1 : W.heap[gb]? = some (.cells #[.string ⟨#[65]⟩, .string ⟨#[66]⟩] 9 (0, 0))
  n2 : W.heap[gc]? = some (.cells #[.string ⟨#[114]⟩, .string ⟨#[115]⟩] 9 (0, 0))
  inc : W.heap[gI]? = some (.cells #[.int .i64 0, .int .i64 0, .slice none 0 0, .int .i64 7, .int .i64 0, .slice (some ⟨gA, 0, none⟩) 1 1] 134 (0, 0))
  arg : W.heap[gA]? = some (.cells #[.int .i64 0, .int .i64 1, .slice none 0 0] 94 (0, 0))
  rol : W.heap[gR]? = some (.cells #[.int .i64 0, .int .i64 3] 139 (0, 0))
  max : W.cell? ⟨2, 0, none⟩ = some (.int .i64 m)
  args : ArgsTab W
  duals : DualsTab W
theorem Awk.keep {W W' : World} {gb gc gd gI gA gR : Nat} {m : Int} (h : Awk W gb gc gd gI gA gR m) (hk : Keeps (fun _ => False) W W') : Awk W' gb gc gd gI gA gR m :=
  ⟨hk.blk h.box (fun h => h), hk.blk h.n1 (fun h => h), hk.blk h.n2 (fun h => h), hk.blk h.inc (fun h => h), hk.blk h.arg (fun h => h), hk.blk h.rol (fun h => h), hk.cell h.max (fun h => h), h.args.keep hk (fun h => h), h.duals.keep hk (fun h => h)⟩
theorem Awk.conA {W : World} {gb gc gd gI gA gR : Nat} {m : Int} (h : Awk W gb gc gd gI gA gR m) : ConR (fun _ => True) W ⟨7, 0, [⟨0, 1, []⟩]⟩ [.int .i64 7, .int .i64 0, .slice (some ⟨gA, 0, none⟩) 1 1] := by
  obtain ⟨x0, x1, x2⟩ := cells3 h.arg
  simp only [ConR, ConsR]
  exact ⟨_, 1, rfl, Nat.le_refl _, fun _ => ⟨gA, 0, rfl, trivial, ⟨_, _, _, x0, x1, x2, none, 0, rfl, Nat.le_refl _, fun h => absurd rfl h⟩, fun hn => absurd trivial hn⟩⟩
theorem Awk.kb {W : World} {gb gc gd gI gA gR : Nat} {m : Int} (h : Awk W gb gc gd gI gA gR m) : KbR (fun _ => True) W kb0 ⟨some ⟨gb, 0, none⟩, some ⟨gc, 0, none⟩, none, some ⟨gI, 0, none⟩, some ⟨gR, 0, none⟩, none, none, 2, 2, 0, 1, 1, 0, 0⟩ := by
  obtain ⟨n0, n1⟩ := cells2 h.n1
  obtain ⟨m0, m1⟩ := cells2 h.n2
  obtain ⟨r0, r1⟩ := cells2 h.rol
  obtain ⟨i0, i1, i2, i3, i4, i5⟩ := cells6 h.inc
  exact
  { cs := fun _ => ⟨gb, 0, rfl, trivial, fun i hi => by
      match i, hi with
      | 0, _ => exact n0
      | 1, _ => exact n1
      | i + 2, hi => exact absurd hi (by simp [kb0])⟩
    rs := fun _ => ⟨gc, 0, rfl, trivial, fun i hi => by
      match i, hi with
      | 0, _ => exact m0
      | 1, _ => exact m1
      | i + 2, hi => exact absurd hi (by simp [kb0])⟩
    is := fun h => absurd rfl h
    incls := fun _ => ⟨gI, 0, rfl, trivial, fun i hi => by
      match i, hi with
      | 0, _ => exact ⟨_, _, _, _, i0, i1, i2, i3, i4, i5, by simp only [kb0, List.getElem_cons_zero, Con.op, Con.n, Con.args, ConR]; exact ⟨none, 0, rfl, Nat.le_refl _, fun h => absurd rfl h⟩, h.conA⟩
      | i + 1, hi => simp [kb0] at hi⟩
    roles := fun _ => ⟨gR, 0, rfl, trivial, fun i hi => by
      match i, hi with
      | 0, _ => exact ⟨r0, r1⟩
      | i + 1, hi => simp [kb0] at hi⟩
    facts := fun h => absurd rfl h
    links := fun h => absurd rfl h
    l0 := by simp [kb0]
    l1 := by simp [kb0]
    l2 := by simp [kb0]
    l3 := by simp [kb0]
    l4 := by simp [kb0]
    l5 := by simp [kb0]
    l6 := by simp [kb0]
    strs := fun s hs => by
      simp only [kb0, List.mem_append, List.mem_cons, List.not_mem_nil, or_false] at hs
      rcases hs with (rfl | rfl) | (rfl | rfl) <;> simp [maxLen, ByteArray.size]
    rng := fun x hx => by simp [kb0] at hx }
theorem below_kb0 {W : World} {gb gc gd gI gA gR : Nat} {m : Int} (h : Awk W gb gc gd gI gA gR m) (r s : Int) (v : Bool) (x : Int) (hv : belowE kb0 r s = (v, x)) :
    Calls Tryz.prog 24 #[.agg #[.slice (some ⟨gb, 0, none⟩) 2 2, .slice (some ⟨gc, 0, none⟩) 2 2, .slice none 0 0, .slice (some ⟨gI, 0, none⟩) 1 1, .slice (some ⟨gR, 0, none⟩) 1 1, .slice none 0 0, .slice none 0 0], .int .i64 r, .int .i64 s] W fun e w' => e = .returned (.tuple #[.bool v, .int .i64 x]) ∧ Keeps (fun _ => False) W w' := by
  have h1 := below_calls kb0 _ r s _ W m h.max h.args h.kb (by simp [kb0]) (by simp [kb0]) (by simp [kb0]) (by simp [kb0]) (by simp [kb0])
  rw [hv] at h1
  exact h1
theorem marks_kb0 {W : World} {gb gc gd gI gA gR : Nat} {m : Int} (h : Awk W gb gc gd gI gA gR m) :
    Calls Tryz.prog 72 #[.agg #[.slice (some ⟨gb, 0, none⟩) 2 2, .slice (some ⟨gc, 0, none⟩) 2 2, .slice none 0 0, .slice (some ⟨gI, 0, none⟩) 1 1, .slice (some ⟨gR, 0, none⟩) 1 1, .slice none 0 0, .slice none 0 0], .slice none 0 0] W (RetMarks ms0 0 W) := by
  have h1 := marks_calls kb0 _ [] (fun _ => True) none 0 W m h.max h.args h.duals h.kb (by simp [kb0]) (by simp [kb0]) (by simp [kb0]) (by simp [kb0]) (fun h => absurd rfl h) (Nat.le_refl _) (by simp)
  rw [marks0] at h1
  exact h1
theorem truth_kb0 {W : World} {gb gc gd gI gA gR : Nat} {m : Int} (h : Awk W gb gc gd gI gA gR m) :
    Calls Tryz.prog 73 #[.agg #[.slice (some ⟨gb, 0, none⟩) 2 2, .slice (some ⟨gc, 0, none⟩) 2 2, .slice none 0 0, .slice (some ⟨gI, 0, none⟩) 1 1, .slice (some ⟨gR, 0, none⟩) 1 1, .slice none 0 0, .slice none 0 0], .slice none 0 0, .int .i64 4, .agg #[.int .i64 7, .int .i64 0, .slice (some ⟨gA, 0, none⟩) 1 1]] W fun e w' => e = .returned (.tuple #[.bool false, .int .i64 0]) ∧ Keeps (fun _ => False) W w' := by
  have h1 := truth_calls kb0 _ [] 4 ⟨7, 0, [⟨0, 1, []⟩]⟩ (fun _ => True) none (some ⟨gA, 0, none⟩) 0 1 W m h.max h.args h.duals h.kb (by simp [kb0]) (by simp [kb0]) (by simp [kb0]) (by simp [kb0]) (fun h => absurd rfl h) (Nat.le_refl _) (by simp) h.conA
  rw [truth0] at h1
  exact h1
abbrev Hold10 (w : World) (gd gI : Nat) (v0 v1 v2 v3 v4 v5 v6 u3 u4 u5 : Value) : Prop :=
  w.cell? ⟨gd, 0, none⟩ = some v0 ∧ w.cell? ⟨gd, 1, none⟩ = some v1 ∧ w.cell? ⟨gd, 2, none⟩ = some v2 ∧ w.cell? ⟨gd, 3, none⟩ = some v3 ∧ w.cell? ⟨gd, 4, none⟩ = some v4 ∧ w.cell? ⟨gd, 5, none⟩ = some v5 ∧ w.cell? ⟨gd, 6, none⟩ = some v6 ∧
    w.cell? ⟨gI, 3, none⟩ = some u3 ∧ w.cell? ⟨gI, 4, none⟩ = some u4 ∧ w.cell? ⟨gI, 5, none⟩ = some u5
theorem Awk.hold {W : World} {gb gc gd gI gA gR : Nat} {m : Int} (h : Awk W gb gc gd gI gA gR m) : Hold10 W gd gI (.slice (some ⟨gb, 0, none⟩) 2 2) (.slice (some ⟨gc, 0, none⟩) 2 2) (.slice none 0 0) (.slice (some ⟨gI, 0, none⟩) 1 1) (.slice (some ⟨gR, 0, none⟩) 1 1) (.slice none 0 0) (.slice none 0 0) (.int .i64 7) (.int .i64 0) (.slice (some ⟨gA, 0, none⟩) 1 1) := by
  obtain ⟨x0, x1, x2, x3, x4, x5, x6⟩ := cells7 h.box
  obtain ⟨i0, i1, i2, i3, i4, i5⟩ := cells6 h.inc
  exact ⟨x0, x1, x2, x3, x4, x5, x6, i3, i4, i5⟩
abbrev Cell3 (w : World) (b o0 o1 o2 : Nat) (v0 v1 v2 : Value) : Prop := w.cell? ⟨b, o0, none⟩ = some v0 ∧ w.cell? ⟨b, o1, none⟩ = some v1 ∧ w.cell? ⟨b, o2, none⟩ = some v2
theorem cell3_keep {w w' : World} {b o0 o1 o2 : Nat} {v0 v1 v2 : Value} (h : Cell3 w b o0 o1 o2 v0 v1 v2) (hk : Keeps (fun _ => False) w w') : Cell3 w' b o0 o1 o2 v0 v1 v2 :=
  ⟨hk.cell h.1 (fun h => h), hk.cell h.2.1 (fun h => h), hk.cell h.2.2 (fun h => h)⟩
def markC : Con := ⟨6, 0, [⟨3, 0, [⟨0, 1, []⟩]⟩]⟩
theorem con3 {W : World} {X Y : Nat} {t t' : TypeId} (hX : W.heap[X]? = some (.cells #[.int .i64 0, .int .i64 1, .slice none 0 0] t (0, 0))) (hY : W.heap[Y]? = some (.cells #[.int .i64 3, .int .i64 0, .slice (some ⟨X, 0, none⟩) 1 1] t' (0, 0))) :
    ConR (fun _ => True) W markC [.int .i64 6, .int .i64 0, .slice (some ⟨Y, 0, none⟩) 1 1] := by
  obtain ⟨x0, x1, x2⟩ := cells3 hX
  obtain ⟨y0, y1, y2⟩ := cells3 hY
  simp only [markC, ConR, ConsR]
  exact ⟨_, 1, rfl, Nat.le_refl _, fun _ => ⟨Y, 0, rfl, trivial, ⟨_, _, _, y0, y1, y2, _, 1, rfl, Nat.le_refl _, fun _ => ⟨X, 0, rfl, trivial, ⟨_, _, _, x0, x1, x2, none, 0, rfl, Nat.le_refl _, fun h => absurd rfl h⟩, fun hn => absurd trivial hn⟩⟩, fun hn => absurd trivial hn⟩⟩
theorem same_mark (A B : Option Addr) (ca cb : Nat) (W : World) (hc : ConR (fun _ => True) W markC [.int .i64 6, .int .i64 0, .slice A 1 ca]) (hd : ConR (fun _ => True) W markC [.int .i64 6, .int .i64 0, .slice B 1 cb]) :
    Calls Tryz.prog 74 #[.agg #[.int .i64 6, .int .i64 0, .slice A 1 ca], .agg #[.int .i64 6, .int .i64 0, .slice B 1 cb]] W fun e w' => e = .returned (.bool true) ∧ Keeps (fun _ => False) W w' := by
  have h := same_calls 1000 markC markC A B ca cb (fun _ => True) W (by decide) (by decide) hc hd
  have e : sameC markC markC = true := same0
  rw [e] at h
  exact h
end Go.Proofs.YtknonaboaaiabaaGreatDoor
/- The walk of isagogelaw05.awake. -/
namespace Go.Proofs.YtknonaboaaiabaaGreatDoor
open Go.RowKit
set_option linter.unusedVariables false
set_option linter.unusedSimpArgs false
set_option maxRecDepth 100000 in
set_option maxHeartbeats 4000000 in
theorem awake_calls (w : World) (m : Int) (hm : w.cell? ⟨2, 0, none⟩ = some (.int .i64 m)) (ht : ArgsTab w) (hd : DualsTab w) :
    Calls Tryz.prog 23 #[] w fun e w' => e = .returned (.bool true) ∧ Keeps (fun _ => False) w w' := by
  have HM := Lib.hid hm
  have HT := Lib.hid ht
  have HD := Lib.hid hd
  clear hm ht hd
  go_enter Tryz.func23, Tryz.ntmps23
  go_wp2_with fail
  refine (of_calls 0 0 none 0 0 _).mono ?_
  rintro e w1 ⟨rfl, hk1⟩
  go_wp2_with fail
  generalize hW2 : World.alloc _ _ = W2
  have hK2 : Keeps (fun _ => False) w1 W2 := by rw [← hW2]; repeat (first | exact Keeps.refl _ _ | refine Keeps.drewN ?_ _ | refine Keeps.drew ?_ | refine Keeps.alloc ?_ _ | refine Keeps.set ?_ (Or.inl (by rfl)) _)
  have hb1 : W2.heap[w1.heap.size]? = some (.cells #[.int .i64 0, .int .i64 0, .slice none 0 0] 94 (0, 0)) := by rw [← hW2]; exact blkAlloc (blkAlloc (blkAlloc (blkNew rfl) _) _) _
  have hb2 : W2.heap[w1.heap.size + 1]? = some (.cells #[.string ⟨#[65]⟩, .string ⟨#[66]⟩] 9 (0, 0)) := by rw [← hW2]; exact blkAlloc (blkAlloc (blkNew (by simp)) _) _
  have hb3 : W2.heap[w1.heap.size + 1 + 1]? = some (.cells #[.string ⟨#[114]⟩, .string ⟨#[115]⟩] 9 (0, 0)) := by rw [← hW2]; exact blkAlloc (blkNew (by simp)) _
  have hb4 : W2.heap[w1.heap.size + 1 + 1 + 1]? = some (.cells #[.slice (some ⟨w1.heap.size + 1, 0, none⟩) 2 2, .slice (some ⟨w1.heap.size + 1 + 1, 0, none⟩) 2 2, .slice none 0 0, .slice none 0 0, .slice none 0 0, .slice none 0 0, .slice none 0 0] 30 (0, 0)) := by rw [← hW2]; exact blkNew (by simp)
  have hz2 : W2.heap.size = w1.heap.size + 4 := by rw [← hW2]; simp
  clear hW2
  generalize hga : w1.heap.size = ga at *
  generalize hgb : ga + 1 = gb at *
  generalize hgc : gb + 1 = gc at *
  generalize hgd : gc + 1 = gd at *
  have HB1 := Lib.hid hb1
  have HB2 := Lib.hid hb2
  have HB3 := Lib.hid hb3
  have HB4 := Lib.hid hb4
  have HZ := Lib.hid (And.intro hga (And.intro hgb (And.intro hgc (And.intro hgd hz2))))
  have hne1 : ga ≠ gd := by omega
  have hk1z := hk1.size
  have HK2 := Lib.hid (hk1.then_ hK2)
  clear hb1 hb2 hb3 hb4 hga hgb hgc hgd hz2 hk1 hK2
  go_region_held3 (fun w' => w'.cell? ⟨ga, 0, none⟩ = some (.int .i64 0) ∧ w'.cell? ⟨ga, 1, none⟩ = some (.int .i64 0) ∧ w'.cell? ⟨ga, 2, none⟩ = some (.slice none 0 0) ∧ w'.cell? ⟨gd, 3, none⟩ = some (cellAt w' gd 3) ∧ w'.frozen? ⟨gd, 3, none⟩ = false)
    (first
      | exact hold3 HB1.out HB4.out
      | with_reducible exact hold3 HY1.out HY4.out
      | with_reducible exact hold3a _ HY1.out HY4.out
      | with_reducible exact hold3 HZ1.out HZ4.out
      | with_reducible exact hold3a _ HZ1.out HZ4.out
      | with_reducible exact hold3s _ _ HZ1.out HZ4.out hne1)
    (first
      | (go_at_call 71; refine (of_calls 0 1 none 0 0 _).mono ?_; rintro e w5 ⟨rfl, hk5⟩; have HY1 := Lib.hid (hk5.blk HB1.out (fun h => h)); have HY4 := Lib.hid (hk5.blk HB4.out (fun h => h)))
      | (go_at_call 71; refine (of_calls 7 0 (some ⟨w5.heap.size, 0, none⟩) 1 1 _).mono ?_; rintro e w6 ⟨rfl, hk6⟩; have HX6 := Lib.hid (hk6.blk (blkNew (w := w5) rfl) (fun h => h)); have HZ1 := Lib.hid (hk6.blk (blkAlloc HY1.out _) (fun h => h)); have HZ4 := Lib.hid (hk6.blk (blkAlloc HY4.out _) (fun h => h))))
  rename_i hHeld
  clear hHeld
  have hz5 := hk5.size
  have hz6 := hk6.size
  have hzd : W2.drew.heap.size = W2.heap.size := rfl
  have hza : ∀ o, (w5.alloc o).heap.size = w5.heap.size + 1 := fun o => by simp
  rw [hza] at hz6
  rw [hzd] at hz5
  have hz4 := HZ.out
  have hb2' := (hk6.blk (blkAlloc (hk5.blk HB2.out (fun h => h)) _) (fun h => h))
  have hb3' := (hk6.blk (blkAlloc (hk5.blk HB3.out (fun h => h)) _) (fun h => h))
  have HK6 := Lib.hid (((HK2.out.drew.then_ hk5).alloc _).then_ hk6)
  have hbI : (w6.alloc (.cells #[.int .i64 0, .int .i64 0, .slice none 0 0, .int .i64 7, .int .i64 0, .slice (some ⟨w5.heap.size, 0, none⟩) 1 1] 134)).heap[w6.heap.size]? = some (.cells #[.int .i64 0, .int .i64 0, .slice none 0 0, .int .i64 7, .int .i64 0, .slice (some ⟨w5.heap.size, 0, none⟩) 1 1] 134 (0, 0)) := blkNew rfl
  generalize hW7 : World.setCell _ _ _ = W7
  have hk7 : Keeps (fun i => i = gd) (w6.alloc (.cells #[.int .i64 0, .int .i64 0, .slice none 0 0, .int .i64 7, .int .i64 0, .slice (some ⟨w5.heap.size, 0, none⟩) 1 1] 134)) W7 := by rw [← hW7]; exact (Keeps.refl (fun i => i = gd) _).set (g := gd) (.inl rfl) _
  have hb4' : W7.heap[gd]? = some (.cells #[.slice (some ⟨gb, 0, none⟩) 2 2, .slice (some ⟨gc, 0, none⟩) 2 2, .slice none 0 0, .slice (some ⟨w6.heap.size, 0, none⟩) 1 1, .slice none 0 0, .slice none 0 0, .slice none 0 0] 30 (0, 0)) := by rw [← hW7]; exact blkSet (blkAlloc HZ4.out _) 3 _
  have hz7 : W7.heap.size = w6.heap.size + 1 := by rw [← hW7]; simp
  clear hW7
  have hk7w : Keeps (fun _ => False) w W7 := ((HK6.out.alloc _).of0.then_ hk7).new (fun i hi => by have := hk1z; omega)
  have hbI' := hk7.blk hbI (by omega)
  have hbA' := hk7.blk (blkAlloc HX6.out _) (by omega)
  have hb2 := hk7.blk (blkAlloc hb2' _) (by omega)
  have hb3 := hk7.blk (blkAlloc hb3' _) (by omega)
  obtain ⟨y0, y1, y2, y3, y4, y5, y6⟩ := cells7 hb4'
  have f4 := blkFree hb4' 4
  have hw7 := blkLt hb4'
  have HZ7 := Lib.hid hz7
  have HZQ := Lib.hid hz4
  generalize w5.heap.size = gA at *
  generalize w6.heap.size = gI at *
  clear hz7 hz4 HX6 HY1 HY4 HZ1 HZ4 hbI hk7 hk6 hk5 hb2' hb3' HB1 HB2 HB3 HB4 HK6 HK2 hza hzd
  go_wp2_with fail
  generalize hW8 : World.alloc _ _ = W8
  have hk8 : Keeps (fun i => i = gd) W7 W8 := by rw [← hW8]; exact ((Keeps.refl (fun i => i = gd) _).set (g := gd) (.inl rfl) _).alloc _
  have hbR : W8.heap[W7.heap.size]? = some (.cells #[.int .i64 0, .int .i64 3] 139 (0, 0)) := by rw [← hW8]; exact blkNew (by simp)
  have hbB : W8.heap[gd]? = some (.cells #[.slice (some ⟨gb, 0, none⟩) 2 2, .slice (some ⟨gc, 0, none⟩) 2 2, .slice none 0 0, .slice (some ⟨gI, 0, none⟩) 1 1, .slice (some ⟨W7.heap.size, 0, none⟩) 1 1, .slice none 0 0, .slice none 0 0] 30 (0, 0)) := by rw [← hW8]; exact blkAlloc (blkSet hb4' 4 _) _
  clear hW8
  have hq := HZQ.out
  have hq7 := HZ7.out
  have HKWz := Lib.hid ((hk7w.of0.then_ hk8).new (fun i hi => by omega))
  have HAz : Hid (Awk W8 gb gc gd gI gA W7.heap.size m) := ⟨hbB, hk8.blk hb2 (by omega), hk8.blk hb3 (by omega), hk8.blk hbI' (by omega), hk8.blk hbA' (by omega), hbR, HKWz.out.cell HM.out (fun h => h), HT.out.keep HKWz.out (fun h => h), HD.out.keep HKWz.out (fun h => h)⟩
  generalize W7.heap.size = gR at *
  clear hb4' hb2 hb3 hbI' hbA' hbR hbB hk8 hk7w hq hq7 HZ7 HZQ hw7 f4 hz5 hz6 y0 y1 y2 y3 y4 y5 y6 HZ hk1z HM HT HD hne1
  refine (below_kb0 HAz.out 0 3 true 0 below0).mono ?_
  rintro e w20 ⟨rfl, hk⟩
  have HA0 := Lib.hid (HAz.out.keep hk)
  have HK0 := Lib.hid (HKWz.out.then_ hk)
  clear HAz HKWz hk
  obtain ⟨y0, y1, y2, y3, y4, y5, y6⟩ := cells7 HA0.out.box
  go_wp2_with fail
  refine (below_kb0 HA0.out 1 2 true 0 below1).mono ?_
  rintro e w21 ⟨rfl, hk⟩
  have HA1 := Lib.hid (HA0.out.keep hk)
  have HK1 := Lib.hid (HK0.out.then_ hk)
  clear HA0 HK0 hk y0 y1 y2 y3 y4 y5 y6
  obtain ⟨y0, y1, y2, y3, y4, y5, y6⟩ := cells7 HA1.out.box
  go_wp2_with fail
  refine (below_kb0 HA1.out 0 2 false 0 below2).mono ?_
  rintro e w22 ⟨rfl, hk⟩
  have HA2 := Lib.hid (HA1.out.keep hk)
  have HK2 := Lib.hid (HK1.out.then_ hk)
  clear HA1 HK1 hk y0 y1 y2 y3 y4 y5 y6
  obtain ⟨y0, y1, y2, y3, y4, y5, y6⟩ := cells7 HA2.out.box
  go_wp2_with fail
  refine (below_kb0 HA2.out 0 4 false 1 below3).mono ?_
  rintro e w23 ⟨rfl, hk⟩
  have HA3 := Lib.hid (HA2.out.keep hk)
  have HK3 := Lib.hid (HK2.out.then_ hk)
  clear HA2 HK2 hk y0 y1 y2 y3 y4 y5 y6
  obtain ⟨y0, y1, y2, y3, y4, y5, y6⟩ := cells7 HA3.out.box
  go_wp2_with fail
  refine (marks_kb0 HA3.out).mono ?_
  rintro e w25 ⟨v, rfl, ho, hk⟩
  have HA4 := Lib.hid (HA3.out.keep hk)
  have HK4 := Lib.hid (HK3.out.then_ hk)
  obtain ⟨AA, cap, rfl, hcap, hca⟩ := ho.consAt
  have hmem : ms0[2]'(by decide) = ⟨6, 0, [⟨3, 0, [⟨0, 1, []⟩]⟩]⟩ := rfl
  have hca := hca.lim
  have HCA := Lib.hid hca
  obtain ⟨bb, oo, A2, cap2, rfl, hob, hbl, e0, e1, e2, hc2⟩ := hca.get 2 (by decide)
  rw [hmem] at e0 e1 e2 hc2
  simp only [Con.op, Con.n, Con.args, List.length_cons, List.length_nil] at e0 e1 e2 hc2
  have HE : Hid (Cell3 w25 bb (oo + 6) (oo + 6 + 1) (oo + 6 + 2) (.int .i64 6) (.int .i64 0) (.slice A2 1 cap2)) := Lib.hid ⟨e0, e1, e2⟩
  have HC2 : Hid (ConR (fun _ => True) w25 markC [.int .i64 6, .int .i64 0, .slice A2 1 cap2]) := Lib.hid (hc2.mono (fun _ _ => trivial))
  have hl3 : ms0.length = 3 := rfl
  rw [hl3] at hcap
  clear e0 e1 e2 hc2 HA3 HK3 hk y0 y1 y2 y3 y4 y5 y6 hca ho hmem HCA hob hbl
  go_wp2_with fail
  have HTC := Lib.hid (fun W (hk : Keeps (fun _ => False) w25 W) => truth_kb0 (HA4.out.keep hk))
  go_region_held3 (fun w' => Hold10 w' gd gI (.slice (some ⟨gb, 0, none⟩) 2 2) (.slice (some ⟨gc, 0, none⟩) 2 2) (.slice none 0 0) (.slice (some ⟨gI, 0, none⟩) 1 1) (.slice (some ⟨gR, 0, none⟩) 1 1) (.slice none 0 0) (.slice none 0 0) (.int .i64 7) (.int .i64 0) (.slice (some ⟨gA, 0, none⟩) 1 1))
    (first
      | exact HA4.out.hold
      | with_reducible exact HA5.out.hold)
    ((go_at_call 73; refine (HTC.out _ (by repeat (first | exact Keeps.refl _ _ | refine Keeps.drewN ?_ _ | refine Keeps.drew ?_ | refine Keeps.alloc ?_ _ | refine Keeps.set ?_ (Or.inl (by rfl)) _))).mono ?_; clear HTC; rintro e w26 ⟨rfl, hk26⟩; have HA5 := Lib.hid (HA4.out.keep ((Keeps.refl _ _).drew.then_ hk26)); have HK5 := Lib.hid (HK4.out.drew.then_ hk26); have HE5 := Lib.hid (cell3_keep (w' := w26) HE.out ((Keeps.refl _ _).drew.then_ hk26)); have HC5 := Lib.hid (HC2.out.keep ((Keeps.refl _ _).drew.then_ hk26) (fun _ _ h => h)); clear hk26))
  rename_i hHeld
  clear hHeld hca HA4 HK4 HE HC2 HA5
  go_wp2_with fail
  have HS := Lib.hid (fun W (hk : Keeps (fun _ => False) w26 W) => cell3_keep (w' := W) HE5.out hk)
  go_region_held3 (fun w' => Cell3 w' bb (oo + 6) (oo + 6 + 1) (oo + 6 + 2) (.int .i64 6) (.int .i64 0) (.slice A2 1 cap2))
    (first
      | exact HE5.out
      | with_reducible exact HS27.out
      | with_reducible exact HS27a.out _
      | with_reducible exact HS28.out
      | with_reducible exact HS28a.out _
      | with_reducible exact HS29.out
      | with_reducible exact HS30.out
      | fail)
    (first
      | (go_at_call 71; refine (of_calls 0 1 none 0 0 _).mono ?_; rintro e w27 ⟨rfl, hk27⟩; have HK27 := Lib.hid ((Keeps.refl (fun _ => False) w26).drew.then_ hk27); have HS27 := Lib.hid (HS.out w27 HK27.out); have HS27a := Lib.hid (fun o => HS.out (w27.alloc o) (HK27.out.alloc o)); clear hk27)
      | (go_at_call 71; refine (of_calls 3 0 (some ⟨w27.heap.size, 0, none⟩) 1 1 _).mono ?_; rintro e w28 ⟨rfl, hk28⟩; have HX28 := Lib.hid (hk28.blk (blkNew (w := w27) rfl) (fun h => h)); have HK28 := Lib.hid ((HK27.out.alloc _).then_ hk28); have HS28 := Lib.hid (HS.out w28 HK28.out); have HS28a := Lib.hid (fun o => HS.out (w28.alloc o) (HK28.out.alloc o)); clear hk28)
      | (go_at_call 71; refine (of_calls 6 0 (some ⟨w28.heap.size, 0, none⟩) 1 1 _).mono ?_; rintro e w29 ⟨rfl, hk29⟩; have HX29 := Lib.hid (hk29.blk (blkAlloc HX28.out _) (fun h => h)); have HY29 := Lib.hid (hk29.blk (blkNew (w := w28) rfl) (fun h => h)); have HK29 := Lib.hid ((HK28.out.alloc _).then_ hk29); have HS29 := Lib.hid (HS.out w29 HK29.out); clear hk29)
      | (go_at_call 74; refine (same_mark A2 (some ⟨w28.heap.size, 0, none⟩) cap2 1 _ (HC5.out.keep HK29.out (fun _ _ h => h)) (con3 HX29.out HY29.out)).mono ?_; rintro e w30 ⟨rfl, hk30⟩; have HK30 := Lib.hid (HK29.out.then_ hk30); have HS30 := Lib.hid (HS.out w30 HK30.out); clear hk30))
  go_wp2_with fail
  go_ret
  exact ⟨rfl, HK5.out.then_ HK30.out⟩
end Go.Proofs.YtknonaboaaiabaaGreatDoor
