/- The fixed knowledge base of isagogelaw05.awake: what the program's functions answer there. -/
import Derived.Test.YtoafelppnagpbaaDoorHTrue
import Derived.Test.YtoafelppnagpbaaDoorR2
import Derived.Test.YtoafelppnagpbaaDoorOrder
import Derived.Deep.RegionHeld3
namespace Go.Proofs.YtoafelppnagpbaaDoor
open Go.RowKit
set_option linter.unusedVariables false
set_option linter.unusedSimpArgs false
def kb0 : Kb := { cs := [⟨#[65]⟩, ⟨#[66]⟩], rs := [⟨#[114]⟩, ⟨#[115]⟩], is := [], incls := [(⟨0, 0, []⟩, ⟨7, 0, [⟨0, 1, []⟩]⟩)], roles := [(0, 3)], facts := [], links := [] }
theorem kb0_valid : kbValidB kb0 = true := by decide +kernel
theorem reach_kb0 {r s : Nat} (h : Reach (edgeN kb0.roles) r s) : (r = 0 ∨ r = 3) → (s = 0 ∨ s = 3) := by
  induction h with
  | refl => exact fun h => h
  | @step r m s e _ ih =>
    intro hr
    refine ih ?_
    obtain ⟨p, hp, h1⟩ := e
    simp only [kb0, List.mem_singleton] at hp
    subst hp
    rcases h1 with ⟨h1, h2⟩ | ⟨h1, h2⟩
    · right; dsimp only at h2; omega
    · have e1 : inv (Int.toNat 0) = 1 := by decide
      dsimp only at h1
      rw [e1] at h1
      omega
theorem below0 : belowE kb0 0 3 = (true, 0) := by
  have : belowB kb0 0 3 = true := by
    unfold belowB; refine @decide_eq_true _ (_) ?_
    exact Reach.one ⟨(0, 3), by simp [kb0], .inl ⟨rfl, rfl⟩⟩
  unfold belowE; rw [kb0_valid, this]; rfl
theorem below1 : belowE kb0 1 2 = (true, 0) := by
  have : belowB kb0 1 2 = true := by
    unfold belowB; refine @decide_eq_true _ (_) ?_
    exact Reach.one ⟨(0, 3), by simp [kb0], .inr ⟨by decide, by decide⟩⟩
  unfold belowE; rw [kb0_valid, this]; rfl
theorem below2 : belowE kb0 0 2 = (false, 0) := by
  have : belowB kb0 0 2 = false := by
    unfold belowB; refine @decide_eq_false _ (_) ?_
    intro h; have := reach_kb0 h (.inl rfl); simp at this
  unfold belowE; rw [kb0_valid, this]; rfl
theorem below3 : belowE kb0 0 4 = (false, 1) := by
  unfold belowE; rw [kb0_valid]; rfl
theorem s01 : sortZ [0, 1] = [0, 1] := by
  unfold sortZ
  exact List.mergeSort_of_pairwise (by decide)
def all0 : List Con := [⟨5, 0, [⟨3, 0, [⟨0, 0, []⟩]⟩, ⟨7, 0, [⟨0, 1, []⟩]⟩]⟩]
def ms0 : List Con := [⟨0, 0, []⟩, ⟨0, 1, []⟩, ⟨6, 0, [⟨3, 0, [⟨0, 1, []⟩]⟩]⟩]
theorem all0_eq : allC kb0 [] = all0 := by kernel_rfl
theorem names0_eq : (namesC all0).map (·.1) = [0, 1] := by kernel_rfl
theorem nameM0 : nameM kb0.cs kb0.rs all0 = [⟨0, 0, []⟩, ⟨0, 1, []⟩] := by
  unfold nameM; rw [names0_eq, s01]; kernel_rfl
theorem marksC0 : marksC kb0 [] = ms0 := by
  unfold marksC marksL; rw [all0_eq, nameM0]; kernel_rfl
theorem fine0 : fineE (kbValidB kb0) kb0.cs.length kb0.rs.length [] = 0 := by rw [kb0_valid]; rfl
theorem open0 : openE kb0 [] = 0 := by
  unfold openE; rw [marksC0, fine0]; rfl
theorem marks0 : marksE kb0 [] = (ms0, 0) := by
  unfold marksE; rw [open0, marksC0]; kernel_rfl
theorem truth0 : truthE kb0 [] 4 ⟨7, 0, [⟨0, 1, []⟩]⟩ = (false, 0) := by
  unfold truthE
  rw [open0, marksC0, kb0_valid]
  kernel_rfl
theorem same0 : sameC ⟨6, 0, [⟨3, 0, [⟨0, 1, []⟩]⟩]⟩ ⟨6, 0, [⟨3, 0, [⟨0, 1, []⟩]⟩]⟩ = true := by decide +kernel
end Go.Proofs.YtoafelppnagpbaaDoor
/- What the walk of isagogelaw05.awake stands on. -/
namespace Go.Proofs.YtoafelppnagpbaaDoor
open Go.RowKit
set_option linter.unusedVariables false
set_option linter.unusedSimpArgs false
abbrev Hold3 (w : World) (g1 g2 : Nat) (a b c : Value) : Prop :=
  w.cell? ⟨g1, 0, none⟩ = some a ∧ w.cell? ⟨g1, 1, none⟩ = some b ∧ w.cell? ⟨g1, 2, none⟩ = some c ∧ w.cell? ⟨g2, 3, none⟩ = some (cellAt w g2 3) ∧ w.frozen? ⟨g2, 3, none⟩ = false
theorem hold3 {w : World} {g1 g2 : Nat} {t1 t2 : TypeId} {a b c v0 v1 v2 v3 v4 v5 v6 : Value} (h1 : w.heap[g1]? = some (.cells #[a, b, c] t1 (0, 0))) (h2 : w.heap[g2]? = some (.cells #[v0, v1, v2, v3, v4, v5, v6] t2 (0, 0))) : Hold3 w g1 g2 a b c := by
  obtain ⟨x0, x1, x2⟩ := cells3 h1
  obtain ⟨y0, y1, y2, y3, y4, y5, y6⟩ := cells7 h2
  exact ⟨x0, x1, x2, cellAt_eq y3, blkFree h2 3⟩
theorem hold3a {w : World} {g1 g2 : Nat} {t1 t2 : TypeId} {a b c v0 v1 v2 v3 v4 v5 v6 : Value} (o : Obj) (h1 : w.heap[g1]? = some (.cells #[a, b, c] t1 (0, 0))) (h2 : w.heap[g2]? = some (.cells #[v0, v1, v2, v3, v4, v5, v6] t2 (0, 0))) : Hold3 (w.alloc o) g1 g2 a b c :=
  hold3 (blkAlloc h1 o) (blkAlloc h2 o)
theorem hold3s {w : World} {g1 g2 : Nat} {t1 t2 : TypeId} {a b c v0 v1 v2 v3 v4 v5 v6 : Value} (o : Obj) (z : Value) (h1 : w.heap[g1]? = some (.cells #[a, b, c] t1 (0, 0))) (h2 : w.heap[g2]? = some (.cells #[v0, v1, v2, v3, v4, v5, v6] t2 (0, 0))) (hn : g1 ≠ g2) :
    Hold3 ((w.alloc o).setCell ⟨g2, 3, none⟩ z) g1 g2 a b c :=
  hold3 (((Keeps.refl (fun i => i = g2) (w.alloc o)).set (g := g2) (Or.inl rfl) z).blk (blkAlloc h1 o) hn) (blkSet (blkAlloc h2 o) 3 _)
/-- What the walk of awake knows of its base: its box at gd, its arrays, the tables. -/
structure Awk (W : World) (gb gc gd gI gA gR : Nat) (m : Int) : Prop where
  box : W.heap[gd]? = some (.cells #[.slice (some ⟨gb, 0, none⟩) 2 2, .slice (some ⟨gc, 0, none⟩) 2 2, .slice none 0 0, .slice (some ⟨gI, 0, none⟩) 1 1, .slice (some ⟨gR, 0, none⟩) 1 1, .slice none 0 0, .slice none 0 0] 30 (0, 0))
  n1 : W.heap[gb]? = some (.cells #[.string ⟨#[65]⟩, .string ⟨#[66]⟩] 9 (0, 0))
  n2 : W.heap[gc]? = some (.cells #[.string ⟨#[114]⟩, .string ⟨#[115]⟩] 9 (0, 0))
  inc : W.heap[gI]? = some (.cells #[.int .i64 0, .int .i64 0, .slice none 0 0, .int .i64 7, .int .i64 0, .slice (some ⟨gA, 0, none⟩) 1 1] 66 (0, 0))
  arg : W.heap[gA]? = some (.cells #[.int .i64 0, .int .i64 1, .slice none 0 0] 48 (0, 0))
  rol : W.heap[gR]? = some (.cells #[.int .i64 0, .int .i64 3] 68 (0, 0))
  max : W.cell? ⟨2, 0, none⟩ = some (.int .i64 m)
  args : ArgsTab W
  duals : DualsTab W
theorem Awk.keep {W W' : World} {gb gc gd gI gA gR : Nat} {m : Int} (h : Awk W gb gc gd gI gA gR m) (hk : Keeps (fun _ => False) W W') : Awk W' gb gc gd gI gA gR m :=
  ⟨hk.blk h.box (fun h => h), hk.blk h.n1 (fun h => h), hk.blk h.n2 (fun h => h), hk.blk h.inc (fun h => h), hk.blk h.arg (fun h => h), hk.blk h.rol (fun h => h), hk.cell h.max (fun h => h), h.args.keep hk (fun h => h), h.duals.keep hk (fun h => h)⟩
theorem Awk.conA {W : World} {gb gc gd gI gA gR : Nat} {m : Int} (h : Awk W gb gc gd gI gA gR m) : ConR (fun _ => True) W ⟨7, 0, [⟨0, 1, []⟩]⟩ [.int .i64 7, .int .i64 0, .slice (some ⟨gA, 0, none⟩) 1 1] := by
  obtain ⟨x0, x1, x2⟩ := cells3 h.arg
  simp only [ConR, ConsR]
  exact ⟨_, 1, rfl, Nat.le_refl _, fun _ => ⟨gA, 0, rfl, trivial, ⟨_, _, _, x0, x1, x2, none, 0, rfl, Nat.le_refl _, fun h => absurd rfl h⟩, trivial⟩⟩
theorem Awk.kb {W : World} {gb gc gd gI gA gR : Nat} {m : Int} (h : Awk W gb gc gd gI gA gR m) : KbR (fun _ => True) W kb0 ⟨some ⟨gb, 0, none⟩, some ⟨gc, 0, none⟩, none, some ⟨gI, 0, none⟩, some ⟨gR, 0, none⟩, none, none, 2, 2, 0, 1, 1, 0, 0⟩ := by
  obtain ⟨n0, n1⟩ := cells2 h.n1
  obtain ⟨m0, m1⟩ := cells2 h.n2
  obtain ⟨r0, r1⟩ := cells2 h.rol
  obtain ⟨i0, i1, i2, i3, i4, i5⟩ := cells6 h.inc
  exact
  { cs := fun _ => ⟨gb, 0, rfl, trivial, fun i hi => by
      match i, hi with
      | 0, _ => exact n0
      | 1, _ => exact n1
      | i + 2, hi => exact absurd hi (by simp [kb0])⟩
    rs := fun _ => ⟨gc, 0, rfl, trivial, fun i hi => by
      match i, hi with
      | 0, _ => exact m0
      | 1, _ => exact m1
      | i + 2, hi => exact absurd hi (by simp [kb0])⟩
    is := fun h => absurd rfl h
    incls := fun _ => ⟨gI, 0, rfl, trivial, fun i hi => by
      match i, hi with
      | 0, _ => exact ⟨_, _, _, _, i0, i1, i2, i3, i4, i5, by simp only [kb0, List.getElem_cons_zero, Con.op, Con.n, Con.args, ConR]; exact ⟨none, 0, rfl, Nat.le_refl _, fun h => absurd rfl h⟩, h.conA⟩
      | i + 1, hi => simp [kb0] at hi⟩
    roles := fun _ => ⟨gR, 0, rfl, trivial, fun i hi => by
      match i, hi with
      | 0, _ => exact ⟨r0, r1⟩
      | i + 1, hi => simp [kb0] at hi⟩
    facts := fun h => absurd rfl h
    links := fun h => absurd rfl h
    l0 := by simp [kb0]
    l1 := by simp [kb0]
    l2 := by simp [kb0]
    l3 := by simp [kb0]
    l4 := by simp [kb0]
    l5 := by simp [kb0]
    l6 := by simp [kb0]
    strs := fun s hs => by
      simp only [kb0, List.mem_append, List.mem_cons, List.not_mem_nil, or_false] at hs
      rcases hs with (rfl | rfl) | (rfl | rfl) <;> simp [maxLen, ByteArray.size]
    rng := fun x hx => by simp [kb0] at hx }
theorem below_kb0 {W : World} {gb gc gd gI gA gR : Nat} {m : Int} (h : Awk W gb gc gd gI gA gR m) (r s : Int) (v : Bool) (x : Int) (hv : belowE kb0 r s = (v, x)) :
    Calls Tryd.prog 8 #[.agg #[.slice (some ⟨gb, 0, none⟩) 2 2, .slice (some ⟨gc, 0, none⟩) 2 2, .slice none 0 0, .slice (some ⟨gI, 0, none⟩) 1 1, .slice (some ⟨gR, 0, none⟩) 1 1, .slice none 0 0, .slice none 0 0], .int .i64 r, .int .i64 s] W fun e w' => e = .returned (.tuple #[.bool v, .int .i64 x]) ∧ Keeps (fun _ => False) W w' := by
  have h1 := below_calls kb0 _ r s _ W m h.max h.args h.kb (by simp [kb0]) (by simp [kb0]) (by simp [kb0]) (by simp [kb0]) (by simp [kb0])
  rw [hv] at h1
  exact h1
theorem marks_kb0 {W : World} {gb gc gd gI gA gR : Nat} {m : Int} (h : Awk W gb gc gd gI gA gR m) :
    Calls Tryd.prog 16 #[.agg #[.slice (some ⟨gb, 0, none⟩) 2 2, .slice (some ⟨gc, 0, none⟩) 2 2, .slice none 0 0, .slice (some ⟨gI, 0, none⟩) 1 1, .slice (some ⟨gR, 0, none⟩) 1 1, .slice none 0 0, .slice none 0 0], .slice none 0 0] W (RetMarks ms0 0 W) := by
  have h1 := marks_calls kb0 _ [] (fun _ => True) none 0 W m h.max h.args h.duals h.kb (by simp [kb0]) (by simp [kb0]) (by simp [kb0]) (by simp [kb0]) (fun h => absurd rfl h) (Nat.le_refl _) (by simp)
  rw [marks0] at h1
  exact h1
theorem truth_kb0 {W : World} {gb gc gd gI gA gR : Nat} {m : Int} (h : Awk W gb gc gd gI gA gR m) :
    Calls Tryd.prog 18 #[.agg #[.slice (some ⟨gb, 0, none⟩) 2 2, .slice (some ⟨gc, 0, none⟩) 2 2, .slice none 0 0, .slice (some ⟨gI, 0, none⟩) 1 1, .slice (some ⟨gR, 0, none⟩) 1 1, .slice none 0 0, .slice none 0 0], .slice none 0 0, .int .i64 4, .agg #[.int .i64 7, .int .i64 0, .slice (some ⟨gA, 0, none⟩) 1 1]] W fun e w' => e = .returned (.tuple #[.bool false, .int .i64 0]) ∧ Keeps (fun _ => False) W w' := by
  have h1 := truth_calls kb0 _ [] 4 ⟨7, 0, [⟨0, 1, []⟩]⟩ (fun _ => True) none (some ⟨gA, 0, none⟩) 0 1 W m h.max h.args h.duals h.kb (by simp [kb0]) (by simp [kb0]) (by simp [kb0]) (by simp [kb0]) (fun h => absurd rfl h) (Nat.le_refl _) (by simp) h.conA
  rw [truth0] at h1
  exact h1
abbrev Hold10 (w : World) (gd gI : Nat) (v0 v1 v2 v3 v4 v5 v6 u3 u4 u5 : Value) : Prop :=
  w.cell? ⟨gd, 0, none⟩ = some v0 ∧ w.cell? ⟨gd, 1, none⟩ = some v1 ∧ w.cell? ⟨gd, 2, none⟩ = some v2 ∧ w.cell? ⟨gd, 3, none⟩ = some v3 ∧ w.cell? ⟨gd, 4, none⟩ = some v4 ∧ w.cell? ⟨gd, 5, none⟩ = some v5 ∧ w.cell? ⟨gd, 6, none⟩ = some v6 ∧
    w.cell? ⟨gI, 3, none⟩ = some u3 ∧ w.cell? ⟨gI, 4, none⟩ = some u4 ∧ w.cell? ⟨gI, 5, none⟩ = some u5
theorem Awk.hold {W : World} {gb gc gd gI gA gR : Nat} {m : Int} (h : Awk W gb gc gd gI gA gR m) : Hold10 W gd gI (.slice (some ⟨gb, 0, none⟩) 2 2) (.slice (some ⟨gc, 0, none⟩) 2 2) (.slice none 0 0) (.slice (some ⟨gI, 0, none⟩) 1 1) (.slice (some ⟨gR, 0, none⟩) 1 1) (.slice none 0 0) (.slice none 0 0) (.int .i64 7) (.int .i64 0) (.slice (some ⟨gA, 0, none⟩) 1 1) := by
  obtain ⟨x0, x1, x2, x3, x4, x5, x6⟩ := cells7 h.box
  obtain ⟨i0, i1, i2, i3, i4, i5⟩ := cells6 h.inc
  exact ⟨x0, x1, x2, x3, x4, x5, x6, i3, i4, i5⟩
abbrev Cell3 (w : World) (b o0 o1 o2 : Nat) (v0 v1 v2 : Value) : Prop := w.cell? ⟨b, o0, none⟩ = some v0 ∧ w.cell? ⟨b, o1, none⟩ = some v1 ∧ w.cell? ⟨b, o2, none⟩ = some v2
theorem cell3_keep {w w' : World} {b o0 o1 o2 : Nat} {v0 v1 v2 : Value} (h : Cell3 w b o0 o1 o2 v0 v1 v2) (hk : Keeps (fun _ => False) w w') : Cell3 w' b o0 o1 o2 v0 v1 v2 :=
  ⟨hk.cell h.1 (fun h => h), hk.cell h.2.1 (fun h => h), hk.cell h.2.2 (fun h => h)⟩
def markC : Con := ⟨6, 0, [⟨3, 0, [⟨0, 1, []⟩]⟩]⟩
theorem con3 {W : World} {X Y : Nat} {t t' : TypeId} (hX : W.heap[X]? = some (.cells #[.int .i64 0, .int .i64 1, .slice none 0 0] t (0, 0))) (hY : W.heap[Y]? = some (.cells #[.int .i64 3, .int .i64 0, .slice (some ⟨X, 0, none⟩) 1 1] t' (0, 0))) :
    ConR (fun _ => True) W markC [.int .i64 6, .int .i64 0, .slice (some ⟨Y, 0, none⟩) 1 1] := by
  obtain ⟨x0, x1, x2⟩ := cells3 hX
  obtain ⟨y0, y1, y2⟩ := cells3 hY
  simp only [markC, ConR, ConsR]
  exact ⟨_, 1, rfl, Nat.le_refl _, fun _ => ⟨Y, 0, rfl, trivial, ⟨_, _, _, y0, y1, y2, _, 1, rfl, Nat.le_refl _, fun _ => ⟨X, 0, rfl, trivial, ⟨_, _, _, x0, x1, x2, none, 0, rfl, Nat.le_refl _, fun h => absurd rfl h⟩, trivial⟩⟩, trivial⟩⟩
theorem same_mark (A B : Option Addr) (ca cb : Nat) (W : World) (hc : ConR (fun _ => True) W markC [.int .i64 6, .int .i64 0, .slice A 1 ca]) (hd : ConR (fun _ => True) W markC [.int .i64 6, .int .i64 0, .slice B 1 cb]) :
    Calls Tryd.prog 19 #[.agg #[.int .i64 6, .int .i64 0, .slice A 1 ca], .agg #[.int .i64 6, .int .i64 0, .slice B 1 cb]] W fun e w' => e = .returned (.bool true) ∧ Keeps (fun _ => False) W w' := by
  have h := same_calls 1000 markC markC A B ca cb (fun _ => True) W (by decide) (by decide) hc hd
  have e : sameC markC markC = true := same0
  rw [e] at h
  exact h
end Go.Proofs.YtoafelppnagpbaaDoor
