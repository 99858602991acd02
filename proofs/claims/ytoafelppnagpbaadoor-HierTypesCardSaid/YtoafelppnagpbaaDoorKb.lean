/- What concept.Valid, kb.Count and kb.Valid compute. -/
import Derived.Test.YtoafelppnagpbaaDoorValid
import Derived.Test.YtoafelppnagpbaaDoorNames
namespace Go.Proofs.YtoafelppnagpbaaDoor
open Go.RowKit
set_option linter.unusedVariables false
set_option linter.unusedSimpArgs false
theorem Keeps.of0 {S : Nat → Prop} {w w' : World} (h : Keeps (fun _ => False) w w') : Keeps S w w' := ⟨h.os, h.tape, h.output, h.size, fun k hk _ => h.block k hk (fun h => h)⟩
/-- What was written is new. -/
theorem Keeps.new {S : Nat → Prop} {w w' : World} (h : Keeps S w w') (hs : ∀ i, S i → w.heap.size ≤ i) : Keeps (fun _ => False) w w' := ⟨h.os, h.tape, h.output, h.size, fun k hk _ => h.block k hk (fun h2 => by have := hs k h2; omega)⟩
set_option maxRecDepth 100000 in
set_option maxHeartbeats 4000000 in
theorem Valid_calls (nc nr : Nat) (c : Con) (A' : Option Addr) (cap' : Nat) (left : Int) (g : Nat) (ok : Nat → Prop) (A0 A1 : Option Addr) (c0 c1 : Nat) (v2 : Value) (w : World) (hl0 : 0 ≤ left) (hl1 : left ≤ 400)
    (hc : ConR ok w c [.int .i64 c.op, .int .i64 c.n, .slice A' c.args.length cap']) (hg : ∀ k, ok k → k ≠ g) (hw : w.heap[g]? = some (.cells #[.int .i64 left] 3 (0, 0))) (ht : ArgsTab w) (hnc : nc ≤ 100000) (hnr : nr ≤ 100000) :
    Calls Tryd.prog 34 #[.agg #[.slice A0 nc c0, .slice A1 nr c1, v2], .agg #[.int .i64 c.op, .int .i64 c.n, .slice A' c.args.length cap'], .pointer (some ⟨g, 0, none⟩)] w fun e w' =>
      e = .returned (.bool (validC nc nr c left 1).1) ∧ w'.heap[g]? = some (.cells #[.int .i64 (validC nc nr c left 1).2] 3 (0, 0)) ∧ Keeps (· = g) w w' := by
  have HC := Lib.hid hc
  have HW := Lib.hid hw
  have HT := Lib.hid ht
  have hlt := blkLt hw
  clear hc hw ht
  go_enter Tryd.func34, Tryd.ntmps34
  go_wp2_with fail
  generalize hW0 : World.alloc _ _ = W0
  have hK0 : Keeps (fun _ => False) w W0 := by rw [← hW0]; repeat (first | exact Keeps.refl _ _ | refine Keeps.drewN ?_ _ | refine Keeps.drew ?_ | refine Keeps.alloc ?_ _ | refine Keeps.set ?_ (Or.inl (by rfl)) _)
  clear hW0
  refine (valid_calls nc nr (c.size + 1) c _ left 1 g ok A0 A1 c0 c1 v2 W0 (by omega) hl0 hl1 (by omega) (by omega) (HC.out.keep hK0 (fun _ _ h => h)) hg (hK0.blk HW.out (fun h => h)) (HT.out.keep hK0 (fun h => h)) hnc hnr).mono ?_
  rintro e w1 ⟨rfl, h1, h2⟩
  go_wp2_with fail
  go_ret
  exact ⟨rfl, h1, hK0.of0.then_ h2⟩
theorem cells2 {w : World} {g : Nat} {t : TypeId} {fz : Nat × Nat} {v0 v1 : Value} (h : w.heap[g]? = some (.cells #[v0, v1] t fz)) : w.cell? ⟨g, 0, none⟩ = some v0 ∧ w.cell? ⟨g, 1, none⟩ = some v1 := by
  refine ⟨?_, ?_⟩ <;> (rw [blkCell h]; rfl)
theorem cells3 {w : World} {g : Nat} {t : TypeId} {fz : Nat × Nat} {v0 v1 v2 : Value} (h : w.heap[g]? = some (.cells #[v0, v1, v2] t fz)) : w.cell? ⟨g, 0, none⟩ = some v0 ∧ w.cell? ⟨g, 1, none⟩ = some v1 ∧ w.cell? ⟨g, 2, none⟩ = some v2 := by
  refine ⟨?_, ?_, ?_⟩ <;> (rw [blkCell h]; rfl)
theorem cells4 {w : World} {g : Nat} {t : TypeId} {fz : Nat × Nat} {v0 v1 v2 v3 : Value} (h : w.heap[g]? = some (.cells #[v0, v1, v2, v3] t fz)) : w.cell? ⟨g, 0, none⟩ = some v0 ∧ w.cell? ⟨g, 1, none⟩ = some v1 ∧ w.cell? ⟨g, 2, none⟩ = some v2 ∧ w.cell? ⟨g, 3, none⟩ = some v3 := by
  refine ⟨?_, ?_, ?_, ?_⟩ <;> (rw [blkCell h]; rfl)
theorem cells6 {w : World} {g : Nat} {t : TypeId} {fz : Nat × Nat} {v0 v1 v2 v3 v4 v5 : Value} (h : w.heap[g]? = some (.cells #[v0, v1, v2, v3, v4, v5] t fz)) : w.cell? ⟨g, 0, none⟩ = some v0 ∧ w.cell? ⟨g, 1, none⟩ = some v1 ∧ w.cell? ⟨g, 2, none⟩ = some v2 ∧ w.cell? ⟨g, 3, none⟩ = some v3 ∧ w.cell? ⟨g, 4, none⟩ = some v4 ∧ w.cell? ⟨g, 5, none⟩ = some v5 := by
  refine ⟨?_, ?_, ?_, ?_, ?_, ?_⟩ <;> (rw [blkCell h]; rfl)
theorem cells7 {w : World} {g : Nat} {t : TypeId} {fz : Nat × Nat} {v0 v1 v2 v3 v4 v5 v6 : Value} (h : w.heap[g]? = some (.cells #[v0, v1, v2, v3, v4, v5, v6] t fz)) : w.cell? ⟨g, 0, none⟩ = some v0 ∧ w.cell? ⟨g, 1, none⟩ = some v1 ∧ w.cell? ⟨g, 2, none⟩ = some v2 ∧ w.cell? ⟨g, 3, none⟩ = some v3 ∧ w.cell? ⟨g, 4, none⟩ = some v4 ∧ w.cell? ⟨g, 5, none⟩ = some v5 ∧ w.cell? ⟨g, 6, none⟩ = some v6 := by
  refine ⟨?_, ?_, ?_, ?_, ?_, ?_, ?_⟩ <;> (rw [blkCell h]; rfl)
mutual
/-- What is read lies below the heap's end. -/
theorem ConR.lim {ok : Nat → Prop} {w : World} : ∀ {c : Con} {cs : List Value}, ConR ok w c cs → ConR (fun k => ok k ∧ k < w.heap.size) w c cs
  | ⟨op, n, args⟩, cs, h => by
    simp only [ConR] at h ⊢
    obtain ⟨A, cap, h1, h2, h3⟩ := h
    refine ⟨A, cap, h1, h2, fun ha => ?_⟩
    obtain ⟨b, o, e, hb, hr⟩ := h3 ha
    refine ⟨b, o, e, ⟨hb, ?_⟩, ConsR.lim hr⟩
    cases args with
    | nil => exact absurd rfl ha
    | cons c r =>
      simp only [ConsR] at hr
      obtain ⟨⟨v0, v1, v2, h0, _⟩, _⟩ := hr
      exact World.block_lt_of_cell? w _ h0
theorem ConsR.lim {ok : Nat → Prop} {w : World} : ∀ {l : List Con} {b o : Nat}, ConsR ok w l b o → ConsR (fun k => ok k ∧ k < w.heap.size) w l b o
  | [], _, _, _ => by simp only [ConsR]
  | c :: r, b, o, h => by
    simp only [ConsR] at h ⊢
    obtain ⟨⟨v0, v1, v2, h0, h1, h2, hc⟩, hr⟩ := h
    exact ⟨⟨v0, v1, v2, h0, h1, h2, ConR.lim hc⟩, ConsR.lim hr⟩
end
theorem Row1.lim {α : Type} {ok : Nat → Prop} {w : World} {enc : α → Value} {l : List α} {A : Option Addr} (h : Row1 ok w enc l A) : Row1 (fun k => ok k ∧ k < w.heap.size) w enc l A := fun hl => by
  obtain ⟨b, o, e, hb, hc⟩ := h hl
  exact ⟨b, o, e, ⟨hb, World.block_lt_of_cell? w _ (hc 0 (List.length_pos_iff.2 hl))⟩, hc⟩
theorem KbR.lim {ok : Nat → Prop} {w : World} {b : Kb} {p : KbA} (h : KbR ok w b p) : KbR (fun k => ok k ∧ k < w.heap.size) w b p :=
  { h with
    cs := h.cs.lim, rs := h.rs.lim, is := h.is.lim
    incls := fun hl => by
      obtain ⟨b, o, e, hb, hc⟩ := h.incls hl
      refine ⟨b, o, e, ⟨hb, ?_⟩, fun i hi => ?_⟩
      · obtain ⟨_, _, _, _, h0, _⟩ := hc 0 (List.length_pos_iff.2 hl); exact World.block_lt_of_cell? w _ h0
      · obtain ⟨A1, c1, A2, c2, h0, h1, h2, h3, h4, h5, h6, h7⟩ := hc i hi
        exact ⟨A1, c1, A2, c2, h0, h1, h2, h3, h4, h5, h6.lim, h7.lim⟩
    roles := fun hl => by
      obtain ⟨b, o, e, hb, hc⟩ := h.roles hl
      exact ⟨b, o, e, ⟨hb, World.block_lt_of_cell? w _ (hc 0 (List.length_pos_iff.2 hl)).1⟩, hc⟩
    facts := fun hl => by
      obtain ⟨b, o, e, hb, hc⟩ := h.facts hl
      refine ⟨b, o, e, ⟨hb, ?_⟩, fun i hi => ?_⟩
      · obtain ⟨_, _, h0, _⟩ := hc 0 (List.length_pos_iff.2 hl); exact World.block_lt_of_cell? w _ h0
      · obtain ⟨A1, c1, h0, h1, h2, h3, h4⟩ := hc i hi
        exact ⟨A1, c1, h0, h1, h2, h3, h4.lim⟩
    links := fun hl => by
      obtain ⟨b, o, e, hb, hc⟩ := h.links hl
      exact ⟨b, o, e, ⟨hb, World.block_lt_of_cell? w _ (hc 0 (List.length_pos_iff.2 hl)).1⟩, hc⟩ }
def kbCount (b : Kb) : Nat := b.incls.length + b.roles.length + b.facts.length + b.links.length
theorem count_calls (b : Kb) (p : KbA) (w : World) (h3 : b.incls.length ≤ 1000000) (h4 : b.roles.length ≤ 1000000) (h5 : b.facts.length ≤ 1000000) (h6 : b.links.length ≤ 1000000) :
    Calls Tryd.prog 47 #[.agg #[.slice p.a0 b.cs.length p.c0, .slice p.a1 b.rs.length p.c1, .slice p.a2 b.is.length p.c2, .slice p.a3 b.incls.length p.c3, .slice p.a4 b.roles.length p.c4, .slice p.a5 b.facts.length p.c5, .slice p.a6 b.links.length p.c6]] w fun e w' => e = .returned (.int .i64 (kbCount b)) ∧ Keeps (fun _ => False) w w' := by
  go_enter Tryd.func47, Tryd.ntmps47
  go_wp2_with fail
  go_ret
  exact ⟨by simp [kbCount], by repeat (first | exact Keeps.refl _ _ | refine Keeps.drewN ?_ _ | refine Keeps.drew ?_ | refine Keeps.alloc ?_ _ | refine Keeps.set ?_ (Or.inl (by rfl)) _)⟩
def roleOk (nr : Nat) (r : Int) : Bool := decide (0 ≤ r ∧ r < 2 * nr)
def indOk (ni : Nat) (r : Int) : Bool := decide (0 ≤ r ∧ r < ni)
theorem role1_calls (r : Int) (g nr : Nat) (A : Option Addr) (c : Nat) (w : World) (hn : nr ≤ 1000000) (hg : w.cell? ⟨g, 1, none⟩ = some (.slice A nr c)) :
    Calls Tryd.prog 48 #[.int .i64 r, .pointer (some ⟨g, 0, none⟩)] w fun e w' => e = .returned (.bool (roleOk nr r)) ∧ w = w' := by
  go_enter Tryd.func48, Tryd.ntmps48
  go_wp2_with fail
  all_goals
    go_ret
    refine ⟨congrArg (fun b => Ending.returned (Value.bool b)) ?_, rfl⟩
    rw [Bool.eq_iff_iff]; simp only [roleOk, indOk, Bool.or_eq_true, Bool.and_eq_true, Bool.not_eq_true', decide_eq_true_eq, decide_eq_false_iff_not, beq_iff_eq, bne_iff_ne, ne_eq, true_iff, iff_true, Bool.false_eq_true, false_iff, iff_false, true_and, and_true, true_or, or_true, false_or, or_false, not_true_eq_false, not_false_eq_true]; omega
theorem ind1_calls (r : Int) (g ni : Nat) (A : Option Addr) (c : Nat) (w : World) (hg : w.cell? ⟨g, 2, none⟩ = some (.slice A ni c)) :
    Calls Tryd.prog 49 #[.int .i64 r, .pointer (some ⟨g, 0, none⟩)] w fun e w' => e = .returned (.bool (indOk ni r)) ∧ w = w' := by
  go_enter Tryd.func49, Tryd.ntmps49
  go_wp2_with fail
  all_goals
    go_ret
    refine ⟨congrArg (fun b => Ending.returned (Value.bool b)) ?_, rfl⟩
    rw [Bool.eq_iff_iff]; simp only [roleOk, indOk, Bool.or_eq_true, Bool.and_eq_true, Bool.not_eq_true', decide_eq_true_eq, decide_eq_false_iff_not, beq_iff_eq, bne_iff_ne, ne_eq, true_iff, iff_true, Bool.false_eq_true, false_iff, iff_false, true_and, and_true, true_or, or_true, false_or, or_false, not_true_eq_false, not_false_eq_true]; omega
/-- The inclusions' concepts, one behind the other: valid with so many nodes left? -/
def inclsV (nc nr : Nat) : List (Con × Con) → Int → Bool × Int
  | [], x => (true, x)
  | p :: r, x => if (validC nc nr p.1 x 1).1 then if (validC nc nr p.2 (validC nc nr p.1 x 1).2 1).1 then inclsV nc nr r (validC nc nr p.2 (validC nc nr p.1 x 1).2 1).2 else validC nc nr p.2 (validC nc nr p.1 x 1).2 1 else validC nc nr p.1 x 1
def factsV (nc nr ni : Nat) : List (Int × Con) → Int → Bool × Int
  | [], x => (true, x)
  | p :: r, x => if indOk ni p.1 then if (validC nc nr p.2 x 1).1 then factsV nc nr ni r (validC nc nr p.2 x 1).2 else validC nc nr p.2 x 1 else (false, x)
def linkOk (nr ni : Nat) (l : Int × Int × Int) : Bool := decide (0 ≤ l.1 ∧ l.1 < nr) && indOk ni l.2.1 && indOk ni l.2.2
def roleP (nr : Nat) (p : Int × Int) : Bool := roleOk nr p.1 && roleOk nr p.2
def rolesV (nr : Nat) (l : List (Int × Int)) : Bool := l.all (roleP nr)
def linksV (nr ni : Nat) (l : List (Int × Int × Int)) : Bool := l.all (linkOk nr ni)
/-- Behind the names and the count. -/
def kbBody (nc nr ni : Nat) (b : Kb) : Bool := (inclsV nc nr b.incls 400).1 && rolesV nr b.roles && (factsV nc nr ni b.facts (inclsV nc nr b.incls 400).2).1 && linksV nr ni b.links
def kbValidB (b : Kb) : Bool := validNamesB b.cs b.rs b.is && decide (kbCount b ≤ 60) && kbBody b.cs.length b.rs.length b.is.length b
theorem inclsV_drop (nc nr : Nat) (l : List (Con × Con)) (k : Nat) (h : k < l.length) (x : Int) : inclsV nc nr (l.drop k) x = if (validC nc nr l[k].1 x 1).1 then if (validC nc nr l[k].2 (validC nc nr l[k].1 x 1).2 1).1 then inclsV nc nr (l.drop (k + 1)) (validC nc nr l[k].2 (validC nc nr l[k].1 x 1).2 1).2 else validC nc nr l[k].2 (validC nc nr l[k].1 x 1).2 1 else validC nc nr l[k].1 x 1 := by
  rw [List.drop_eq_getElem_cons h]; rfl
theorem factsV_drop (nc nr ni : Nat) (l : List (Int × Con)) (k : Nat) (h : k < l.length) (x : Int) : factsV nc nr ni (l.drop k) x = if indOk ni l[k].1 then if (validC nc nr l[k].2 x 1).1 then factsV nc nr ni (l.drop (k + 1)) (validC nc nr l[k].2 x 1).2 else validC nc nr l[k].2 x 1 else (false, x) := by
  rw [List.drop_eq_getElem_cons h]; rfl
theorem all_drop {α : Type} (f : α → Bool) (l : List α) (k : Nat) (h : k < l.length) : (l.drop k).all f = (f l[k] && (l.drop (k + 1)).all f) := by
  rw [List.drop_eq_getElem_cons h, List.all_cons]
theorem link_role {nr : Nat} {r : Int} (h : i64ok r) (hn : nr ≤ 1000) (h0 : 0 ≤ r) : roleOk nr (wrap64 (2 * r)) = decide (r < nr) := by
  unfold i64ok at h; unfold roleOk
  rw [Bool.eq_iff_iff]; simp only [decide_eq_true_eq]
  unfold wrap64; omega
end Go.Proofs.YtoafelppnagpbaaDoor
