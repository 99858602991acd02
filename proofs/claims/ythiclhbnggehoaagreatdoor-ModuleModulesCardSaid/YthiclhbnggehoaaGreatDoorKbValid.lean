/- What concept.Valid, kb.Count and kb.Valid compute. -/
import Derived.Test.YthiclhbnggehoaaGreatDoorValid
import Derived.Test.YthiclhbnggehoaaGreatDoorNames
namespace Go.Proofs.YthiclhbnggehoaaGreatDoor
open Go.RowKit
set_option linter.unusedVariables false
set_option linter.unusedSimpArgs false
theorem Keeps.of0 {S : Nat → Prop} {w w' : World} (h : Keeps (fun _ => False) w w') : Keeps S w w' := ⟨h.os, h.tape, h.output, h.size, fun k hk _ => h.block k hk (fun h => h)⟩
/-- What was written is new. -/
theorem Keeps.new {S : Nat → Prop} {w w' : World} (h : Keeps S w w') (hs : ∀ i, S i → w.heap.size ≤ i) : Keeps (fun _ => False) w w' := ⟨h.os, h.tape, h.output, h.size, fun k hk _ => h.block k hk (fun h2 => by have := hs k h2; omega)⟩
set_option maxRecDepth 100000 in
set_option maxHeartbeats 4000000 in
theorem Valid_calls (nc nr : Nat) (c : Con) (A' : Option Addr) (cap' : Nat) (left : Int) (g : Nat) (ok : Nat → Prop) (A0 A1 : Option Addr) (c0 c1 : Nat) (v2 : Value) (w : World) (hl0 : 0 ≤ left) (hl1 : left ≤ 400)
    (hc : ConR ok w c [.int .i64 c.op, .int .i64 c.n, .slice A' c.args.length cap']) (hg : ∀ k, ok k → k ≠ g) (hw : w.heap[g]? = some (.cells #[.int .i64 left] 3 (0, 0))) (ht : ArgsTab w) (hnc : nc ≤ 100000) (hnr : nr ≤ 100000) :
    Calls Tryz.prog 81 #[.agg #[.slice A0 nc c0, .slice A1 nr c1, v2], .agg #[.int .i64 c.op, .int .i64 c.n, .slice A' c.args.length cap'], .pointer (some ⟨g, 0, none⟩)] w fun e w' =>
      e = .returned (.bool (validC nc nr c left 1).1) ∧ w'.heap[g]? = some (.cells #[.int .i64 (validC nc nr c left 1).2] 3 (0, 0)) ∧ Keeps (· = g) w w' := by
  have HC := Lib.hid hc
  have HW := Lib.hid hw
  have HT := Lib.hid ht
  have hlt := blkLt hw
  clear hc hw ht
  go_enter Tryz.func81, Tryz.ntmps81
  go_wp2_with fail
  generalize hW0 : World.alloc _ _ = W0
  have hK0 : Keeps (fun _ => False) w W0 := by rw [← hW0]; repeat (first | exact Keeps.refl _ _ | refine Keeps.drewN ?_ _ | refine Keeps.drew ?_ | refine Keeps.alloc ?_ _ | refine Keeps.set ?_ (Or.inl (by rfl)) _)
  clear hW0
  refine (valid_calls nc nr (c.size + 1) c _ left 1 g ok A0 A1 c0 c1 v2 W0 (by omega) hl0 hl1 (by omega) (by omega) (HC.out.keep hK0 (fun _ _ h => h)) hg (hK0.blk HW.out (fun h => h)) (HT.out.keep hK0 (fun h => h)) hnc hnr).mono ?_
  rintro e w1 ⟨rfl, h1, h2⟩
  go_wp2_with fail
  go_ret
  exact ⟨rfl, h1, hK0.of0.then_ h2⟩
theorem cells2 {w : World} {g : Nat} {t : TypeId} {fz : Nat × Nat} {v0 v1 : Value} (h : w.heap[g]? = some (.cells #[v0, v1] t fz)) : w.cell? ⟨g, 0, none⟩ = some v0 ∧ w.cell? ⟨g, 1, none⟩ = some v1 := by
  refine ⟨?_, ?_⟩ <;> (rw [blkCell h]; rfl)
theorem cells3 {w : World} {g : Nat} {t : TypeId} {fz : Nat × Nat} {v0 v1 v2 : Value} (h : w.heap[g]? = some (.cells #[v0, v1, v2] t fz)) : w.cell? ⟨g, 0, none⟩ = some v0 ∧ w.cell? ⟨g, 1, none⟩ = some v1 ∧ w.cell? ⟨g, 2, none⟩ = some v2 := by
  refine ⟨?_, ?_, ?_⟩ <;> (rw [blkCell h]; rfl)
theorem cells4 {w : World} {g : Nat} {t : TypeId} {fz : Nat × Nat} {v0 v1 v2 v3 : Value} (h : w.heap[g]? = some (.cells #[v0, v1, v2, v3] t fz)) : w.cell? ⟨g, 0, none⟩ = some v0 ∧ w.cell? ⟨g, 1, none⟩ = some v1 ∧ w.cell? ⟨g, 2, none⟩ = some v2 ∧ w.cell? ⟨g, 3, none⟩ = some v3 := by
  refine ⟨?_, ?_, ?_, ?_⟩ <;> (rw [blkCell h]; rfl)
theorem cells6 {w : World} {g : Nat} {t : TypeId} {fz : Nat × Nat} {v0 v1 v2 v3 v4 v5 : Value} (h : w.heap[g]? = some (.cells #[v0, v1, v2, v3, v4, v5] t fz)) : w.cell? ⟨g, 0, none⟩ = some v0 ∧ w.cell? ⟨g, 1, none⟩ = some v1 ∧ w.cell? ⟨g, 2, none⟩ = some v2 ∧ w.cell? ⟨g, 3, none⟩ = some v3 ∧ w.cell? ⟨g, 4, none⟩ = some v4 ∧ w.cell? ⟨g, 5, none⟩ = some v5 := by
  refine ⟨?_, ?_, ?_, ?_, ?_, ?_⟩ <;> (rw [blkCell h]; rfl)
theorem cells7 {w : World} {g : Nat} {t : TypeId} {fz : Nat × Nat} {v0 v1 v2 v3 v4 v5 v6 : Value} (h : w.heap[g]? = some (.cells #[v0, v1, v2, v3, v4, v5, v6] t fz)) : w.cell? ⟨g, 0, none⟩ = some v0 ∧ w.cell? ⟨g, 1, none⟩ = some v1 ∧ w.cell? ⟨g, 2, none⟩ = some v2 ∧ w.cell? ⟨g, 3, none⟩ = some v3 ∧ w.cell? ⟨g, 4, none⟩ = some v4 ∧ w.cell? ⟨g, 5, none⟩ = some v5 ∧ w.cell? ⟨g, 6, none⟩ = some v6 := by
  refine ⟨?_, ?_, ?_, ?_, ?_, ?_, ?_⟩ <;> (rw [blkCell h]; rfl)
mutual
/-- What is read lies below the heap's end. -/
theorem ConR.lim {ok : Nat → Prop} {w : World} : ∀ {c : Con} {cs : List Value}, ConR ok w c cs → ConR (fun k => ok k ∧ k < w.heap.size) w c cs
  | ⟨op, n, args⟩, cs, h => by
    simp only [ConR] at h ⊢
    obtain ⟨A, cap, h1, h2, h3⟩ := h
    refine ⟨A, cap, h1, h2, fun ha => ?_⟩
    obtain ⟨b, o, e, hb, hr⟩ := h3 ha
    have hlt : b < w.heap.size := by
      cases args with
      | nil => exact absurd rfl ha
      | cons c r =>
        simp only [ConsR] at hr
        obtain ⟨⟨v0, v1, v2, h0, _⟩, _⟩ := hr
        exact World.block_lt_of_cell? w _ h0
    exact ⟨b, o, e, ⟨hb, hlt⟩, ConsR.lim (Nat.lt_of_le_of_lt (Nat.zero_le _) hlt) hr⟩
theorem ConsR.lim {ok : Nat → Prop} {w : World} (hz : 0 < w.heap.size) : ∀ {l : List Con} {b o : Nat}, ConsR ok w l b o → ConsR (fun k => ok k ∧ k < w.heap.size) w l b o
  | [], _, _, h => by simp only [ConsR] at h ⊢; exact fun hn => h (fun h0 => hn ⟨h0, hz⟩)
  | c :: r, b, o, h => by
    simp only [ConsR] at h ⊢
    obtain ⟨⟨v0, v1, v2, h0, h1, h2, hc⟩, hr⟩ := h
    exact ⟨⟨v0, v1, v2, h0, h1, h2, ConR.lim hc⟩, ConsR.lim hz hr⟩
end
theorem ConsR.pos {ok : Nat → Prop} {w : World} {l : List Con} {b o : Nat} (h : ConsR ok w l b o) (hl : 0 < l.length) : 0 < w.heap.size := by
  obtain ⟨_, _, e0, _⟩ := h.at_ 0 hl
  exact Nat.lt_of_le_of_lt (Nat.zero_le _) (World.block_lt_of_cell? w _ e0)
theorem Row1.lim {α : Type} {ok : Nat → Prop} {w : World} {enc : α → Value} {l : List α} {A : Option Addr} (h : Row1 ok w enc l A) : Row1 (fun k => ok k ∧ k < w.heap.size) w enc l A := fun hl => by
  obtain ⟨b, o, e, hb, hc⟩ := h hl
  exact ⟨b, o, e, ⟨hb, World.block_lt_of_cell? w _ (hc 0 (List.length_pos_iff.2 hl))⟩, hc⟩
theorem KbR.lim {ok : Nat → Prop} {w : World} {b : Kb} {p : KbA} (h : KbR ok w b p) : KbR (fun k => ok k ∧ k < w.heap.size) w b p :=
  { h with
    cs := h.cs.lim, rs := h.rs.lim, is := h.is.lim
    incls := fun hl => by
      obtain ⟨b, o, e, hb, hc⟩ := h.incls hl
      refine ⟨b, o, e, ⟨hb, ?_⟩, fun i hi => ?_⟩
      · obtain ⟨_, _, _, _, h0, _⟩ := hc 0 (List.length_pos_iff.2 hl); exact World.block_lt_of_cell? w _ h0
      · obtain ⟨A1, c1, A2, c2, h0, h1, h2, h3, h4, h5, h6, h7⟩ := hc i hi
        exact ⟨A1, c1, A2, c2, h0, h1, h2, h3, h4, h5, h6.lim, h7.lim⟩
    roles := fun hl => by
      obtain ⟨b, o, e, hb, hc⟩ := h.roles hl
      exact ⟨b, o, e, ⟨hb, World.block_lt_of_cell? w _ (hc 0 (List.length_pos_iff.2 hl)).1⟩, hc⟩
    facts := fun hl => by
      obtain ⟨b, o, e, hb, hc⟩ := h.facts hl
      refine ⟨b, o, e, ⟨hb, ?_⟩, fun i hi => ?_⟩
      · obtain ⟨_, _, h0, _⟩ := hc 0 (List.length_pos_iff.2 hl); exact World.block_lt_of_cell? w _ h0
      · obtain ⟨A1, c1, h0, h1, h2, h3, h4⟩ := hc i hi
        exact ⟨A1, c1, h0, h1, h2, h3, h4.lim⟩
    links := fun hl => by
      obtain ⟨b, o, e, hb, hc⟩ := h.links hl
      exact ⟨b, o, e, ⟨hb, World.block_lt_of_cell? w _ (hc 0 (List.length_pos_iff.2 hl)).1⟩, hc⟩ }
def kbCount (b : Kb) : Nat := b.incls.length + b.roles.length + b.facts.length + b.links.length
theorem count_calls (b : Kb) (p : KbA) (w : World) (h3 : b.incls.length ≤ 1000000) (h4 : b.roles.length ≤ 1000000) (h5 : b.facts.length ≤ 1000000) (h6 : b.links.length ≤ 1000000) :
    Calls Tryz.prog 36 #[.agg #[.slice p.a0 b.cs.length p.c0, .slice p.a1 b.rs.length p.c1, .slice p.a2 b.is.length p.c2, .slice p.a3 b.incls.length p.c3, .slice p.a4 b.roles.length p.c4, .slice p.a5 b.facts.length p.c5, .slice p.a6 b.links.length p.c6]] w fun e w' => e = .returned (.int .i64 (kbCount b)) ∧ Keeps (fun _ => False) w w' := by
  go_enter Tryz.func36, Tryz.ntmps36
  go_wp2_with fail
  go_ret
  exact ⟨by simp [kbCount], by repeat (first | exact Keeps.refl _ _ | refine Keeps.drewN ?_ _ | refine Keeps.drew ?_ | refine Keeps.alloc ?_ _ | refine Keeps.set ?_ (Or.inl (by rfl)) _)⟩
def roleOk (nr : Nat) (r : Int) : Bool := decide (0 ≤ r ∧ r < 2 * nr)
def indOk (ni : Nat) (r : Int) : Bool := decide (0 ≤ r ∧ r < ni)
theorem role1_calls (r : Int) (g nr : Nat) (A : Option Addr) (c : Nat) (w : World) (hn : nr ≤ 1000000) (hg : w.cell? ⟨g, 1, none⟩ = some (.slice A nr c)) :
    Calls Tryz.prog 82 #[.int .i64 r, .pointer (some ⟨g, 0, none⟩)] w fun e w' => e = .returned (.bool (roleOk nr r)) ∧ w = w' := by
  go_enter Tryz.func82, Tryz.ntmps82
  go_wp2_with fail
  all_goals
    go_ret
    refine ⟨congrArg (fun b => Ending.returned (Value.bool b)) ?_, rfl⟩
    rw [Bool.eq_iff_iff]; simp only [roleOk, indOk, Bool.or_eq_true, Bool.and_eq_true, Bool.not_eq_true', decide_eq_true_eq, decide_eq_false_iff_not, beq_iff_eq, bne_iff_ne, ne_eq, true_iff, iff_true, Bool.false_eq_true, false_iff, iff_false, true_and, and_true, true_or, or_true, false_or, or_false, not_true_eq_false, not_false_eq_true]; omega
theorem ind1_calls (r : Int) (g ni : Nat) (A : Option Addr) (c : Nat) (w : World) (hg : w.cell? ⟨g, 2, none⟩ = some (.slice A ni c)) :
    Calls Tryz.prog 83 #[.int .i64 r, .pointer (some ⟨g, 0, none⟩)] w fun e w' => e = .returned (.bool (indOk ni r)) ∧ w = w' := by
  go_enter Tryz.func83, Tryz.ntmps83
  go_wp2_with fail
  all_goals
    go_ret
    refine ⟨congrArg (fun b => Ending.returned (Value.bool b)) ?_, rfl⟩
    rw [Bool.eq_iff_iff]; simp only [roleOk, indOk, Bool.or_eq_true, Bool.and_eq_true, Bool.not_eq_true', decide_eq_true_eq, decide_eq_false_iff_not, beq_iff_eq, bne_iff_ne, ne_eq, true_iff, iff_true, Bool.false_eq_true, false_iff, iff_false, true_and, and_true, true_or, or_true, false_or, or_false, not_true_eq_false, not_false_eq_true]; omega
/-- The inclusions' concepts, one behind the other: valid with so many nodes left? -/
def inclsV (nc nr : Nat) : List (Con × Con) → Int → Bool × Int
  | [], x => (true, x)
  | p :: r, x => if (validC nc nr p.1 x 1).1 then if (validC nc nr p.2 (validC nc nr p.1 x 1).2 1).1 then inclsV nc nr r (validC nc nr p.2 (validC nc nr p.1 x 1).2 1).2 else validC nc nr p.2 (validC nc nr p.1 x 1).2 1 else validC nc nr p.1 x 1
def factsV (nc nr ni : Nat) : List (Int × Con) → Int → Bool × Int
  | [], x => (true, x)
  | p :: r, x => if indOk ni p.1 then if (validC nc nr p.2 x 1).1 then factsV nc nr ni r (validC nc nr p.2 x 1).2 else validC nc nr p.2 x 1 else (false, x)
def linkOk (nr ni : Nat) (l : Int × Int × Int) : Bool := decide (0 ≤ l.1 ∧ l.1 < nr) && indOk ni l.2.1 && indOk ni l.2.2
def roleP (nr : Nat) (p : Int × Int) : Bool := roleOk nr p.1 && roleOk nr p.2
def rolesV (nr : Nat) (l : List (Int × Int)) : Bool := l.all (roleP nr)
def linksV (nr ni : Nat) (l : List (Int × Int × Int)) : Bool := l.all (linkOk nr ni)
/-- Behind the names and the count. -/
def kbBody (nc nr ni : Nat) (b : Kb) : Bool := (inclsV nc nr b.incls 400).1 && rolesV nr b.roles && (factsV nc nr ni b.facts (inclsV nc nr b.incls 400).2).1 && linksV nr ni b.links
def kbValidB (b : Kb) : Bool := validNamesB b.cs b.rs b.is && decide (kbCount b ≤ 60) && kbBody b.cs.length b.rs.length b.is.length b
theorem inclsV_drop (nc nr : Nat) (l : List (Con × Con)) (k : Nat) (h : k < l.length) (x : Int) : inclsV nc nr (l.drop k) x = if (validC nc nr l[k].1 x 1).1 then if (validC nc nr l[k].2 (validC nc nr l[k].1 x 1).2 1).1 then inclsV nc nr (l.drop (k + 1)) (validC nc nr l[k].2 (validC nc nr l[k].1 x 1).2 1).2 else validC nc nr l[k].2 (validC nc nr l[k].1 x 1).2 1 else validC nc nr l[k].1 x 1 := by
  rw [List.drop_eq_getElem_cons h]; rfl
theorem factsV_drop (nc nr ni : Nat) (l : List (Int × Con)) (k : Nat) (h : k < l.length) (x : Int) : factsV nc nr ni (l.drop k) x = if indOk ni l[k].1 then if (validC nc nr l[k].2 x 1).1 then factsV nc nr ni (l.drop (k + 1)) (validC nc nr l[k].2 x 1).2 else validC nc nr l[k].2 x 1 else (false, x) := by
  rw [List.drop_eq_getElem_cons h]; rfl
theorem all_drop {α : Type} (f : α → Bool) (l : List α) (k : Nat) (h : k < l.length) : (l.drop k).all f = (f l[k] && (l.drop (k + 1)).all f) := by
  rw [List.drop_eq_getElem_cons h, List.all_cons]
theorem link_role {nr : Nat} {r : Int} (h : i64ok r) (hn : nr ≤ 1000) (h0 : 0 ≤ r) : roleOk nr (wrap64 (2 * r)) = decide (r < nr) := by
  unfold i64ok at h; unfold roleOk
  rw [Bool.eq_iff_iff]; simp only [decide_eq_true_eq]
  unfold wrap64; omega
end Go.Proofs.YthiclhbnggehoaaGreatDoor
/- What kb.Valid computes. -/
namespace Go.Proofs.YthiclhbnggehoaaGreatDoor
open Go.RowKit
set_option linter.unusedVariables false
set_option linter.unusedSimpArgs false
set_option maxRecDepth 100000 in
set_option maxHeartbeats 4000000 in
theorem kbValid_calls (b : Kb) (p : KbA) (ok : Nat → Prop) (w : World) (m : Int) (hm : w.cell? ⟨1, 0, none⟩ = some (.int .i64 m)) (ht : ArgsTab w) (hb : KbR ok w b p)
    (h3 : b.incls.length ≤ 1000000) (h4 : b.roles.length ≤ 1000000) (h5 : b.facts.length ≤ 1000000) (h6 : b.links.length ≤ 1000000) :
    Calls Tryz.prog 66 #[.agg #[.slice p.a0 b.cs.length p.c0, .slice p.a1 b.rs.length p.c1, .slice p.a2 b.is.length p.c2, .slice p.a3 b.incls.length p.c3, .slice p.a4 b.roles.length p.c4, .slice p.a5 b.facts.length p.c5, .slice p.a6 b.links.length p.c6]] w fun e w' => e = .returned (.bool (kbValidB b)) ∧ Keeps (fun _ => False) w w' := by
  obtain ⟨a0, a1, a2, a3, a4, a5, a6, c0, c1, c2, c3, c4, c5, c6⟩ := p
  dsimp only
  have HM := Lib.hid hm
  have HB := Lib.hid hb
  have HT := Lib.hid ht
  clear hm hb ht
  cases hv : validNamesB b.cs b.rs b.is
  · have HV := Lib.hid (show kbValidB b = false by simp [kbValidB, hv])
    go_enter Tryz.func66, Tryz.ntmps66
    go_wp2_with fail
    generalize hW0 : World.alloc _ _ = W0
    have hK0 : Keeps (fun _ => False) w W0 := by rw [← hW0]; repeat (first | exact Keeps.refl _ _ | refine Keeps.drewN ?_ _ | refine Keeps.drew ?_ | refine Keeps.alloc ?_ _ | refine Keeps.set ?_ (Or.inl (by rfl)) _)
    clear hW0
    have hbk := HB.out.keep hK0 (fun _ _ h => h)
    refine (validNames_calls b.cs b.rs b.is ok a0 a1 a2 c0 c1 c2 W0 m (hK0.cell HM.out (fun h => h)) hbk.cs hbk.rs hbk.is hbk.l0 hbk.l1 hbk.l2 hbk.strs).mono ?_
    rw [hv]
    rintro e w1 ⟨rfl, hk1⟩
    clear hbk
    go_wp2_with fail
    go_ret
    exact ⟨by rw [HV.out]; rfl, hK0.then_ hk1⟩
  · by_cases hcnt : kbCount b ≤ 60
    case' pos =>
      have HV := Lib.hid (show kbValidB b = kbBody b.cs.length b.rs.length b.is.length b by simp [kbValidB, hv, hcnt])
      have d1 : decide (60 < (kbCount b : Int)) = false := by simp; omega
      have hnl : b.cs.length ≤ 16 ∧ b.rs.length ≤ 6 ∧ b.is.length ≤ 10 := by
        simp only [validNamesB, Bool.and_eq_true, decide_eq_true_eq] at hv; omega
      have hcl : b.incls.length ≤ 60 ∧ b.roles.length ≤ 60 ∧ b.facts.length ≤ 60 ∧ b.links.length ≤ 60 := by unfold kbCount at hcnt; omega
    case' neg =>
      have HV := Lib.hid (show kbValidB b = false by simp [kbValidB, hcnt])
      have d1 : decide (60 < (kbCount b : Int)) = true := by simp; omega
    all_goals
      go_enter Tryz.func66, Tryz.ntmps66
      go_wp2_with fail
      generalize hW0 : World.alloc _ _ = W0
      have hK0 : Keeps (fun _ => False) w W0 := by rw [← hW0]; repeat (first | exact Keeps.refl _ _ | refine Keeps.drewN ?_ _ | refine Keeps.drew ?_ | refine Keeps.alloc ?_ _ | refine Keeps.set ?_ (Or.inl (by rfl)) _)
      have hbox : W0.heap[w.heap.size]? = some (.cells #[.slice a0 b.cs.length c0, .slice a1 b.rs.length c1, .slice a2 b.is.length c2, .slice a3 b.incls.length c3, .slice a4 b.roles.length c4, .slice a5 b.facts.length c5, .slice a6 b.links.length c6] 30 (0, 0)) := by rw [← hW0]; exact blkNew rfl
      clear hW0
      have hbk := HB.out.keep hK0 (fun _ _ h => h)
      refine (validNames_calls b.cs b.rs b.is ok a0 a1 a2 c0 c1 c2 W0 m (hK0.cell HM.out (fun h => h)) hbk.cs hbk.rs hbk.is hbk.l0 hbk.l1 hbk.l2 hbk.strs).mono ?_
      rw [hv]
      rintro e w1 ⟨rfl, hk1⟩
      have hbox1 := hk1.blk hbox (fun h => h)
      obtain ⟨x0, x1, x2, x3, x4, x5, x6⟩ := cells7 hbox1
      have HBX := Lib.hid hbox1
      clear hbk hbox hbox1
      go_wp2_with fail
      refine (count_calls b ⟨a0, a1, a2, a3, a4, a5, a6, c0, c1, c2, c3, c4, c5, c6⟩ w1 h3 h4 h5 h6).mono ?_
      rintro e w2 ⟨rfl, hk2⟩
      have hbox2 := hk2.blk HBX.out (fun h => h)
      have hK2 := (hK0.then_ hk1).then_ hk2
      clear x0 x1 x2 x3 x4 x5 x6 hK0 hk1 hk2 HBX
      obtain ⟨x0, x1, x2, x3, x4, x5, x6⟩ := cells7 hbox2
      have HBX := Lib.hid hbox2
      have hgt : w.heap.size < w2.heap.size := blkLt hbox2
      clear hbox2
      go_wp2_with fail
    · go_ret
      exact ⟨by rw [HV.out]; rfl, hK2⟩
    · clear x0 x1 x2 x3 x4 x5 x6
      generalize hW3 : World.alloc _ _ = W3
      have hK3 : Keeps (fun _ => False) w W3 := by rw [← hW3]; exact hK2.alloc _
      have hbox3 : W3.heap[w.heap.size]? = some (.cells #[.slice a0 b.cs.length c0, .slice a1 b.rs.length c1, .slice a2 b.is.length c2, .slice a3 b.incls.length c3, .slice a4 b.roles.length c4, .slice a5 b.facts.length c5, .slice a6 b.links.length c6] 30 (0, 0)) := by rw [← hW3]; exact blkAlloc HBX.out _
      have hg3 : W3.heap[w2.heap.size]? = some (.cells #[.int .i64 400] 3 (0, 0)) := by rw [← hW3]; exact blkNew rfl
      clear hW3 HBX hK2
      generalize w2.heap.size = g at *
      have HB3 := Lib.hid hbox3
      have HG3 := Lib.hid hg3
      clear hbox3 hg3 d1 hcnt hv
      obtain ⟨hn0, hn1, hn2⟩ := hnl
      obtain ⟨m3, m4, m5, m6⟩ := hcl
      have htg : ¬ 0 = g := by have := HT.out; obtain ⟨t, fz, h⟩ := this; have := blkLt h; omega
      have hokg : ∀ k, (ok k ∧ k < w.heap.size) → k ≠ g := fun k hk => by omega
      have HB' := Lib.hid (HB.out.lim)
      go_loopw [26] (fun i wr => ∃ (k : Nat) (x : Int), k ≤ b.incls.length ∧ i = .int .i64 k ∧ 0 ≤ x ∧ x ≤ 400 ∧ Hid (inclsV b.cs.length b.rs.length b.incls 400 = inclsV b.cs.length b.rs.length (b.incls.drop k) x) ∧ Hid (wr.heap[g]? = some (.cells #[.int .i64 x] 3 (0, 0))) ∧ Keeps (· = g) W3 wr) (fun i _ => b.incls.length - (intOf i).toNat)
      case atStart => exact ⟨0, 400, Nat.zero_le _, rfl, by omega, by omega, rfl, HG3, Keeps.refl _ _⟩
      case round =>
        obtain ⟨k, x, hk, rfl, hx0, hx1, HI, HG, HK⟩ := hrel
        have hbx := HK.blk HB3.out (by omega)
        obtain ⟨x0, x1, x2, x3, x4, x5, x6⟩ := cells7 hbx
        have HBX := Lib.hid hbx
        have hsx := blkLt hbx
        clear hbx
        by_cases hlt : k < b.incls.length
        · have hne : b.incls ≠ [] := by intro h; rw [h] at hlt; simp at hlt
          obtain ⟨bb, oo, hA, hob, hc⟩ := (HB'.out.incls.keep (hK3.of0.then_ HK) hokg) hne
          dsimp only at hA
          subst hA
          obtain ⟨A1, q1, A2, q2, e0, e1, e2, e3, e4, e5, r1, r2⟩ := hc k hlt
          have hst := Lib.hid (inclsV_drop b.cs.length b.rs.length b.incls k hlt x)
          generalize b.incls[k] = pr at *
          obtain ⟨s1, s2⟩ := pr
          dsimp only at e0 e1 e2 e3 e4 e5 r1 r2 hst
          have R1 := Lib.hid r1
          have R2 := Lib.hid r2
          have hle1 := validC_le b.cs.length b.rs.length s1 x 1
          generalize hq : validC b.cs.length b.rs.length s1 x 1 = q at *
          obtain ⟨y1, y2⟩ := q
          have hle2 := validC_le b.cs.length b.rs.length s2 y2 1
          generalize hq2 : validC b.cs.length b.rs.length s2 y2 1 = q at *
          obtain ⟨z1, z2⟩ := q
          have HQ := Lib.hid hq
          have HQ2 := Lib.hid hq2
          have L1 := Lib.hid hle1
          have L2 := Lib.hid hle2
          have hgw := blkLt HG.out
          clear hq hq2 r1 r2 hc hle1 hle2
          go_wp2_with fail
          generalize hW4 : World.alloc _ _ = W4
          have hK4 : Keeps (fun _ => False) wr W4 := by rw [← hW4]; repeat (first | exact Keeps.refl _ _ | refine Keeps.drewN ?_ _ | refine Keeps.drew ?_ | refine Keeps.alloc ?_ _ | refine Keeps.set ?_ (Or.inl (by rfl)) _)
          have hb4 : W4.heap[wr.heap.size]? = some (.cells #[.int .i64 s1.op, .int .i64 s1.n, .slice A1 s1.args.length q1, .int .i64 s2.op, .int .i64 s2.n, .slice A2 s2.args.length q2] 92 (0, 0)) := by rw [← hW4]; exact blkNew rfl
          clear hW4
          refine (Valid_calls b.cs.length b.rs.length s1 A1 q1 x g (fun k => ok k ∧ k < w.heap.size) a0 a1 c0 c1 _ W4 hx0 hx1 (R1.out.keep hK4 (fun _ _ h => h)) hokg (hK4.blk HG.out (fun h => h)) (HT.out.keep ((hK3.of0.then_ HK).then_ hK4.of0) (by omega)) (by omega) (by omega)).mono ?_
          rw [HQ.out]
          rintro e w5 ⟨rfl, hg5, hk5⟩
          dsimp only at hg5
          have hK5 := hK4.of0.then_ hk5
          have hb5 := hk5.blk hb4 (by omega)
          have hbx := (hK4.of0.then_ hk5).blk HBX.out (by omega)
          have HB5 := Lib.hid hb5
          have HG5 := Lib.hid hg5
          clear x0 x1 x2 x3 x4 x5 x6 hk5 hg5
          obtain ⟨x0, x1, x2, x3, x4, x5, x6⟩ := cells7 hbx
          obtain ⟨i0, i1, i2, i3, i4, i5⟩ := cells6 hb5
          clear hbx hb5 hb4
          cases y1
          · have HF := Lib.hid (show kbValidB b = false by rw [HV.out]; simp [kbBody, HI.out, hst.out])
            go_wp2_with fail
            go_ret
            exact ⟨by rw [HF.out]; rfl, hK3.trans (HK.then_ hK5) (fun i hi => .inr (by omega))⟩
          · have hy2 := L1.out.2 rfl
            have hy3 := L1.out.1
            try dsimp only at hy2 hy3
            go_wp2_with fail
            refine (Valid_calls b.cs.length b.rs.length s2 A2 q2 y2 g (fun k => ok k ∧ k < w.heap.size) a0 a1 c0 c1 _ w5 hy2 (by omega) (R2.out.keep hK5 hokg) hokg HG5.out (HT.out.keep ((hK3.of0.then_ HK).then_ hK5) htg) (by omega) (by omega)).mono ?_
            rw [HQ2.out]
            rintro e w6 ⟨rfl, hg6, hk6⟩
            have HG6 := Lib.hid hg6
            clear hg6 i0 i1 i2 i3 i4 i5 x0 x1 x2 x3 x4 x5 x6
            have hK6 := hK5.then_ hk6
            cases z1
            · have HF := Lib.hid (show kbValidB b = false by rw [HV.out]; simp [kbBody, HI.out, hst.out])
              go_wp2_with fail
              go_ret
              exact ⟨by rw [HF.out]; rfl, hK3.trans (HK.then_ hK6) (fun i hi => .inr (by omega))⟩
            · have hz2 := L2.out.2 rfl
              have hz3 := L2.out.1
              try dsimp only at hz2 hz3
              go_wp2_with fail
              go_roundw
              case rel => exact ⟨k + 1, z2, by omega, by go_num, hz2, by omega, by unfold Hid; rw [HI.out, hst.out]; rfl, HG6, HK.then_ hK6⟩
              case measure => simp [intOf]; omega
        · obtain rfl : k = b.incls.length := by omega
          clear hlt
          have hin := Lib.hid (show inclsV b.cs.length b.rs.length b.incls 400 = (true, x) by rw [HI.out, List.drop_length]; rfl)
          go_wp2_with fail
          have hKa := hK3.of0.then_ HK
          clear hK3 HK HB3 HG3 HI hk x0 x1 x2 x3 x4 x5 x6
          obtain ⟨wa, rfl⟩ : ∃ wa : World, wa = wr := ⟨_, rfl⟩
          go_loopw [50] (fun i wr => ∃ k : Nat, k ≤ b.roles.length ∧ i = .int .i64 k ∧ Hid (rolesV b.rs.length b.roles = (b.roles.drop k).all (roleP b.rs.length)) ∧ Keeps (fun _ => False) wa wr) (fun i _ => b.roles.length - (intOf i).toNat)
          case atStart => exact ⟨0, Nat.zero_le _, rfl, rfl, Keeps.refl _ _⟩
          case round =>
            obtain ⟨k, hk, rfl, HI, HK⟩ := hrel
            have hbx := HK.blk HBX.out (fun h => h)
            have HBY := Lib.hid hbx
            obtain ⟨x0, x1, x2, x3, x4, x5, x6⟩ := cells7 hbx
            have hsy := blkLt hbx
            clear hbx
            by_cases hlt : k < b.roles.length
            · have hne : b.roles ≠ [] := by intro h; rw [h] at hlt; simp at hlt
              obtain ⟨bb, oo, hA, hob, hc⟩ := (HB'.out.roles.keep (hKa.then_ HK.of0) hokg) hne
              dsimp only at hA
              subst hA
              obtain ⟨e0, e1⟩ := hc k hlt
              have hst := Lib.hid (all_drop (roleP b.rs.length) b.roles k hlt)
              generalize b.roles[k] = pr at *
              obtain ⟨s1, s2⟩ := pr
              dsimp only at e0 e1
              clear hc
              go_wp2_with fail
              generalize hW4 : World.alloc _ _ = W4
              have hK4 : Keeps (fun _ => False) wr W4 := by rw [← hW4]; repeat (first | exact Keeps.refl _ _ | refine Keeps.drewN ?_ _ | refine Keeps.drew ?_ | refine Keeps.alloc ?_ _ | refine Keeps.set ?_ (Or.inl (by rfl)) _)
              have hb4 : W4.heap[wr.heap.size]? = some (.cells #[.int .i64 s1, .int .i64 s2] 84 (0, 0)) := by rw [← hW4]; exact blkNew rfl
              clear hW4
              have y1 := hK4.cell x1 (fun h => h)
              obtain ⟨i0, i1⟩ := cells2 hb4
              clear hb4 x0 x1 x2 x3 x4 x5 x6
              refine (role1_calls s1 w.heap.size b.rs.length a1 c1 W4 (by omega) y1).mono ?_
              cases hr1 : roleOk b.rs.length s1
              · have HF := Lib.hid (show kbValidB b = false by rw [HV.out]; simp [kbBody, HI.out, hst.out, roleP, hr1])
                rintro e w5 ⟨rfl, rfl⟩
                go_wp2_with fail
                go_ret
                exact ⟨by rw [HF.out]; rfl, (hKa.then_ (HK.then_ hK4).of0).new (fun i hi => by omega)⟩
              · rintro e w5 ⟨rfl, rfl⟩
                go_wp2_with fail
                refine (role1_calls s2 w.heap.size b.rs.length a1 c1 W4 (by omega) y1).mono ?_
                cases hr2 : roleOk b.rs.length s2
                · have HF := Lib.hid (show kbValidB b = false by rw [HV.out]; simp [kbBody, HI.out, hst.out, roleP, hr2])
                  rintro e w5 ⟨rfl, rfl⟩
                  go_wp2_with fail
                  go_ret
                  exact ⟨by rw [HF.out]; rfl, (hKa.then_ (HK.then_ hK4).of0).new (fun i hi => by omega)⟩
                · rintro e w5 ⟨rfl, rfl⟩
                  go_wp2_with fail
                  go_roundw
                  case rel => exact ⟨k + 1, by omega, by go_num, by unfold Hid; rw [HI.out, hst.out, roleP, hr1, hr2]; rfl, HK.then_ hK4⟩
                  case measure => simp [intOf]; omega
            · obtain rfl : k = b.roles.length := by omega
              clear hlt
              have hro := Lib.hid (show rolesV b.rs.length b.roles = true by rw [HI.out, List.drop_length]; rfl)
              go_wp2_with fail
              have hKb := hKa.then_ HK.of0
              have HGb := Lib.hid (HK.blk HG.out (fun h => h))
              clear hKa HK HI hk HG x0 x1 x2 x3 x4 x5 x6
              obtain ⟨wb, rfl⟩ : ∃ wb : World, wb = wr := ⟨_, rfl⟩
              go_loopw [70] (fun i wr => ∃ (k : Nat) (x' : Int), k ≤ b.facts.length ∧ i = .int .i64 k ∧ 0 ≤ x' ∧ x' ≤ 400 ∧ Hid (factsV b.cs.length b.rs.length b.is.length b.facts x = factsV b.cs.length b.rs.length b.is.length (b.facts.drop k) x') ∧ Hid (wr.heap[g]? = some (.cells #[.int .i64 x'] 3 (0, 0))) ∧ Keeps (· = g) wb wr) (fun i _ => b.facts.length - (intOf i).toNat)
              case atStart => exact ⟨0, x, Nat.zero_le _, rfl, hx0, hx1, rfl, HGb, Keeps.refl _ _⟩
              case round =>
                clear hx0 hx1
                obtain ⟨k, x', hk, rfl, hx0, hx1, HI, HG, HK⟩ := hrel
                have hbx := HK.blk HBY.out (by omega)
                have HBZ := Lib.hid hbx
                obtain ⟨x0, x1, x2, x3, x4, x5, x6⟩ := cells7 hbx
                have hsz := blkLt hbx
                clear hbx
                by_cases hlt : k < b.facts.length
                · have hne : b.facts ≠ [] := by intro h; rw [h] at hlt; simp at hlt
                  obtain ⟨bb, oo, hA, hob, hc⟩ := (HB'.out.facts.keep (hKb.then_ HK) hokg) hne
                  dsimp only at hA
                  subst hA
                  obtain ⟨A1, q1, e0, e1, e2, e3, r1⟩ := hc k hlt
                  have hst := Lib.hid (factsV_drop b.cs.length b.rs.length b.is.length b.facts k hlt x')
                  generalize b.facts[k] = pr at *
                  obtain ⟨s1, s2⟩ := pr
                  dsimp only at e0 e1 e2 e3 r1 hst
                  have R1 := Lib.hid r1
                  have hle1 := validC_le b.cs.length b.rs.length s2 x' 1
                  generalize hq : validC b.cs.length b.rs.length s2 x' 1 = q at *
                  obtain ⟨y1, y2⟩ := q
                  have HQ := Lib.hid hq
                  have L1 := Lib.hid hle1
                  have hgw := blkLt HG.out
                  clear hq r1 hc hle1
                  go_wp2_with fail
                  generalize hW4 : World.alloc _ _ = W4
                  have hK4 : Keeps (fun _ => False) wr W4 := by rw [← hW4]; repeat (first | exact Keeps.refl _ _ | refine Keeps.drewN ?_ _ | refine Keeps.drew ?_ | refine Keeps.alloc ?_ _ | refine Keeps.set ?_ (Or.inl (by rfl)) _)
                  have hb4 : W4.heap[wr.heap.size]? = some (.cells #[.int .i64 s1, .int .i64 s2.op, .int .i64 s2.n, .slice A1 s2.args.length q1] 87 (0, 0)) := by rw [← hW4]; exact blkNew rfl
                  clear hW4
                  have hbz := hK4.blk HBZ.out (fun h => h)
                  have hK5 := HK.then_ hK4.of0
                  have HG4 := Lib.hid (hK4.blk HG.out (fun h => h))
                  clear x0 x1 x2 x3 x4 x5 x6
                  obtain ⟨x0, x1, x2, x3, x4, x5, x6⟩ := cells7 hbz
                  obtain ⟨i0, i1, i2, i3⟩ := cells4 hb4
                  clear hb4 hbz
                  refine (ind1_calls s1 w.heap.size b.is.length a2 c2 W4 x2).mono ?_
                  cases hr1 : indOk b.is.length s1
                  · have HF := Lib.hid (show kbValidB b = false by rw [HV.out]; simp [kbBody, hin.out, HI.out, hst.out, hr1])
                    rintro e w5 ⟨rfl, rfl⟩
                    go_wp2_with fail
                    go_ret
                    exact ⟨by rw [HF.out]; rfl, (hKb.then_ hK5).new (fun i hi => by omega)⟩
                  · rintro e w5 ⟨rfl, rfl⟩
                    have hK6 := hKb.then_ hK5
                    go_wp2_with fail
                    refine (Valid_calls b.cs.length b.rs.length s2 A1 q1 x' g (fun k => ok k ∧ k < w.heap.size) a0 a1 c0 c1 _ W4 hx0 hx1 (R1.out.keep hK4 (fun _ _ h => h)) hokg HG4.out (HT.out.keep hK6 htg) (by omega) (by omega)).mono ?_
                    rw [HQ.out]
                    rintro e w5 ⟨rfl, hg5, hk5⟩
                    have HG5 := Lib.hid hg5
                    have hK7 := hK5.then_ hk5
                    clear hg5 x0 x1 x2 x3 x4 x5 x6 i0 i1 i2 i3
                    cases y1
                    · have HF := Lib.hid (show kbValidB b = false by rw [HV.out]; simp [kbBody, hin.out, HI.out, hst.out, hr1])
                      go_wp2_with fail
                      go_ret
                      exact ⟨by rw [HF.out]; rfl, (hKb.then_ hK7).new (fun i hi => by omega)⟩
                    · have hy2 := L1.out.2 rfl
                      have hy3 := L1.out.1
                      try dsimp only at hy2 hy3
                      go_wp2_with fail
                      go_roundw
                      case rel => exact ⟨k + 1, y2, by omega, by go_num, hy2, by omega, by unfold Hid; rw [HI.out, hst.out, hr1]; rfl, HG5, hK7⟩
                      case measure => simp [intOf]; omega
                · obtain rfl : k = b.facts.length := by omega
                  clear hlt
                  have hfa := Lib.hid (show (factsV b.cs.length b.rs.length b.is.length b.facts x).1 = true by rw [HI.out, List.drop_length]; rfl)
                  go_wp2_with fail
                  have hKc := hKb.then_ HK
                  clear hKb HK HI hk HG x0 x1 x2 x3 x4 x5 x6
                  obtain ⟨wc, rfl⟩ : ∃ wc : World, wc = wr := ⟨_, rfl⟩
                  go_loopw [91] (fun i wr => ∃ k : Nat, k ≤ b.links.length ∧ i = .int .i64 k ∧ Hid (linksV b.rs.length b.is.length b.links = (b.links.drop k).all (linkOk b.rs.length b.is.length)) ∧ Keeps (fun _ => False) wc wr) (fun i _ => b.links.length - (intOf i).toNat)
                  case atStart => exact ⟨0, Nat.zero_le _, rfl, rfl, Keeps.refl _ _⟩
                  case round =>
                    obtain ⟨k, hk, rfl, HI, HK⟩ := hrel
                    have hbx := HK.blk HBZ.out (fun h => h)
                    obtain ⟨x0, x1, x2, x3, x4, x5, x6⟩ := cells7 hbx
                    have hsy := blkLt hbx
                    clear hbx
                    by_cases hlt : k < b.links.length
                    · have hne : b.links ≠ [] := by intro h; rw [h] at hlt; simp at hlt
                      obtain ⟨bb, oo, hA, hob, hc⟩ := (HB'.out.links.keep (hKc.then_ HK.of0) hokg) hne
                      dsimp only at hA
                      subst hA
                      obtain ⟨e0, e1, e2⟩ := hc k hlt
                      have hst := Lib.hid (all_drop (linkOk b.rs.length b.is.length) b.links k hlt)
                      have hrg := Lib.hid (HB'.out.rng b.links[k] (List.getElem_mem hlt))
                      generalize b.links[k] = pr at *
                      obtain ⟨s1, s2, s3⟩ := pr
                      dsimp only at e0 e1 e2
                      clear hc
                      have hKw := hKc.then_ HK.of0
                      by_cases hs0 : s1 < 0
                      · have HF := Lib.hid (show kbValidB b = false by rw [HV.out]; simp [kbBody, HI.out, hst.out, linkOk, show ¬ 0 ≤ s1 by omega])
                        have d1 : decide (s1 < 0) = true := by simpa using hs0
                        go_wp2_with fail
                        go_ret
                        exact ⟨by rw [HF.out]; rfl, (hKw.alloc _).new (fun i hi => by omega)⟩
                      · have hs1 : 0 ≤ s1 := by omega
                        have d1 : decide (s1 < 0) = false := by simpa using hs1
                        have hlr := Lib.hid (link_role hrg.out (by omega) hs1 : roleOk b.rs.length (wrap64 (2 * s1)) = _)
                        go_wp2_with fail
                        generalize hW4 : World.alloc _ _ = W4
                        have hK4 : Keeps (fun _ => False) wr W4 := by rw [← hW4]; repeat (first | exact Keeps.refl _ _ | refine Keeps.drewN ?_ _ | refine Keeps.drew ?_ | refine Keeps.alloc ?_ _ | refine Keeps.set ?_ (Or.inl (by rfl)) _)
                        have hb4 : W4.heap[wr.heap.size]? = some (.cells #[.int .i64 s1, .int .i64 s2, .int .i64 s3] 89 (0, 0)) := by rw [← hW4]; exact blkNew rfl
                        clear hW4
                        have y0 := hK4.cell x0 (fun h => h)
                        have y1 := hK4.cell x1 (fun h => h)
                        have y2 := hK4.cell x2 (fun h => h)
                        obtain ⟨i0, i1, i2⟩ := cells3 hb4
                        have hK5 := hKw.then_ hK4.of0
                        clear hb4 x0 x1 x2 x3 x4 x5 x6
                        refine (role1_calls _ w.heap.size b.rs.length a1 c1 W4 (by omega) y1).mono ?_
                        rw [hlr.out]
                        by_cases hs2 : s1 < b.rs.length
                        · rw [decide_eq_true hs2]
                          have d2 : decide ((b.rs.length : Int) ≤ s1) = false := by simpa using hs2
                          rintro e w5 ⟨rfl, rfl⟩
                          go_wp2_with fail
                          refine (ind1_calls s2 w.heap.size b.is.length a2 c2 W4 y2).mono ?_
                          cases hi1 : indOk b.is.length s2
                          · have HF := Lib.hid (show kbValidB b = false by rw [HV.out]; simp [kbBody, HI.out, hst.out, linkOk, hi1])
                            rintro e w5 ⟨rfl, rfl⟩
                            go_wp2_with fail
                            go_ret
                            exact ⟨by rw [HF.out]; rfl, hK5.new (fun i hi => by omega)⟩
                          · rintro e w5 ⟨rfl, rfl⟩
                            go_wp2_with fail
                            refine (ind1_calls s3 w.heap.size b.is.length a2 c2 W4 y2).mono ?_
                            cases hi2 : indOk b.is.length s3
                            · have HF := Lib.hid (show kbValidB b = false by rw [HV.out]; simp [kbBody, HI.out, hst.out, linkOk, hi2])
                              rintro e w5 ⟨rfl, rfl⟩
                              go_wp2_with fail
                              go_ret
                              exact ⟨by rw [HF.out]; rfl, hK5.new (fun i hi => by omega)⟩
                            · rintro e w5 ⟨rfl, rfl⟩
                              go_wp2_with fail
                              go_roundw
                              case rel => exact ⟨k + 1, by omega, by go_num, by unfold Hid; rw [HI.out, hst.out, linkOk, hi1, hi2, decide_eq_true (show 0 ≤ s1 ∧ s1 < b.rs.length from ⟨hs1, hs2⟩)]; rfl, HK.then_ hK4⟩
                              case measure => simp [intOf]; omega
                        · rw [decide_eq_false hs2]
                          have HF := Lib.hid (show kbValidB b = false by rw [HV.out]; simp [kbBody, HI.out, hst.out, linkOk, hs2])
                          rintro e w5 ⟨rfl, rfl⟩
                          go_wp2_with fail
                          go_ret
                          exact ⟨by rw [HF.out]; rfl, hK5.new (fun i hi => by omega)⟩
                    · obtain rfl : k = b.links.length := by omega
                      have hli := Lib.hid (show linksV b.rs.length b.is.length b.links = true by rw [HI.out, List.drop_length]; rfl)
                      have HF := Lib.hid (show kbValidB b = true by rw [HV.out]; simp [kbBody, hin.out, hro.out, hfa.out, hli.out])
                      go_wp2_with fail
                      go_ret
                      exact ⟨by rw [HF.out]; rfl, (hKc.then_ HK.of0).new (fun i hi => by omega)⟩
end Go.Proofs.YthiclhbnggehoaaGreatDoor
