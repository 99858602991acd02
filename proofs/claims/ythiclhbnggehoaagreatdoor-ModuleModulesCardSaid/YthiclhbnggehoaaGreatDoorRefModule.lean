/- Plain: the names that the reference collects; the list that its module comes to. -/
import Derived.Test.YthiclhbnggehoaaGreatDoorRefUses
import Derived.Test.YthiclhbnggehoaaGreatDoorModule
import Derived.Deep.Cut
import Derived.Test.YthiclhbnggehoaaGreatDoorRefLocal
import Derived.Test.YthiclhbnggehoaaGreatDoorModTop
import Derived.Test.YthiclhbnggehoaaGreatDoorSameInts
namespace Go.Proofs.YthiclhbnggehoaaGreatDoor
open Go.RowKit
set_option linter.unusedVariables false
set_option linter.unusedSimpArgs false
theorem risL_above {m : Int} : ∀ {l : List Int} {y : Int}, risL m (some y) l = true → ∀ x ∈ l, y < x
  | x :: r, y, h, z, hz => by
    simp only [risL, lowO, Bool.and_eq_true, decide_eq_true_eq] at h
    rcases List.mem_cons.1 hz with rfl | hz
    · exact h.1.2
    · have := risL_above h.2 z hz; omega
theorem inL_eq {l m : List Int} (h : ∀ y, y ∈ l ↔ y ∈ m) : inL l = inL m := by funext n; unfold inL; exact decide_eq_decide.2 (h n)
theorem half_fit {nr : Nat} {n : Int} (hn : nr ≤ 100000) (h : 0 ≤ n ∧ n < 2 * (nr : Int)) : wrap64 (n.tdiv 2) = n / 2 ∧ 0 ≤ n / 2 ∧ n / 2 < nr := by
  refine ⟨?_, by omega, by omega⟩
  rw [Int.tdiv_eq_ediv_of_nonneg h.1]
  unfold wrap64; omega
mutual
theorem usesC_mem (nc nr : Nat) (hn : nr ≤ 100000) : ∀ (c : Con) (p : List Int × List Int), fitC nc nr c = true → (∀ y, (y ∈ (usesC c p).1 ↔ y ∈ p.1 ∨ y ∈ occNames c) ∧ (y ∈ (usesC c p).2 ↔ y ∈ p.2 ∨ y ∈ occRoles c))
  | ⟨op, n, args⟩, p, hf => by
    obtain ⟨-, -, hno, hfl⟩ := fit_parts hf
    intro y
    have h := usesL_mem nc nr hn args (useN ⟨op, n, args⟩ p.1, useR ⟨op, n, args⟩ p.2) hfl y
    have e1 : y ∈ useN ⟨op, n, args⟩ p.1 ↔ y ∈ p.1 ∨ y ∈ (if op = 0 then [n] else []) := by
      show y ∈ (if op = 0 then insZ n p.1 else p.1) ↔ _
      by_cases h0 : op = 0
      · simp only [h0, if_true, insZ_mem, List.mem_singleton]; exact or_comm
      · simp [h0]
    have e2 : y ∈ useR ⟨op, n, args⟩ p.2 ↔ y ∈ p.2 ∨ y ∈ (if op = 6 ∨ op = 7 then [n / 2] else []) := by
      show y ∈ (if op = 6 ∨ op = 7 then insZ (wrap64 (n.tdiv 2)) p.2 else p.2) ↔ _
      by_cases h6 : op = 6 ∨ op = 7
      · have hb : 0 ≤ n ∧ n < 2 * (nr : Int) := by
          unfold nodeOk at hno
          rw [if_neg (by omega), if_pos h6] at hno
          exact of_decide_eq_true hno
        simp only [h6, if_true, insZ_mem, List.mem_singleton, (half_fit hn hb).1]; exact or_comm
      · simp [h6]
    refine ⟨?_, ?_⟩
    · simp only [usesC, occNames, List.mem_append]; rw [h.1, e1, or_assoc]
    · simp only [usesC, occRoles, List.mem_append]; rw [h.2, e2, or_assoc]
theorem usesL_mem (nc nr : Nat) (hn : nr ≤ 100000) : ∀ (l : List Con) (p : List Int × List Int), fitL nc nr l = true → (∀ y, (y ∈ (usesL l p).1 ↔ y ∈ p.1 ∨ y ∈ occNamesL l) ∧ (y ∈ (usesL l p).2 ↔ y ∈ p.2 ∨ y ∈ occRolesL l))
  | [], p, _ => fun y => by simp [usesL, occNamesL, occRolesL]
  | c :: r, p, hf => by
    simp only [fitL, Bool.and_eq_true] at hf
    intro y
    have h1 := usesC_mem nc nr hn c p hf.1 y
    have h2 := usesL_mem nc nr hn r (usesC c p) hf.2 y
    simp only [usesL, occNamesL, occRolesL, List.mem_append]
    exact ⟨by rw [h2.1, h1.1, or_assoc], by rw [h2.2, h1.2, or_assoc]⟩
end
/-- Both rows rise, below the numbers of names. -/
def Ris2 (nc nr : Nat) (p : List Int × List Int) : Prop := risingB p.1 nc = true ∧ risingB p.2 nr = true
mutual
theorem usesC_ris (nc nr : Nat) (hn : nr ≤ 100000) : ∀ (c : Con) (p : List Int × List Int), fitC nc nr c = true → Ris2 nc nr p → Ris2 nc nr (usesC c p)
  | ⟨op, n, args⟩, p, hf, hp => by
    obtain ⟨-, -, hno, hfl⟩ := fit_parts hf
    simp only [usesC]
    refine usesL_ris nc nr hn args _ hfl ⟨?_, ?_⟩
    · show risingB (if op = 0 then insZ n p.1 else p.1) nc = true
      by_cases h0 : op = 0
      · have hb : 0 ≤ n ∧ n < (nc : Int) := by unfold nodeOk at hno; rw [if_pos h0] at hno; exact of_decide_eq_true hno
        rw [if_pos h0]; exact rising_ins hp.1 hb.1 hb.2
      · rw [if_neg h0]; exact hp.1
    · show risingB (if op = 6 ∨ op = 7 then insZ (wrap64 (n.tdiv 2)) p.2 else p.2) nr = true
      by_cases h6 : op = 6 ∨ op = 7
      · have hb : 0 ≤ n ∧ n < 2 * (nr : Int) := by unfold nodeOk at hno; rw [if_neg (by omega), if_pos h6] at hno; exact of_decide_eq_true hno
        obtain ⟨h1, h2, h3⟩ := half_fit hn hb
        rw [if_pos h6, h1]; exact rising_ins hp.2 h2 h3
      · rw [if_neg h6]; exact hp.2
theorem usesL_ris (nc nr : Nat) (hn : nr ≤ 100000) : ∀ (l : List Con) (p : List Int × List Int), fitL nc nr l = true → Ris2 nc nr p → Ris2 nc nr (usesL l p)
  | [], p, _, hp => by simpa [usesL] using hp
  | c :: r, p, hf, hp => by
    simp only [fitL, Bool.and_eq_true] at hf
    simp only [usesL]
    exact usesL_ris nc nr hn r _ hf.2 (usesC_ris nc nr hn c p hf.1 hp)
end
/-- An axiom over so many names. -/
def AxFit (nc nr : Nat) : Ax → Prop
  | .incl c d => fitC nc nr c = true ∧ fitC nc nr d = true
  | .role r s => (0 ≤ r ∧ r < 2 * (nr : Int)) ∧ 0 ≤ s ∧ s < 2 * (nr : Int)
  | .fact _ c => fitC nc nr c = true
  | .link r _ _ => 0 ≤ r ∧ r < (nr : Int)
theorem axFit_at {b : Kb} (hv : KbFit b) {k : Nat} (hk : k < kbCount b) : AxFit b.cs.length b.rs.length (axAt b k) := by
  unfold kbCount at hk
  by_cases h1 : k < b.incls.length
  · rw [axAt_incl h1]; exact hv.i _ (List.getElem_mem _)
  · by_cases h2 : k < b.incls.length + b.roles.length
    · obtain ⟨j, rfl⟩ : ∃ j, k = b.incls.length + j := ⟨k - b.incls.length, by omega⟩
      rw [axAt_role (show j < b.roles.length by omega)]; exact hv.r _ (List.getElem_mem _)
    · by_cases h3 : k < b.incls.length + b.roles.length + b.facts.length
      · obtain ⟨j, rfl⟩ : ∃ j, k = b.incls.length + b.roles.length + j := ⟨k - b.incls.length - b.roles.length, by omega⟩
        rw [axAt_fact (show j < b.facts.length by omega)]; exact hv.f _ (List.getElem_mem _)
      · obtain ⟨j, rfl⟩ : ∃ j, k = b.incls.length + b.roles.length + b.facts.length + j := ⟨k - b.incls.length - b.roles.length - b.facts.length, by omega⟩
        rw [axAt_link (show j < b.links.length by omega)]; exact hv.l _ (List.getElem_mem _)
theorem useAx_mem {nc nr : Nat} (hn : nr ≤ 100000) : ∀ {x : Ax} (p : List Int × List Int), AxFit nc nr x → ∀ y, (y ∈ (useAx x p).1 ↔ y ∈ p.1 ∨ y ∈ namesAx x) ∧ (y ∈ (useAx x p).2 ↔ y ∈ p.2 ∨ y ∈ rolesAx x)
  | .incl c d, p, h, y => by
    have h1 := usesC_mem nc nr hn c p h.1 y
    have h2 := usesC_mem nc nr hn d (usesC c p) h.2 y
    simp only [useAx, namesAx, rolesAx, List.mem_append]
    exact ⟨by rw [h2.1, h1.1, or_assoc], by rw [h2.2, h1.2, or_assoc]⟩
  | .role r s, p, h, y => by
    simp only [useAx, namesAx, rolesAx, insZ_mem, List.mem_cons, List.not_mem_nil, or_false]
    refine ⟨trivial, ?_⟩
    constructor
    · rintro (h | h | h); exact .inr (.inr h); exact .inr (.inl h); exact .inl h
    · rintro (h | h | h); exact .inr (.inr h); exact .inr (.inl h); exact .inl h
  | .fact _ c, p, h, y => usesC_mem nc nr hn c p h y
  | .link r _ _, p, h, y => by
    simp only [useAx, namesAx, rolesAx, insZ_mem, List.mem_cons, List.not_mem_nil, or_false, true_and]
    exact or_comm
theorem useAx_ris {nc nr : Nat} (hn : nr ≤ 100000) : ∀ {x : Ax} {p : List Int × List Int}, AxFit nc nr x → Ris2 nc nr p → Ris2 nc nr (useAx x p)
  | .incl c d, p, h, hp => usesC_ris nc nr hn d _ h.2 (usesC_ris nc nr hn c p h.1 hp)
  | .role r s, p, h, hp => by
    obtain ⟨-, a1, a2⟩ := half_fit hn h.1
    obtain ⟨-, b1, b2⟩ := half_fit hn h.2
    exact ⟨hp.1, rising_ins (rising_ins hp.2 a1 a2) b1 b2⟩
  | .fact _ c, p, h, hp => usesC_ris nc nr hn c p h hp
  | .link r _ _, p, h, hp => ⟨hp.1, rising_ins hp.2 h.1 h.2⟩
/-- The names of some axioms, put into a signature. -/
def namesF (b : Kb) (X : List Nat) (p : List Int × List Int) : List Int × List Int := X.foldl (fun p k => useAx (axAt b k) p) p
theorem namesF_snoc (b : Kb) (X : List Nat) (k : Nat) (p : List Int × List Int) : namesF b (X ++ [k]) p = useAx (axAt b k) (namesF b X p) := by unfold namesF; rw [List.foldl_append]; rfl
theorem namesF_facts {b : Kb} (hv : KbFit b) : ∀ {X : List Nat} {p : List Int × List Int}, (∀ k ∈ X, k < kbCount b) → Ris2 b.cs.length b.rs.length p → Ris2 b.cs.length b.rs.length (namesF b X p) ∧ (∀ y, (y ∈ (namesF b X p).1 ↔ y ∈ sigN (axAt b) p.1 X) ∧ (y ∈ (namesF b X p).2 ↔ y ∈ sigR (axAt b) p.2 X))
  | [], p, _, hp => ⟨hp, fun y => by simp [namesF, sigN, sigR]⟩
  | k :: r, p, hX, hp => by
    have hf := axFit_at hv (hX k (by simp))
    have hm := useAx_mem (nc := b.cs.length) hv.n p hf
    obtain ⟨h1, h2⟩ := namesF_facts hv (X := r) (p := useAx (axAt b k) p) (fun j hj => hX j (by simp [hj])) (useAx_ris hv.n hf hp)
    refine ⟨h1, fun y => ?_⟩
    have hy := h2 y
    have hz := hm y
    simp only [sigN, sigR, List.mem_append, List.flatMap_cons] at hy ⊢
    exact ⟨by show y ∈ (namesF b r (useAx (axAt b k) p)).1 ↔ _; rw [hy.1, hz.1, or_assoc], by show y ∈ (namesF b r (useAx (axAt b k) p)).2 ↔ _; rw [hy.2, hz.2, or_assoc]⟩
theorem namesF_local {b : Kb} (hv : KbFit b) {X : List Nat} {p : List Int × List Int} (hX : ∀ k ∈ X, k < kbCount b) (hp : Ris2 b.cs.length b.rs.length p) (top : Bool) (k : Nat) : localX top (inL (namesF b X p).1) (inL (namesF b X p).2) (axAt b k) = localAt (axAt b) top p.1 p.2 X k := by
  have h := (namesF_facts hv hX hp).2
  unfold localAt
  rw [inL_eq (fun y => (h y).1), inL_eq (fun y => (h y).2)]
theorem rising_len {m : Nat} {l : List Int} (h : risingB l m = true) : l.length ≤ m := by
  have key : ∀ (l : List Int) (p : Option Int) (lo : Int), 0 ≤ lo → risL m p l = true → (∀ x ∈ l, lo ≤ x) → (l.length : Int) ≤ m - lo ∨ l = [] := by
    intro l
    induction l with
    | nil => intro p lo _ _ _; exact .inr rfl
    | cons x r ih =>
      intro p lo h0 h hlo
      simp only [risL, Bool.and_eq_true, decide_eq_true_eq] at h
      have hx := hlo x (by simp)
      have h1 := ih (some x) (x + 1) (by omega) h.2 (fun y hy => by have := risL_above h.2 y hy; omega)
      simp only [List.length_cons]
      rcases h1 with h1 | h1
      · left; omega
      · left; subst h1; simp; omega
  rcases key l none 0 (Int.le_refl _) h (fun x hx => (risL_bounds h x hx).1) with h | h
  · omega
  · subst h; simp
theorem rising_eq {m : Int} : ∀ {l l' : List Int} {p p' : Option Int}, risL m p l = true → risL m p' l' = true → (∀ x, x ∈ l ↔ x ∈ l') → l = l'
  | [], [], _, _, _, _, _ => rfl
  | [], y :: s, _, _, _, _, h => absurd ((h y).2 (by simp)) (by simp)
  | x :: r, [], _, _, _, _, h => absurd ((h x).1 (by simp)) (by simp)
  | x :: r, y :: s, p, p', h1, h2, h => by
    simp only [risL, Bool.and_eq_true, decide_eq_true_eq] at h1 h2
    have a1 := risL_above h1.2
    have a2 := risL_above h2.2
    have e : x = y := by
      have hx := (h x).1 (by simp)
      have hy := (h y).2 (by simp)
      rcases List.mem_cons.1 hx with e | hx
      · exact e
      · rcases List.mem_cons.1 hy with e | hy
        · exact e.symm
        · have := a1 y hy; have := a2 x hx; omega
    subst e
    congr 1
    refine rising_eq h1.2 h2.2 (fun z => ⟨fun hz => ?_, fun hz => ?_⟩)
    · rcases List.mem_cons.1 ((h z).1 (by simp [hz])) with e | hz'
      · have := a1 z hz; omega
      · exact hz'
    · rcases List.mem_cons.1 ((h z).2 (by simp [hz])) with e | hz'
      · have := a2 z hz; omega
      · exact hz'
end Go.Proofs.YthiclhbnggehoaaGreatDoor
/- isagogeref19.Names: the names that occur in some axioms, and in a signature. -/
namespace Go.Proofs.YthiclhbnggehoaaGreatDoor
open Go.RowKit
set_option linter.unusedVariables false
set_option linter.unusedSimpArgs false
theorem both_use {w wr w' : World} {g : Nat} {q q' : List Int × List Int} {v u v' u' : Value} (h1 : wr.heap[g]? = some (.cells #[v, u] 33 (0, 0))) (h2 : w.heap.size ≤ g) (o1 : OwnInts wr w.heap.size v q.1) (o2 : OwnInts wr w.heap.size u q.2)
    (hk : Keeps (fun _ => False) w wr) (ha : AccU w.heap.size v u wr q' v' u' w') : Both w g q'.1 q'.2 ((w'.setCell ⟨g, 0, none⟩ v').setCell ⟨g, 1, none⟩ u') := by
  have hg' := ha.keep.blk h1 (fun e => by rcases e with e | e; exact o1.notBox h1 e; exact o2.notBox h1 e)
  have hs : Keeps (fun i => i = g) w' ((w'.setCell ⟨g, 0, none⟩ v').setCell ⟨g, 1, none⟩ u') := ((Keeps.refl (fun i => i = g) w').set (g := g) (Or.inl (by rfl)) _).set (g := g) (Or.inl (by rfl)) _
  exact ⟨v', u', by simpa using blkSet (blkSet hg' 0 v') 1 u', h2, ha.a.keep' hs (fun b e1 e2 => ha.a.notBox hg' (by rw [← e2]; exact e1)), ha.b.keep' hs (fun b e1 e2 => ha.b.notBox hg' (by rw [← e2]; exact e1)), ha.ne,
    (hk.trans ha.keep (fun i hi => by rcases hi with hi | hi; exact .inr (o1.lt i hi).1; exact .inr (o2.lt i hi).1)).trans hs (fun i hi => .inr (by omega))⟩
/-- A signature in new memory is returned. -/
def RetN (w : World) (q : List Int × List Int) (e : Ending) (w' : World) : Prop := ∃ v u, e = .returned (.agg #[v, u]) ∧ OwnInts w' w.heap.size v q.1 ∧ OwnInts w' w.heap.size u q.2 ∧ Keeps (fun _ => False) w w'
set_option maxRecDepth 100000 in
set_option maxHeartbeats 16000000 in
theorem names19_calls (b : Kb) (p : KbA) (X : List Nat) (C R : List Int) (A0 AS BS : Option Addr) (cl cS dS : Nat) (ok : Nat → Prop) (w : World) (hb : KbR ok w b p) (hv : KbFit b) (hX : ∀ k ∈ X, k < kbCount b) (hxl : X.length ≤ 1000000) (hl : Row1 ok w (Value.int .i64) (zs X) A0) (hs : SigR ok w C R AS BS) (hr : Ris2 b.cs.length b.rs.length (C, R))
    (hn1 : b.cs.length ≤ 10000) (hn2 : b.rs.length ≤ 10000) (hl1 : b.incls.length ≤ 1000000) (hl2 : b.roles.length ≤ 1000000) (hl3 : b.facts.length ≤ 1000000) (hl4 : b.links.length ≤ 1000000) (hsz : ∀ k, k < kbCount b → axSize (axAt b k) ≤ 50000) :
    Calls Tryz.prog 26 #[.agg #[.slice p.a0 b.cs.length p.c0, .slice p.a1 b.rs.length p.c1, .slice p.a2 b.is.length p.c2, .slice p.a3 b.incls.length p.c3, .slice p.a4 b.roles.length p.c4, .slice p.a5 b.facts.length p.c5, .slice p.a6 b.links.length p.c6], .slice A0 X.length cl, .agg #[.slice AS C.length cS, .slice BS R.length dS]] w (RetN w (namesF b X (C, R))) := by
  have hC : C.length ≤ b.cs.length := rising_len hr.1
  have hR : R.length ≤ b.rs.length := rising_len hr.2
  have HUS : Hid (∀ (k : Nat) (v u : Value) (q : List Int × List Int) (base : Nat) (W : World), Keeps (fun _ => False) w W → k < kbCount b → base ≤ W.heap.size → w.heap.size ≤ base → Ris2 b.cs.length b.rs.length q → AccU base v u W q v u W →
      Calls Tryz.prog 56 #[.agg #[.slice p.a0 b.cs.length p.c0, .slice p.a1 b.rs.length p.c1, .slice p.a2 b.is.length p.c2, .slice p.a3 b.incls.length p.c3, .slice p.a4 b.roles.length p.c4, .slice p.a5 b.facts.length p.c5, .slice p.a6 b.links.length p.c6], .int .i64 (k : Int), .agg #[v, u]] W (RetU base v u W (useAx (axAt b k) q))) := fun k v u q base W h hk hbw hwb hq ha =>
    uses19_calls base b p k v u q (fun k => ok k ∧ k < w.heap.size) W ((hb.lim).keep h (fun _ _ h => h)) hv hbw (fun j hj => ⟨fun e => by have := (ha.a.lt' e).1; have := hj.2; omega, fun e => by have := (ha.b.lt' e).1; have := hj.2; omega⟩) ha hk hl1 hl2 hl3 hl4 (by have := rising_len hq.1; have := hsz k hk; omega) (by have := rising_len hq.2; have := hsz k hk; omega)
  have HV := Lib.hid hv
  have HX := Lib.hid hX
  have HL := Lib.hid hl
  have HRS := Lib.hid hr
  have hzl : (zs X).length = X.length := zs_len _
  have HS := Lib.hid hs
  have HZL := Lib.hid hzl
  clear hb hl hs hX hr hzl hsz
  obtain ⟨a0, a1, a2, a3, a4, a5, a6, c0, c1, c2, c3, c4, c5, c6⟩ := p
  simp only at HUS ⊢
  go_enter Tryz.func26, Tryz.ntmps26
  go_upto_region 1 with fail
  generalize hW0 : World.alloc _ _ = W0
  have hk0 : Keeps (fun _ => False) w W0 := by rw [← hW0]; repeat (first | exact Keeps.refl _ _ | refine Keeps.drewN ?_ _ | refine Keeps.drew ?_ | refine Keeps.alloc ?_ _ | refine Keeps.set ?_ (Or.inl (by rfl)) _)
  have hb0 : W0.heap[w.heap.size]? = some (.cells #[.slice a0 b.cs.length c0, .slice a1 b.rs.length c1, .slice a2 b.is.length c2, .slice a3 b.incls.length c3, .slice a4 b.roles.length c4, .slice a5 b.facts.length c5, .slice a6 b.links.length c6] 30 (0, 0)) := by rw [← hW0]; exact blkAlloc (blkAlloc (blkNew rfl) _) _
  have hb1 : W0.heap[w.heap.size + 1]? = some (.cells #[.slice AS C.length cS, .slice BS R.length dS] 33 (0, 0)) := by rw [← hW0]; exact blkAlloc (blkNew (by simp)) _
  have hb2 : W0.heap[w.heap.size + 1 + 1]? = some (.cells #[.slice none 0 0, .slice none 0 0] 33 (0, 0)) := by rw [← hW0]; exact blkNew (by simp)
  clear hW0
  have HK0 := Lib.hid hk0
  have HB0 := Lib.hid hb0
  have HB1 := Lib.hid hb1
  have HB2 := Lib.hid hb2
  have hz0 := hk0.size
  have HSC := Lib.hid (intSrc (cap := cS) (HS.out.c.keep hk0 (fun _ _ h => h)))
  have HSR := Lib.hid (intSrc (cap := dS) (HS.out.r.keep hk0 (fun _ _ h => h)))
  have hub : w.heap.size + 1 + 1 < W0.heap.size := blkLt hb2
  clear hk0 hb0 hb1 hb2
  go_cut [7] from 7 (fun v wc => ∃ g, v = .pointer (some ⟨g, 0, none⟩) ∧ Both W0 g C R wc)
  case first =>
    refine wp_region_inv2 (fun a0 L a wc => ∃ (l0 l1 l2 l3 l4 l5 l6 l7 l8 l9 l10 : Bool) (t10 t11 t12 t13 t14 t15 t16 t17 t18 t7 : Value), L = #[l0, l1, l2, l3, l4, l5, l6, l7, l8, l9, l10] ∧ a = ((((((((((a0).put (some 10) t10).put (some 11) t11).put (some 12) t12).put (some 13) t13).put (some 14) t14).put (some 15) t15).put (some 16) t16).put (some 17) t17).put (some 18) t18).put (some 7) t7 ∧ GI W0 C R (.pointer (some ⟨w.heap.size + 1, 0, none⟩)) (.slice AS C.length cS) (.pointer (some ⟨w.heap.size + 1, 1, none⟩)) (.slice BS R.length dS) l0 l1 l2 l3 l4 l5 l6 l7 l8 l9 l10 t10 t11 t12 t13 t14 t15 t16 t17 t18 t7 wc) _ _ (by kernel_rfl) (by kernel_rfl) ?i0 ?ie ?is
    case i0 => exact ⟨false, false, false, false, false, false, false, false, false, false, false, undef, undef, undef, undef, undef, undef, undef, undef, undef, undef, rfl, by simp only [Act.put, List.setIfInBounds_toArray, List.set_cons_zero, List.set_cons_succ], by simp, by simp, by simp, by simp, by simp [cur], by simp [cur], by simp [cur], by simp, by simp, by simp, by simp, by simp, by simp, (Keeps.refl _ _).drew⟩
    case ie =>
      rintro L a wc ⟨l0, l1, l2, l3, l4, l5, l6, l7, l8, l9, l10, t10, t11, t12, t13, t14, t15, t16, t17, t18, t7, rfl, rfl, hI⟩ hr
      obtain rfl : l0 = true := hr 0 (by decide)
      obtain rfl : l1 = true := hr 1 (by decide)
      obtain rfl : l2 = true := hr 2 (by decide)
      obtain rfl : l3 = true := hr 3 (by decide)
      obtain rfl : l4 = true := hr 4 (by decide)
      obtain rfl : l5 = true := hr 5 (by decide)
      obtain rfl : l6 = true := hr 6 (by decide)
      obtain rfl : l7 = true := hr 7 (by decide)
      obtain rfl : l8 = true := hr 8 (by decide)
      obtain rfl : l9 = true := hr 9 (by decide)
      obtain rfl : l10 = true := hr 10 (by decide)
      clear hr
      simp only [Act.put, List.setIfInBounds_toArray, List.set_cons_zero, List.set_cons_succ]
      obtain ⟨g, rfl, hB⟩ := hI.both
      have HN := Lib.hid hB
      clear hI hB
      go_wp2_with fail
      go_meet
      exact ⟨g, rfl, HN.out⟩
    case is =>
      rintro L a wc i ⟨l0, l1, l2, l3, l4, l5, l6, l7, l8, l9, l10, t10, t11, t12, t13, t14, t15, t16, t17, t18, t7, rfl, rfl, hI⟩ hi hf hd K hK
      have hi' : i < 11 := hi
      have hor : i = 0 ∨ i = 1 ∨ i = 2 ∨ i = 3 ∨ i = 4 ∨ i = 5 ∨ i = 6 ∨ i = 7 ∨ i = 8 ∨ i = 9 ∨ i = 10 := by omega
      clear hi hi'
      rcases hor with rfl | rfl | rfl | rfl | rfl | rfl | rfl | rfl | rfl | rfl | rfl
      · obtain rfl : l0 = false := hf
        clear hd
        simp only [Act.put, List.setIfInBounds_toArray, List.set_cons_zero, List.set_cons_succ]
        refine wpOp_step rfl (fun K' hK' => ?_)
        go_simp
        exact hK' _ _ (hK _ _ ⟨_, _, _, _, _, _, _, _, _, _, _, _, _, _, _, _, _, _, _, _, _, rfl, by simp only [Act.put, List.setIfInBounds_toArray, List.set_cons_zero, List.set_cons_succ], hI.s0⟩)
      · obtain rfl : l1 = false := hf
        clear hd
        simp only [Act.put, List.setIfInBounds_toArray, List.set_cons_zero, List.set_cons_succ]
        refine wpOp_step rfl (fun K' hK' => ?_)
        go_simp
        exact hK' _ _ (hK _ _ ⟨_, _, _, _, _, _, _, _, _, _, _, _, _, _, _, _, _, _, _, _, _, rfl, by simp only [Act.put, List.setIfInBounds_toArray, List.set_cons_zero, List.set_cons_succ], hI.s1⟩)
      · obtain rfl : l2 = false := hf
        have hd' := hd _ rfl
        obtain rfl : l1 = true := by first | exact hd' 0 (by decide) | exact hd' 1 (by decide) | exact hd' 2 (by decide) | exact hd' 3 (by decide) | exact hd' 4 (by decide) | exact hd' 5 (by decide) | exact hd' 6 (by decide) | exact hd' 7 (by decide) | exact hd' 8 (by decide) | exact hd' 9 (by decide) | exact hd' 10 (by decide)
        clear hd'
        clear hd
        have e1 := hI.a1 rfl
        subst e1
        obtain ⟨y0, y1⟩ := cells2 (hI.k.blk HB1.out (fun h => h))
        have ul := blkLt (hI.k.blk HB1.out (fun h => h))
        simp only [Act.put, List.setIfInBounds_toArray, List.set_cons_zero, List.set_cons_succ]
        refine wpOp_step rfl (fun K' hK' => ?_)
        go_simp
        exact hK' _ _ (hK _ _ ⟨_, _, _, _, _, _, _, _, _, _, _, _, _, _, _, _, _, _, _, _, _, rfl, by simp only [Act.put, List.setIfInBounds_toArray, List.set_cons_zero, List.set_cons_succ], hI.s2⟩)
      · obtain rfl : l3 = false := hf
        have hd' := hd _ rfl
        obtain rfl : l0 = true := by first | exact hd' 0 (by decide) | exact hd' 1 (by decide) | exact hd' 2 (by decide) | exact hd' 3 (by decide) | exact hd' 4 (by decide) | exact hd' 5 (by decide) | exact hd' 6 (by decide) | exact hd' 7 (by decide) | exact hd' 8 (by decide) | exact hd' 9 (by decide) | exact hd' 10 (by decide)
        obtain rfl : l2 = true := by first | exact hd' 0 (by decide) | exact hd' 1 (by decide) | exact hd' 2 (by decide) | exact hd' 3 (by decide) | exact hd' 4 (by decide) | exact hd' 5 (by decide) | exact hd' 6 (by decide) | exact hd' 7 (by decide) | exact hd' 8 (by decide) | exact hd' 9 (by decide) | exact hd' 10 (by decide)
        clear hd'
        clear hd
        have e2 := hI.a2 rfl
        subst e2
        have o1 : OwnInts wc W0.heap.size t10 [] := hI.r1 _ _ rfl
        have hkI := hI.k
        simp only [Act.put, List.setIfInBounds_toArray, List.set_cons_zero, List.set_cons_succ]
        refine wpOp_step rfl (fun K' hK' => ?_)
        refine step_appH (by rfl) _ _ 31 31 (by rfl) W0.heap.size 3 (.int .i64 0) 1 8 Tryz.underlying31 infoInt rfl (by decide) (by decide) t10 0 [] o1 (by rfl) (.slice AS C.length cS) _ _ (HSC.out wc hkI) (by rfl) (by omega) hkI.size ?_
        intro v' w6 ho6 hk6 hat6
        rw [List.nil_append, Nat.zero_add] at ho6
        show K' (Act.put _ (some 13) _) _
        simp only [Act.put, List.setIfInBounds_toArray, List.set_cons_zero, List.set_cons_succ]
        exact hK' _ _ (hK _ _ ⟨_, _, _, _, _, _, _, _, _, _, _, _, _, _, _, _, _, _, _, _, _, rfl, by simp only [Act.put, List.setIfInBounds_toArray, List.set_cons_zero, List.set_cons_succ], hI.s3 ho6 hk6 hat6⟩)
      · obtain rfl : l4 = false := hf
        clear hd
        simp only [Act.put, List.setIfInBounds_toArray, List.set_cons_zero, List.set_cons_succ]
        refine wpOp_step rfl (fun K' hK' => ?_)
        go_simp
        exact hK' _ _ (hK _ _ ⟨_, _, _, _, _, _, _, _, _, _, _, _, _, _, _, _, _, _, _, _, _, rfl, by simp only [Act.put, List.setIfInBounds_toArray, List.set_cons_zero, List.set_cons_succ], hI.s4⟩)
      · obtain rfl : l5 = false := hf
        clear hd
        simp only [Act.put, List.setIfInBounds_toArray, List.set_cons_zero, List.set_cons_succ]
        refine wpOp_step rfl (fun K' hK' => ?_)
        go_simp
        exact hK' _ _ (hK _ _ ⟨_, _, _, _, _, _, _, _, _, _, _, _, _, _, _, _, _, _, _, _, _, rfl, by simp only [Act.put, List.setIfInBounds_toArray, List.set_cons_zero, List.set_cons_succ], hI.s5⟩)
      · obtain rfl : l6 = false := hf
        have hd' := hd _ rfl
        obtain rfl : l5 = true := by first | exact hd' 0 (by decide) | exact hd' 1 (by decide) | exact hd' 2 (by decide) | exact hd' 3 (by decide) | exact hd' 4 (by decide) | exact hd' 5 (by decide) | exact hd' 6 (by decide) | exact hd' 7 (by decide) | exact hd' 8 (by decide) | exact hd' 9 (by decide) | exact hd' 10 (by decide)
        clear hd'
        clear hd
        have e1 := hI.a5 rfl
        subst e1
        obtain ⟨y0, y1⟩ := cells2 (hI.k.blk HB1.out (fun h => h))
        have ul := blkLt (hI.k.blk HB1.out (fun h => h))
        simp only [Act.put, List.setIfInBounds_toArray, List.set_cons_zero, List.set_cons_succ]
        refine wpOp_step rfl (fun K' hK' => ?_)
        go_simp
        exact hK' _ _ (hK _ _ ⟨_, _, _, _, _, _, _, _, _, _, _, _, _, _, _, _, _, _, _, _, _, rfl, by simp only [Act.put, List.setIfInBounds_toArray, List.set_cons_zero, List.set_cons_succ], hI.s6⟩)
      · obtain rfl : l7 = false := hf
        have hd' := hd _ rfl
        obtain rfl : l4 = true := by first | exact hd' 0 (by decide) | exact hd' 1 (by decide) | exact hd' 2 (by decide) | exact hd' 3 (by decide) | exact hd' 4 (by decide) | exact hd' 5 (by decide) | exact hd' 6 (by decide) | exact hd' 7 (by decide) | exact hd' 8 (by decide) | exact hd' 9 (by decide) | exact hd' 10 (by decide)
        obtain rfl : l6 = true := by first | exact hd' 0 (by decide) | exact hd' 1 (by decide) | exact hd' 2 (by decide) | exact hd' 3 (by decide) | exact hd' 4 (by decide) | exact hd' 5 (by decide) | exact hd' 6 (by decide) | exact hd' 7 (by decide) | exact hd' 8 (by decide) | exact hd' 9 (by decide) | exact hd' 10 (by decide)
        clear hd'
        clear hd
        have e2 := hI.a6 rfl
        subst e2
        have o1 : OwnInts wc W0.heap.size t14 [] := hI.r2 _ _ rfl
        have hkI := hI.k
        simp only [Act.put, List.setIfInBounds_toArray, List.set_cons_zero, List.set_cons_succ]
        refine wpOp_step rfl (fun K' hK' => ?_)
        refine step_appH (by rfl) _ _ 31 31 (by rfl) W0.heap.size 3 (.int .i64 0) 1 8 Tryz.underlying31 infoInt rfl (by decide) (by decide) t14 0 [] o1 (by rfl) (.slice BS R.length dS) _ _ (HSR.out wc hkI) (by rfl) (by omega) hkI.size ?_
        intro v' w6 ho6 hk6 hat6
        rw [List.nil_append, Nat.zero_add] at ho6
        show K' (Act.put _ (some 17) _) _
        simp only [Act.put, List.setIfInBounds_toArray, List.set_cons_zero, List.set_cons_succ]
        exact hK' _ _ (hK _ _ ⟨_, _, _, _, _, _, _, _, _, _, _, _, _, _, _, _, _, _, _, _, _, rfl, by simp only [Act.put, List.setIfInBounds_toArray, List.set_cons_zero, List.set_cons_succ], hI.s7 ho6 hk6 hat6⟩)
      · obtain rfl : l8 = false := hf
        have hd' := hd _ rfl
        obtain rfl : l3 = true := by first | exact hd' 0 (by decide) | exact hd' 1 (by decide) | exact hd' 2 (by decide) | exact hd' 3 (by decide) | exact hd' 4 (by decide) | exact hd' 5 (by decide) | exact hd' 6 (by decide) | exact hd' 7 (by decide) | exact hd' 8 (by decide) | exact hd' 9 (by decide) | exact hd' 10 (by decide)
        obtain rfl : l7 = true := by first | exact hd' 0 (by decide) | exact hd' 1 (by decide) | exact hd' 2 (by decide) | exact hd' 3 (by decide) | exact hd' 4 (by decide) | exact hd' 5 (by decide) | exact hd' 6 (by decide) | exact hd' 7 (by decide) | exact hd' 8 (by decide) | exact hd' 9 (by decide) | exact hd' 10 (by decide)
        clear hd'
        clear hd
        obtain rfl : l0 = true := hI.d3 rfl
        obtain rfl : l4 = true := hI.d7 rfl
        obtain ⟨A1, d1, rfl, -⟩ := ownSl (hI.r1 _ _ rfl)
        obtain ⟨A2, d2, rfl, -⟩ := ownSl (hI.r2 _ _ rfl)
        simp only [Act.put, List.setIfInBounds_toArray, List.set_cons_zero, List.set_cons_succ]
        refine wpOp_step rfl (fun K' hK' => ?_)
        go_simp
        exact hK' _ _ (hK _ _ ⟨_, _, _, _, _, _, _, _, _, _, _, _, _, _, _, _, _, _, _, _, _, rfl, by simp only [Act.put, List.setIfInBounds_toArray, List.set_cons_zero, List.set_cons_succ], hI.s8⟩)
      · obtain rfl : l9 = false := hf
        clear hd
        simp only [Act.put, List.setIfInBounds_toArray, List.set_cons_zero, List.set_cons_succ]
        refine wpOp_step rfl (fun K' hK' => ?_)
        go_simp
        exact hK' _ _ (hK _ _ ⟨_, _, _, _, _, _, _, _, _, _, _, _, _, _, _, _, _, _, _, _, _, rfl, by simp only [Act.put, List.setIfInBounds_toArray, List.set_cons_zero, List.set_cons_succ], hI.s9⟩)
      · obtain rfl : l10 = false := hf
        have hd' := hd _ rfl
        obtain rfl : l8 = true := by first | exact hd' 0 (by decide) | exact hd' 1 (by decide) | exact hd' 2 (by decide) | exact hd' 3 (by decide) | exact hd' 4 (by decide) | exact hd' 5 (by decide) | exact hd' 6 (by decide) | exact hd' 7 (by decide) | exact hd' 8 (by decide) | exact hd' 9 (by decide) | exact hd' 10 (by decide)
        obtain rfl : l9 = true := by first | exact hd' 0 (by decide) | exact hd' 1 (by decide) | exact hd' 2 (by decide) | exact hd' 3 (by decide) | exact hd' 4 (by decide) | exact hd' 5 (by decide) | exact hd' 6 (by decide) | exact hd' 7 (by decide) | exact hd' 8 (by decide) | exact hd' 9 (by decide) | exact hd' 10 (by decide)
        clear hd'
        clear hd
        obtain ⟨rfl, rfl⟩ := hI.d8 rfl
        obtain rfl : l0 = true := hI.d3 rfl
        obtain rfl : l4 = true := hI.d7 rfl
        obtain ⟨A1, d1, rfl, -⟩ := ownSl (hI.r1 _ _ rfl)
        obtain ⟨A2, d2, rfl, -⟩ := ownSl (hI.r2 _ _ rfl)
        obtain ⟨g, rfl, -, hb⟩ := hI.a9 rfl
        have e8 := hI.a8 rfl
        subst e8
        rw [if_neg (by decide)] at hb
        obtain ⟨x0, x1⟩ := cells2 hb
        have f0 := blkFree hb 0
        have f1 := blkFree hb 1
        have ul := blkLt hb
        clear hb
        simp only [Act.put, List.setIfInBounds_toArray, List.set_cons_zero, List.set_cons_succ]
        refine wpOp_step rfl (fun K' hK' => ?_)
        go_simp
        exact hK' _ _ (hK _ _ ⟨_, _, _, _, _, _, _, _, _, _, _, _, _, _, _, _, _, _, _, _, _, rfl, by simp only [Act.put, List.setIfInBounds_toArray, List.set_cons_zero, List.set_cons_succ], hI.s10⟩)
  case rest =>
    obtain ⟨g, rfl, hB⟩ := hcut
    have HBO := Lib.hid hB
    obtain ⟨_, _, -, -, -, -, -, hkc⟩ := hB
    have hzc := hkc.size
    clear hkc
    go_wp2_with fail
    go_loopw [21] (fun i wr => ∃ k : Nat, k ≤ X.length ∧ i = .int .i64 k ∧ Hid (Both W0 g (namesF b (X.take k) (C, R)).1 (namesF b (X.take k) (C, R)).2 wr)) (fun i _ => X.length - (intOf i).toNat)
    case atStart => exact ⟨0, Nat.zero_le _, rfl, HBO⟩
    case round =>
      obtain ⟨k, hk, rfl, HB⟩ := hrel
      obtain ⟨v1, v2, hg, hge, o1, o2, hne, hkr⟩ := HB.out
      have HG := Lib.hid hg
      have HO1 := Lib.hid o1
      have HO2 := Lib.hid o2
      have HNE := Lib.hid hne
      have HKR := Lib.hid hkr
      have hzr := hkr.size
      clear hg o1 o2 hne hkr
      by_cases hlt : k < X.length
      · obtain ⟨bx, ox, hxe, hbx, hcx⟩ := HL.out (by intro h; have h1 := HZL.out; rw [h] at h1; simp at h1; omega)
        have e0 : w.cell? ⟨bx, ox + k, none⟩ = some (.int .i64 (X[k] : Int)) := by have h := hcx k (by rw [HZL.out]; exact hlt); simp only [zs, List.getElem_map] at h; exact h
        have e1 : wr.cell? ⟨bx, ox + k, none⟩ = some (.int .i64 (X[k] : Int)) := HKR.out.cell (HK0.out.cell e0 (fun h => h)) (fun h => h)
        have hkc := HX.out X[k] (List.getElem_mem hlt)
        have i1 : (k : Int) < X.length := by omega
        have HZ : Hid (namesF b (X.take (k + 1)) (C, R) = useAx (axAt b X[k]) (namesF b (X.take k) (C, R))) := by unfold Hid; rw [List.take_succ_eq_append_getElem hlt, namesF_snoc]
        have HRI := Lib.hid (namesF_facts HV.out (fun j hj => HX.out j (List.mem_of_mem_take hj)) HRS.out : Ris2 b.cs.length b.rs.length (namesF b (X.take k) (C, R)) ∧ _).1
        clear hcx e0
        subst hxe
        generalize namesF b (X.take k) (C, R) = q at *
        generalize X[k] = x at *
        have HCALL := Lib.hid (HUS.out x v1 v2 q W0.heap.size wr (HK0.out.then_ HKR.out) hkc hzr hz0 HRI.out (AccU.start HO1.out HO2.out HNE.out))
        obtain ⟨A1, d1, rfl, -⟩ := ownSl HO1.out
        obtain ⟨A2, d2, rfl, -⟩ := ownSl HO2.out
        obtain ⟨x0, x1, x2, x3, x4, x5, x6⟩ := cells7 (HKR.out.blk HB0.out (fun h => h))
        obtain ⟨y0, y1⟩ := cells2 HG.out
        have ux := blkLt (HKR.out.blk HB0.out (fun h => h))
        have ug := blkLt HG.out
        go_wp2_with fail
        refine HCALL.out.mono ?_
        rintro e w6 ⟨v', u', rfl, ha⟩
        have hg6 := ha.keep.blk HG.out (fun e => by rcases e with e | e; exact HO1.out.notBox HG.out e; exact HO2.out.notBox HG.out e)
        obtain ⟨r0, r1⟩ := cells2 hg6
        have f0 := blkFree hg6 0
        have f1 := blkFree hg6 1
        have ug6 := blkLt hg6
        obtain ⟨A3, d3, rfl, -⟩ := ownSl ha.a
        obtain ⟨A4, d4, rfl, -⟩ := ownSl ha.b
        have HA := Lib.hid ha
        clear ha hg6 y0 y1 ug e1 HCALL x0 x1 x2 x3 x4 x5 x6 ux
        go_wp2_with fail
        go_roundw
        case rel => exact ⟨k + 1, by omega, by go_num, by unfold Hid; rw [HZ.out]; exact both_use HG.out hge HO1.out HO2.out HKR.out HA.out⟩
        case measure => simp [intOf]; omega
      · obtain rfl : k = X.length := by omega
        rw [List.take_length] at HO1 HO2
        generalize namesF b X (C, R) = q at *
        obtain ⟨A1, d1, rfl, -⟩ := ownSl HO1.out
        obtain ⟨A2, d2, rfl, -⟩ := ownSl HO2.out
        obtain ⟨y0, y1⟩ := cells2 HG.out
        have ug := blkLt HG.out
        have hb2 := HKR.out.blk HB2.out (fun h => h)
        obtain ⟨z0, z1⟩ := cells2 hb2
        have f0 := blkFree hb2 0
        have f1 := blkFree hb2 1
        have u2 := blkLt hb2
        go_wp2_with fail
        have hb4 := blkSet (blkSet hb2 0 (.slice A1 q.1.length d1)) 1 (.slice A2 q.2.length d2)
        obtain ⟨t0, t1⟩ := cells2 hb4
        have hs : Keeps (fun i => i = w.heap.size + 1 + 1) wr ((wr.setCell ⟨w.heap.size + 1 + 1, 0, none⟩ (.slice A1 q.1.length d1)).setCell ⟨w.heap.size + 1 + 1, 1, none⟩ (.slice A2 q.2.length d2)) := ((Keeps.refl (fun i => i = w.heap.size + 1 + 1) wr).set (g := w.heap.size + 1 + 1) (Or.inl (by rfl)) _).set (g := w.heap.size + 1 + 1) (Or.inl (by rfl)) _
        refine bodyPost_ret (v := .agg #[.slice A1 q.1.length d1, .slice A2 q.2.length d2]) ?g1 rfl ⟨_, _, rfl, World.ownsRow.mono (HO1.out.keep' hs (fun b e1 e2 => HO1.out.notBox hb2 (by rw [← e2]; exact e1))) hz0, World.ownsRow.mono (HO2.out.keep' hs (fun b e1 e2 => HO2.out.notBox hb2 (by rw [← e2]; exact e1))) hz0, (HK0.out.then_ HKR.out).trans hs (fun i hi => .inr (by omega))⟩
        case g1 => simp [results, Tryz.results26, go_sem, t0, t1]
end Go.Proofs.YthiclhbnggehoaaGreatDoor
/- isagogeref19.from: the module for one kind. -/
namespace Go.Proofs.YthiclhbnggehoaaGreatDoor
open Go.RowKit
set_option linter.unusedVariables false
set_option linter.unusedSimpArgs false
def natsOf (l : List Int) : List Nat := l.map Int.toNat
theorem zs_natsOf {l : List Int} (h : ∀ y ∈ l, 0 ≤ y) : zs (natsOf l) = l := by
  unfold zs natsOf
  rw [List.map_map]
  conv => rhs; rw [← List.map_id l]
  refine List.map_congr_left fun y hy => ?_
  have := h y hy
  simp only [Function.comp_apply, id_eq]; omega
theorem mem_natsOf {l : List Int} (h : ∀ y ∈ l, 0 ≤ y) {k : Nat} : k ∈ natsOf l ↔ (k : Int) ∈ l := by rw [← zs_mem (l := natsOf l), zs_natsOf h]
theorem natsOf_len (l : List Int) : (natsOf l).length = l.length := List.length_map ..
theorem zs_rising {N : Nat} : ∀ {l : List Nat} {p : Option Int}, l.Pairwise (· < ·) → (∀ k ∈ l, k < N) → (∀ k ∈ l, lowO p (k : Int) = true) → risL N p (zs l) = true
  | [], _, _, _, _ => rfl
  | x :: r, p, hp, hn, hl => by
    rw [List.pairwise_cons] at hp
    have hx := hn x (by simp)
    show ((decide (0 ≤ (x : Int) ∧ (x : Int) < N) && lowO p x) && risL N (some (x : Int)) (zs r)) = true
    rw [hl x (by simp), zs_rising hp.2 (fun k hk => hn k (by simp [hk])) (fun k hk => by have := hp.1 k hk; simp only [lowO, decide_eq_true_eq]; omega)]
    simp; omega
theorem insZ_new : ∀ {l : List Int} {n : Int}, n ∉ l → (insZ n l).length = l.length + 1
  | [], n, _ => rfl
  | x :: r, n, h => by
    have h1 : x ≠ n := fun e => h (by simp [e])
    have h2 := insZ_new (l := r) (n := n) (fun hr => h (by simp [hr]))
    unfold insZ
    split
    · rename_i e; exact absurd e h1
    · split
      · simp
      · simp [h2]
theorem risL_nodup {m : Int} : ∀ {l : List Int} {p : Option Int}, risL m p l = true → l.Nodup
  | [], _, _ => List.nodup_nil
  | x :: r, p, h => by
    simp only [risL, Bool.and_eq_true] at h
    exact List.nodup_cons.2 ⟨fun hx => by have := risL_above h.2 x hx; omega, risL_nodup h.2⟩
/-- What from has collected so far: axioms of the module alone, in increasing order. -/
structure FromSt (b : Kb) (top : Bool) (C R : List Int) (within : List Nat) (out : List Int) : Prop where
  r : risingB out (kbCount b) = true
  m : ∀ y ∈ out, ∃ k : Nat, y = (k : Int) ∧ InMod (axAt b) top C R within k
def ClosedO (b : Kb) (top : Bool) (C R : List Int) (within : List Nat) (out : List Int) : Prop := ∀ j (h : j < within.length), (within[j] : Int) ∈ out ∨ localAt (axAt b) top C R (natsOf out) within[j] = true
section
variable {b : Kb} {top : Bool} {C R : List Int} {within : List Nat} {out : List Int}
theorem FromSt.nil : FromSt b top C R within [] := ⟨rfl, by simp⟩
theorem FromSt.pos (h : FromSt b top C R within out) : ∀ y ∈ out, 0 ≤ y := fun y hy => (risL_bounds h.r y hy).1
theorem FromSt.len (h : FromSt b top C R within out) : out.length ≤ within.length := by
  have := nodup_len (risL_nodup h.r) (m := zs within) (fun y hy => by obtain ⟨k, rfl, hk⟩ := h.m y hy; exact zs_mem.2 hk.1)
  rw [zs_len] at this; exact this
theorem FromSt.lt (h : FromSt b top C R within out) (hw : ∀ k ∈ within, k < kbCount b) : ∀ k ∈ natsOf out, k < kbCount b := fun k hk => by
  obtain ⟨j, e, hj⟩ := h.m _ ((mem_natsOf h.pos).1 hk)
  have : k = j := by omega
  subst this; exact hw _ hj.1
theorem FromSt.ins (h : FromSt b top C R within out) {X : List Int} (hX : FromSt b top C R within X) {k : Nat} (hk : k ∈ within) (hw : ∀ k ∈ within, k < kbCount b) (hl : localAt (axAt b) top C R (natsOf X) k = false) : FromSt b top C R within (insZ k out) := by
  refine ⟨rising_ins h.r (by omega) (by have := hw k hk; omega), fun y hy => ?_⟩
  rcases (insZ_mem _ _ _).1 hy with rfl | hy
  · refine ⟨k, rfl, InMod.step (X := natsOf X) (fun j hj => ?_) hk hl⟩
    obtain ⟨i, e, hi⟩ := hX.m _ ((mem_natsOf hX.pos).1 hj)
    have : j = i := by omega
    subst this; exact hi
  · exact h.m y hy
theorem FromSt.done (h : FromSt b top C R within out) (hc : ClosedO b top C R within out) (hp : within.Pairwise (· < ·)) (hw : ∀ k ∈ within, k < kbCount b) : out = zs (modL (axAt b) top C R within) := by
  have hcl : ClosedM (axAt b) top C R within (natsOf out) := fun k hk hl => by
    obtain ⟨j, hj, rfl⟩ := List.mem_iff_getElem.1 hk
    rcases hc j hj with h1 | h1
    · exact (mem_natsOf h.pos).2 h1
    · rw [hl] at h1; cases h1
  have hmod : (modL (axAt b) top C R within).Pairwise (· < ·) := by unfold modL; exact hp.filter _
  refine rising_eq (m := kbCount b) (p := none) (p' := none) h.r (zs_rising hmod (fun k hk => hw k (mem_modL.1 hk).1) (fun _ _ => rfl)) (fun y => ⟨fun hy => ?_, fun hy => ?_⟩)
  · obtain ⟨k, rfl, hk⟩ := h.m y hy
    exact zs_mem.2 (mem_modL.2 hk)
  · unfold zs at hy
    obtain ⟨k, hk, rfl⟩ := List.mem_map.1 hy
    exact (mem_natsOf h.pos).1 ((mem_modL.1 hk).2 _ hcl)
end
def vlen : Value → Nat | .slice _ n _ => n | _ => 0
theorem ownVlen {w : World} {base : Nat} {v : Value} {l : List Int} (h : OwnInts w base v l) : vlen v = l.length := by
  obtain ⟨A, d, rfl, -⟩ := ownSl h; rfl
/-- The state of from's inner loop. -/
structure FrI (b : Kb) (top : Bool) (C R : List Int) (within : List Nat) (W0 : World) (g : Nat) (v u : Value) (q : List Int × List Int) (out out' : List Int) (mr : Bool) (k : Nat) (o : Value) (wr : World) : Prop where
  own : OwnInts wr W0.heap.size o out'
  st : FromSt b top C R within out'
  kp : Keeps (fun _ => False) W0 wr
  bx : wr.heap[g]? = some (.cells #[v, u] 33 (0, 0))
  rv : OwnInts wr W0.heap.size v q.1
  ru : OwnInts wr W0.heap.size u q.2
  ne : ∀ k, o.ownBlock = some k → v.ownBlock ≠ some k ∧ u.ownBlock ≠ some k
  f0 : mr = false → out' = out ∧ ∀ j (h : j < within.length), j < k → (within[j] : Int) ∈ out ∨ localAt (axAt b) top C R (natsOf out) within[j] = true
  f1 : mr = true → out.length < out'.length
section
variable {b : Kb} {top : Bool} {C R : List Int} {within : List Nat} {W0 : World} {g : Nat} {v u : Value} {q : List Int × List Int} {out out' : List Int} {mr : Bool} {k : Nat} {o : Value} {wr : World}
theorem FrI.next (h : FrI b top C R within W0 g v u q out out' mr k o wr) (hk : k < within.length) (hx : (within[k] : Int) ∈ out' ∨ localAt (axAt b) top C R (natsOf out) within[k] = true) {w' : World} (hw : Keeps (fun _ => False) wr w') : FrI b top C R within W0 g v u q out out' mr (k + 1) o w' :=
  ⟨h.own.keep' hw (fun _ _ h => h), h.st, h.kp.then_ hw, hw.blk h.bx (fun h => h), h.rv.keep' hw (fun _ _ h => h), h.ru.keep' hw (fun _ _ h => h), h.ne, fun e => by
    obtain ⟨e1, e2⟩ := h.f0 e
    refine ⟨e1, fun j hj hjk => ?_⟩
    by_cases ej : j = k
    · subst ej; rw [e1] at hx; exact hx
    · exact e2 j hj (by omega), h.f1⟩
theorem FrI.put (h : FrI b top C R within W0 g v u q out out' mr k o wr) (hk : k < within.length) (hw : ∀ k ∈ within, k < kbCount b) (ho : FromSt b top C R within out) (hn : (within[k] : Int) ∉ out') (hl : localAt (axAt b) top C R (natsOf out) within[k] = false) (hlen : out.length ≤ out'.length) {w1 w' : World} {o' : Value} (hw1 : Keeps (fun _ => False) wr w1)
    (ha : AccN W0.heap.size o w1 (insZ (within[k] : Int) out') o' w') : FrI b top C R within W0 g v u q out (insZ (within[k] : Int) out') true (k + 1) o' w' := by
  have o1 := h.own.keep' hw1 (fun _ _ h => h)
  have v1 := h.rv.keep' hw1 (fun _ _ h => h)
  have u1 := h.ru.keep' hw1 (fun _ _ h => h)
  have b1 := hw1.blk h.bx (fun h => h)
  refine ⟨ha.own, h.st.ins ho (List.getElem_mem hk) hw hl, (h.kp.then_ hw1).trans ha.keep (fun i hi => .inr (o1.lt i hi).1), ha.keep.blk b1 (o1.notBox b1), v1.keep' ha.keep (fun b e1 e2 => (h.ne b e2).1 e1), u1.keep' ha.keep (fun b e1 e2 => (h.ne b e2).2 e1), fun j hj => ?_, fun e => (by cases e), fun _ => by rw [insZ_new hn]; omega⟩
  rcases ha.at_ with e | ⟨b', e, hb⟩
  · exact h.ne j (by rw [← e]; exact hj)
  · rw [e] at hj
    simp only [Option.some.injEq] at hj
    exact ⟨fun e2 => by have := (v1.lt j e2).2; omega, fun e2 => by have := (u1.lt j e2).2; omega⟩
end
set_option maxRecDepth 100000 in
set_option maxHeartbeats 40000000 in
theorem from19_calls (top : Bool) (b : Kb) (p : KbA) (within : List Nat) (C R : List Int) (A0 AS BS : Option Addr) (cl cS dS : Nat) (ok : Nat → Prop) (w : World) (hb : KbR ok w b p) (hv : KbFit b) (hw : ∀ k ∈ within, k < kbCount b) (hwl : within.length ≤ 100000) (hinc : within.Pairwise (· < ·)) (hl : Row1 ok w (Value.int .i64) (zs within) A0) (hs : SigR ok w C R AS BS) (hr : Ris2 b.cs.length b.rs.length (C, R))
    (hn1 : b.cs.length ≤ 10000) (hn2 : b.rs.length ≤ 10000) (hl1 : b.incls.length ≤ 1000000) (hl2 : b.roles.length ≤ 1000000) (hl3 : b.facts.length ≤ 1000000) (hl4 : b.links.length ≤ 1000000) (hsz : ∀ k, k < kbCount b → axSize (axAt b k) ≤ 50000) :
    Calls Tryz.prog 42 #[.agg #[.slice p.a0 b.cs.length p.c0, .slice p.a1 b.rs.length p.c1, .slice p.a2 b.is.length p.c2, .slice p.a3 b.incls.length p.c3, .slice p.a4 b.roles.length p.c4, .slice p.a5 b.facts.length p.c5, .slice p.a6 b.links.length p.c6], .slice A0 within.length cl, .agg #[.slice AS C.length cS, .slice BS R.length dS], .bool top] w fun e w' => ∃ v, e = .returned v ∧ OwnInts w' w.heap.size v (zs (modL (axAt b) top C R within)) ∧ Keeps (fun _ => False) w w' := by
  have HNA : Hid (∀ (X : List Nat) (A : Option Addr) (c : Nat) (W : World), Keeps (fun _ => False) w W → (∀ k ∈ X, k < kbCount b) → X.length ≤ 1000000 → Row1 (fun k => k < W.heap.size) W (Value.int .i64) (zs X) A → Calls Tryz.prog 26 #[.agg #[.slice p.a0 b.cs.length p.c0, .slice p.a1 b.rs.length p.c1, .slice p.a2 b.is.length p.c2, .slice p.a3 b.incls.length p.c3, .slice p.a4 b.roles.length p.c4, .slice p.a5 b.facts.length p.c5, .slice p.a6 b.links.length p.c6], .slice A X.length c, .agg #[.slice AS C.length cS, .slice BS R.length dS]] W (RetN W (namesF b X (C, R)))) :=
    fun X A c W h hX hxl hrow => names19_calls b p X C R A AS BS c cS dS (fun k => k < W.heap.size) W ((hb.keep h (fun _ _ h => h)).lim.mono (fun k hk => hk.2)) hv hX hxl hrow ⟨(hs.c.keep h (fun _ _ h => h)).lim.mono (fun k hk => hk.2), (hs.r.keep h (fun _ _ h => h)).lim.mono (fun k hk => hk.2)⟩ hr hn1 hn2 hl1 hl2 hl3 hl4 hsz
  have HLO : Hid (∀ (k : Nat) (C' R' : List Int) (A B : Option Addr) (c d : Nat) (W : World), Keeps (fun _ => False) w W → k < kbCount b → C'.length ≤ 1000000 → R'.length ≤ 1000000 → SigR (fun k => k < W.heap.size) W C' R' A B → Calls Tryz.prog 27 #[.agg #[.slice p.a0 b.cs.length p.c0, .slice p.a1 b.rs.length p.c1, .slice p.a2 b.is.length p.c2, .slice p.a3 b.incls.length p.c3, .slice p.a4 b.roles.length p.c4, .slice p.a5 b.facts.length p.c5, .slice p.a6 b.links.length p.c6], .int .i64 (k : Int), .agg #[.slice A C'.length c, .slice B R'.length d], .bool top] W (SaysB (localX top (inL C') (inL R') (axAt b k)) W)) :=
    fun k C' R' A B c d W h hk h1 h2 hsig => refLocal_calls top C' R' A B c d b p k (fun k => k < W.heap.size) W ((hb.keep h (fun _ _ h => h)).lim.mono (fun k hk => hk.2)) hv hsig h1 h2 hk hl1 hl2 hl3 hl4
  have HV := Lib.hid hv
  have HW := Lib.hid hw
  have HIN := Lib.hid hinc
  have HRS := Lib.hid hr
  have HL := Lib.hid hl
  have HZL := Lib.hid (zs_len within)
  clear hb hv hw hl hs hr hsz hinc
  obtain ⟨a0, a1, a2, a3, a4, a5, a6, c0, c1, c2, c3, c4, c5, c6⟩ := p
  simp only at HNA HLO ⊢
  go_enter Tryz.func42, Tryz.ntmps42
  go_wp2_with fail
  generalize hW0 : World.alloc _ _ = W0
  have hk0 : Keeps (fun _ => False) w W0 := by rw [← hW0]; repeat (first | exact Keeps.refl _ _ | refine Keeps.drewN ?_ _ | refine Keeps.drew ?_ | refine Keeps.alloc ?_ _ | refine Keeps.set ?_ (Or.inl (by rfl)) _)
  have hb0 : W0.heap[w.heap.size]? = some (.cells #[.slice a0 b.cs.length c0, .slice a1 b.rs.length c1, .slice a2 b.is.length c2, .slice a3 b.incls.length c3, .slice a4 b.roles.length c4, .slice a5 b.facts.length c5, .slice a6 b.links.length c6] 30 (0, 0)) := by rw [← hW0]; exact blkAlloc (blkNew rfl) _
  have hb1 : W0.heap[w.heap.size + 1]? = some (.cells #[.slice AS C.length cS, .slice BS R.length dS] 33 (0, 0)) := by rw [← hW0]; exact blkNew (by simp)
  clear hW0
  have HK0 := Lib.hid hk0
  have HB0 := Lib.hid hb0
  have HB1 := Lib.hid hb1
  have hz0 := hk0.size
  clear hk0 hb0 hb1
  go_loopw [9, 10] (fun o mo wr => ∃ (out : List Int) (more : Bool), mo = .bool more ∧ Hid (OwnInts wr W0.heap.size o out) ∧ Hid (FromSt b top C R within out) ∧ Hid (Keeps (fun _ => False) W0 wr) ∧ Hid (more = false → ClosedO b top C R within out)) (fun o mo _ => 2 * (within.length - vlen o) + b2n mo)
  case atStart => exact ⟨[], true, rfl, OwnInts.nil _ _, FromSt.nil, Keeps.refl _ _, fun h => absurd h (by decide)⟩
  case round =>
    obtain ⟨out, more, rfl, HO, HST, HKR, HCL⟩ := hrel
    have hzr := HKR.out.size
    cases more
    · go_wp2_with fail
      go_ret
      refine ⟨u9, rfl, ?_, HK0.out.then_ HKR.out⟩
      rw [← HST.out.done (HCL.out (by trivial)) HIN.out HW.out]
      exact World.ownsRow.mono HO.out hz0
    · obtain ⟨A, c, hA, hrow⟩ := ownRowI HO.out
      have HAE := Lib.hid hA
      have hlen := HST.out.len
      have HCALL : Hid (Calls Tryz.prog 26 #[.agg #[.slice a0 b.cs.length c0, .slice a1 b.rs.length c1, .slice a2 b.is.length c2, .slice a3 b.incls.length c3, .slice a4 b.roles.length c4, .slice a5 b.facts.length c5, .slice a6 b.links.length c6], .slice A out.length c, .agg #[.slice AS C.length cS, .slice BS R.length dS]] wr (RetN wr (namesF b (natsOf out) (C, R)))) := by
        have h := HNA.out (natsOf out) A c wr (HK0.out.then_ HKR.out) (HST.out.lt HW.out) (by rw [natsOf_len]; omega) (by rw [zs_natsOf HST.out.pos]; exact hrow)
        rw [natsOf_len] at h; exact h
      have HNF := Lib.hid (namesF_facts HV.out (HST.out.lt HW.out) HRS.out).1
      have HLC := Lib.hid (fun k => namesF_local HV.out (HST.out.lt HW.out) HRS.out top k)
      subst hA
      clear hrow
      obtain ⟨x0, x1, x2, x3, x4, x5, x6⟩ := cells7 (HKR.out.blk HB0.out (fun h => h))
      obtain ⟨y0, y1⟩ := cells2 (HKR.out.blk HB1.out (fun h => h))
      have ux := blkLt (HKR.out.blk HB0.out (fun h => h))
      have uy := blkLt (HKR.out.blk HB1.out (fun h => h))
      generalize namesF b (natsOf out) (C, R) = q at *
      go_wp2_with fail
      refine HCALL.out.mono ?_
      rintro e w5 ⟨v, u, rfl, hov, hou, hk5⟩
      clear HCALL x0 x1 x2 x3 x4 x5 x6 y0 y1 ux uy
      have hq1 := rising_len HNF.out.1
      have hq2 := rising_len HNF.out.2
      obtain ⟨A3, d3, rfl, -⟩ := ownSl hov
      obtain ⟨A4, d4, rfl, -⟩ := ownSl hou
      have hz5 := hk5.size
      have hi0 : ∀ W, Keeps (fun _ => False) w5 W → W.heap[w5.heap.size]? = some (.cells #[.slice A3 q.1.length d3, .slice A4 q.2.length d4] 33 (0, 0)) → FrI b top C R within W0 w5.heap.size (.slice A3 q.1.length d3) (.slice A4 q.2.length d4) q out out false 0 (.slice A out.length c) W := fun W hW hbx =>
        ⟨(HO.out.keep' hk5 (fun _ _ h => h)).keep' hW (fun _ _ h => h), HST.out, (HKR.out.then_ hk5).then_ hW, hbx, World.ownsRow.mono (hov.keep' hW (fun _ _ h => h)) hzr, World.ownsRow.mono (hou.keep' hW (fun _ _ h => h)) hzr,
          fun j hj => ⟨fun e => by have h1 := (HO.out.lt j hj).2; have h2 := (hov.lt j e).1; omega, fun e => by have h1 := (HO.out.lt j hj).2; have h2 := (hou.lt j e).1; omega⟩, fun _ => ⟨rfl, fun j _ h => by omega⟩, fun h => by cases h⟩
      have HI0 := Lib.hid hi0
      clear hov hou hk5 hi0
      go_wp2_with fail
      generalize hW6 : World.alloc _ _ = W6
      have hfi := HI0.out W6 (by rw [← hW6]; repeat (first | exact Keeps.refl _ _ | refine Keeps.drewN ?_ _ | refine Keeps.drew ?_ | refine Keeps.alloc ?_ _ | refine Keeps.set ?_ (Or.inl (by rfl)) _)) (by rw [← hW6]; exact blkNew rfl)
      have HFI := Lib.hid hfi
      clear hW6 hfi HI0 HO HKR HAE
      go_loopw [9, 10, 21] (fun o mo i wr => ∃ (k : Nat) (out' : List Int) (mr : Bool), k ≤ within.length ∧ i = .int .i64 k ∧ mo = .bool mr ∧ Hid (FrI b top C R within W0 w5.heap.size (.slice A3 q.1.length d3) (.slice A4 q.2.length d4) q out out' mr k o wr) ∧ out.length ≤ out'.length) (fun _ _ i _ => within.length - (intOf i).toNat)
      case atStart => exact ⟨0, out, false, Nat.zero_le _, rfl, rfl, HFI, Nat.le_refl _⟩
      case round =>
        obtain ⟨k, out', mr, hk, rfl, rfl, HF, hle⟩ := hrel
        have hkr := HF.out.kp
        have hzr := hkr.size
        by_cases hlt : k < within.length
        · obtain ⟨bx, ox, hxe, hbx, hcx⟩ := HL.out (by intro h; have h1 := HZL.out; rw [h] at h1; simp at h1; omega)
          have e0 : w.cell? ⟨bx, ox + k, none⟩ = some (.int .i64 (within[k] : Int)) := by have h := hcx k (by rw [HZL.out]; exact hlt); simp only [zs, List.getElem_map] at h; exact h
          have e1 : wr.cell? ⟨bx, ox + k, none⟩ = some (.int .i64 (within[k] : Int)) := hkr.cell (HK0.out.cell e0 (fun h => h)) (fun h => h)
          have hxk := HW.out within[k] (List.getElem_mem hlt)
          have i1 : (k : Int) < within.length := by omega
          obtain ⟨A7, c7, hA7, hrow7⟩ := ownRowI HF.out.own
          have hl7 := HF.out.st.len
          have HHS := Lib.hid (has_same out' (within[k] : Int) _ A7 c7 wr hrow7 (by omega))
          obtain ⟨A8, c8, hA8, hrow8⟩ := ownRowI HF.out.rv
          obtain ⟨A9, c9, hA9, hrow9⟩ := ownRowI HF.out.ru
          simp only [Value.slice.injEq] at hA8 hA9
          obtain ⟨rfl, -, rfl⟩ := hA8
          obtain ⟨rfl, -, rfl⟩ := hA9
          have hloc := HLO.out within[k] q.1 q.2 A3 A4 d3 d4 wr (HK0.out.then_ hkr) hxk (by omega) (by omega) ⟨hrow8, hrow9⟩
          rw [HLC.out within[k]] at hloc
          have HLOC := Lib.hid hloc
          have hin := insert_calls W0.heap.size (within[k] : Int) out' u9 wr (by omega) hzr HF.out.own
          have HINS := Lib.hid (fun W (h : Keeps (fun _ => False) wr W) => insert_calls W0.heap.size (within[k] : Int) out' u9 W (by omega) (Nat.le_trans hzr h.size) (HF.out.own.keep' h (fun _ _ h => h)))
          have HNX := Lib.hid (fun (hx : (within[k] : Int) ∈ out' ∨ localAt (axAt b) top C R (natsOf out) within[k] = true) W (h : Keeps (fun _ => False) wr W) => HF.out.next hlt hx h)
          have HPT := Lib.hid (fun (hn : (within[k] : Int) ∉ out') (hl : localAt (axAt b) top C R (natsOf out) within[k] = false) W1 W' o' (h1 : Keeps (fun _ => False) wr W1) (ha : AccN W0.heap.size u9 W1 (insZ (within[k] : Int) out') o' W') => HF.out.put hlt HW.out HST.out hn hl hle h1 ha)
          have hil : (insZ (within[k] : Int) out').length ≤ out'.length + 1 := insZ_len _ _
          have hil2 : out'.length ≤ (insZ (within[k] : Int) out').length ∨ (within[k] : Int) ∈ out' := by
            by_cases h : (within[k] : Int) ∈ out'
            · exact .inr h
            · left; rw [insZ_new h]; omega
          have HIL := Lib.hid hil2
          have hb0' := hkr.blk HB0.out (fun h => h)
          obtain ⟨x0, x1, x2, x3, x4, x5, x6⟩ := cells7 hb0'
          obtain ⟨y0, y1⟩ := cells2 HF.out.bx
          have ux := blkLt hb0'
          have uy := blkLt HF.out.bx
          clear hcx e0 hloc hin hb0' hrow7 hrow8 hrow9 hil hil2 hkr hxk
          subst hxe
          have HA7 := Lib.hid hA7
          subst hA7
          generalize localAt (axAt b) top C R (natsOf out) within[k] = lb at *
          generalize within[k] = x at *
          cases hh : decide ((x : Int) ∈ out')
          · have HNI := Lib.hid (of_decide_eq_false hh)
            rw [hh] at HHS
            clear hh
            cases lb
            · go_wp2_with fail
              refine HHS.out.mono ?_
              rintro e wq ⟨rfl, hq⟩
              rw [hq]
              clear hq wq HHS
              go_wp2_with fail
              refine HLOC.out.mono ?_
              rintro e w7 ⟨rfl, hk7⟩
              have HK7 := Lib.hid hk7
              clear hk7 HLOC
              go_wp2_with fail
              refine (HINS.out w7 HK7.out).mono ?_
              rintro e w8 ⟨o8, rfl, ha⟩
              have HN8 := Lib.hid (HPT.out HNI.out (by trivial) w7 w8 o8 HK7.out ha)
              clear ha
              go_wp2_with fail
              go_roundw
              case rel => exact ⟨k + 1, insZ (x : Int) out', true, by omega, by go_num, rfl, HN8, by rcases HIL.out with h | h; omega; exact absurd h HNI.out⟩
              case measure => simp [intOf]; omega
            · go_wp2_with fail
              refine HHS.out.mono ?_
              rintro e wq ⟨rfl, hq⟩
              rw [hq]
              clear hq wq HHS
              go_wp2_with fail
              refine HLOC.out.mono ?_
              rintro e w7 ⟨rfl, hk7⟩
              have HN7 := Lib.hid (HNX.out (.inr (by trivial)) w7 hk7)
              clear hk7 HLOC
              go_wp2_with fail
              go_roundw
              case rel => exact ⟨k + 1, out', mr, by omega, by go_num, rfl, HN7, hle⟩
              case measure => simp [intOf]; omega
          · have HYI := Lib.hid (of_decide_eq_true hh)
            rw [hh] at HHS
            clear hh
            have HN7 := Lib.hid (HNX.out (.inl HYI.out) wr (Keeps.refl _ _))
            go_wp2_with fail
            refine HHS.out.mono ?_
            rintro e wq ⟨rfl, hq⟩
            rw [hq]
            clear hq wq HHS
            go_wp2_with fail
            go_roundw
            case rel => exact ⟨k + 1, out', mr, by omega, by go_num, rfl, HN7, hle⟩
            case measure => simp [intOf]; omega
        · obtain rfl : k = within.length := by omega
          have hl7 := HF.out.st.len
          have hvl := ownVlen HF.out.own
          have hf0 := HF.out.f0
          have hf1 := HF.out.f1
          have HVL := Lib.hid hvl
          have HF0 := Lib.hid hf0
          have HF1 := Lib.hid hf1
          clear hvl hf0 hf1 hkr
          go_wp2_with fail
          go_roundw
          case rel => exact ⟨out', mr, rfl, HF.out.own, HF.out.st, HF.out.kp, fun h => by obtain ⟨e1, e2⟩ := HF0.out h; rw [e1]; exact fun j hj => e2 j hj hj⟩
          case measure =>
            have hvl := HVL.out
            rw [hvl]
            show 2 * (within.length - out'.length) + b2n (.bool mr) < 2 * (within.length - out.length) + b2n (.bool true)
            cases mr
            · rw [(HF0.out rfl).1]; simp only [b2n]; omega
            · have := HF1.out rfl; simp only [b2n]; omega
end Go.Proofs.YthiclhbnggehoaaGreatDoor
/- isagogeref19.Module: the module for a signature and a kind. -/
namespace Go.Proofs.YthiclhbnggehoaaGreatDoor
open Go.RowKit
set_option linter.unusedVariables false
set_option linter.unusedSimpArgs false
theorem zs_inj {l m : List Nat} (h : zs l = zs m) : l = m := by
  unfold zs at h
  exact List.map_inj_right (fun a b e => by omega) |>.1 h
theorem range_inc (N : Nat) : (List.range N).Pairwise (· < ·) := List.pairwise_lt_range
set_option maxRecDepth 100000 in
set_option maxHeartbeats 40000000 in
theorem module19_calls (b : Kb) (p : KbA) (C R : List Int) (kind : Int) (hkd : kind = 0 ∨ kind = 1 ∨ kind = 2) (AS BS : Option Addr) (cS dS : Nat) (ok : Nat → Prop) (w : World) (hb : KbR ok w b p) (hv : KbFit b) (hs : SigR ok w C R AS BS) (hr : Ris2 b.cs.length b.rs.length (C, R))
    (hn1 : b.cs.length ≤ 10000) (hn2 : b.rs.length ≤ 10000) (hl1 : b.incls.length ≤ 1000) (hl2 : b.roles.length ≤ 1000) (hl3 : b.facts.length ≤ 1000) (hl4 : b.links.length ≤ 1000) (hsz : ∀ k, k < kbCount b → axSize (axAt b k) ≤ 50000) :
    Calls Tryz.prog 13 #[.agg #[.slice p.a0 b.cs.length p.c0, .slice p.a1 b.rs.length p.c1, .slice p.a2 b.is.length p.c2, .slice p.a3 b.incls.length p.c3, .slice p.a4 b.roles.length p.c4, .slice p.a5 b.facts.length p.c5, .slice p.a6 b.links.length p.c6], .agg #[.slice AS C.length cS, .slice BS R.length dS], .int .i64 kind] w fun e w' => ∃ v, e = .returned v ∧ OwnInts w' w.heap.size v (zs (moduleM b C R kind)) ∧ Keeps (fun _ => False) w w' := by
  have HCT : Hid (∀ W, Keeps (fun _ => False) w W → Calls Tryz.prog 25 #[.agg #[.slice p.a0 b.cs.length p.c0, .slice p.a1 b.rs.length p.c1, .slice p.a2 b.is.length p.c2, .slice p.a3 b.incls.length p.c3, .slice p.a4 b.roles.length p.c4, .slice p.a5 b.facts.length p.c5, .slice p.a6 b.links.length p.c6]] W fun e w' => e = .returned (.int .i64 (kbCount b)) ∧ Keeps (fun _ => False) W w') := fun W h => axiomsR_calls b p W (by omega) (by omega) (by omega) (by omega)
  have HFR : Hid (∀ (top : Bool) (within : List Nat) (A0 : Option Addr) (cl : Nat) (W : World), Keeps (fun _ => False) w W → (∀ k ∈ within, k < kbCount b) → within.length ≤ 100000 → within.Pairwise (· < ·) → Row1 (fun k => k < W.heap.size) W (Value.int .i64) (zs within) A0 →
      Calls Tryz.prog 42 #[.agg #[.slice p.a0 b.cs.length p.c0, .slice p.a1 b.rs.length p.c1, .slice p.a2 b.is.length p.c2, .slice p.a3 b.incls.length p.c3, .slice p.a4 b.roles.length p.c4, .slice p.a5 b.facts.length p.c5, .slice p.a6 b.links.length p.c6], .slice A0 within.length cl, .agg #[.slice AS C.length cS, .slice BS R.length dS], .bool top] W fun e w' => ∃ v, e = .returned v ∧ OwnInts w' W.heap.size v (zs (modL (axAt b) top C R within)) ∧ Keeps (fun _ => False) W w') := fun top within A0 cl W h hw hwl hp hrow =>
    from19_calls top b p within C R A0 AS BS cl cS dS (fun k => k < W.heap.size) W ((hb.keep h (fun _ _ h => h)).lim.mono (fun k hk => hk.2)) hv hw hwl hp hrow ⟨(hs.c.keep h (fun _ _ h => h)).lim.mono (fun k hk => hk.2), (hs.r.keep h (fun _ _ h => h)).lim.mono (fun k hk => hk.2)⟩ hr hn1 hn2 (by omega) (by omega) (by omega) (by omega) hsz
  have hcount : kbCount b ≤ 4000 := by unfold kbCount; omega
  clear hb hs hr hv hsz hl1 hl2 hl3 hl4 hn1 hn2
  obtain ⟨N, hN⟩ : ∃ N, N = kbCount b := ⟨_, rfl⟩
  have HMM : Hid (∀ k, moduleM b C R k = if k = 2 then starM (axAt b) C R false 0 (List.range N) else modL (axAt b) (k == 1) C R (List.range N)) := fun k => by rw [hN]; rfl
  rw [← hN] at HCT hcount
  rw [← hN] at HFR
  clear hN
  obtain ⟨a0, a1, a2, a3, a4, a5, a6, c0, c1, c2, c3, c4, c5, c6⟩ := p
  simp only at HCT HFR ⊢
  go_enter Tryz.func13, Tryz.ntmps13
  go_wp2_with fail
  generalize hW0 : World.alloc _ _ = W0
  have hk0 : Keeps (fun _ => False) w W0 := by rw [← hW0]; repeat (first | exact Keeps.refl _ _ | refine Keeps.drewN ?_ _ | refine Keeps.drew ?_ | refine Keeps.alloc ?_ _ | refine Keeps.set ?_ (Or.inl (by rfl)) _)
  have hb0 : W0.heap[w.heap.size]? = some (.cells #[.slice a0 b.cs.length c0, .slice a1 b.rs.length c1, .slice a2 b.is.length c2, .slice a3 b.incls.length c3, .slice a4 b.roles.length c4, .slice a5 b.facts.length c5, .slice a6 b.links.length c6] 30 (0, 0)) := by rw [← hW0]; exact blkAlloc (blkNew rfl) _
  have hb1 : W0.heap[w.heap.size + 1]? = some (.cells #[.slice AS C.length cS, .slice BS R.length dS] 33 (0, 0)) := by rw [← hW0]; exact blkNew (by simp)
  clear hW0
  have HK0 := Lib.hid hk0
  have HB0 := Lib.hid hb0
  have HB1 := Lib.hid hb1
  have hz0 := hk0.size
  clear hk0 hb0 hb1
  refine (HCT.out W0 HK0.out).mono ?_
  rintro e w4 ⟨rfl, hk4⟩
  have HK4 := Lib.hid hk4
  have hz4 := hk4.size
  clear hk4 HCT
  go_wp2_with fail
  go_loopw [7, 14] (fun v i wr => ∃ k : Nat, k ≤ N ∧ i = .int .i64 k ∧ Hid (OwnInts wr W0.heap.size v (zs (List.range k))) ∧ Hid (Keeps (fun _ => False) W0 wr)) (fun _ i _ => N - (intOf i).toNat)
  case atStart => exact ⟨0, Nat.zero_le _, rfl, OwnInts.nil _ _, HK4.out⟩
  case round =>
    obtain ⟨k, hk, rfl, HO, HK⟩ := hrel
    have hzr := HK.out.size
    by_cases hlt : k < N
    · have i1 : (k : Int) < N := by omega
      have hln : (zs (List.range k)).length = k := by rw [zs_len, List.length_range]
      have HOX := Lib.hid HO.out
      have HVL := Lib.hid HO.out.lt
      have HZ := Lib.hid (zs_range k)
      generalize zs (List.range k) = zz at *
      go_wp2_with (at_builtin; refine wp_app1 rfl _ _ 31 31 rfl W0.heap.size 3 (.int .i64 0) 1 8 Tryz.underlying31 infoInt rfl (by decide) (by decide) u7 zz.length _ (ownsKeep (S := fun _ => False) HOX.out (by repeat (first | exact Keeps.refl _ _ | refine Keeps.drewN ?_ _ | refine Keeps.drew ?_ | refine Keeps.alloc ?_ _ | refine Keeps.set ?_ (Or.inl (by rfl)) _)) (fun _ _ h => h)) rfl _ 1 [.int .i64 (k : Int)] (Src.ofBlock Tryz.underlying31 (cs := #[.int .i64 (k : Int)]) (blkNew (by first | rfl | simp)) rfl (by simp [Value.oneCell'])) rfl (by decide) (by omega) (by simp; omega) ?_; intro g cap w5 ho5 hk5 hat hcap hlt5)
      go_roundw
      case rel =>
        have hkk := hk5.upto (a := wr) (by repeat (first | exact Keeps.refl _ _ | refine Keeps.drewN ?_ _ | refine Keeps.drew ?_ | refine Keeps.alloc ?_ _ | refine Keeps.set ?_ (Or.inl (by rfl)) _))
        refine ⟨k + 1, by omega, by go_num, ?_, (HK.out.then_ hkk).trans hk5 (fun i hi => .inr (HVL.out i hi).1)⟩
        unfold Hid OwnInts
        rw [HZ.out]
        simpa [hln] using ho5
      case measure => simp [intOf]; omega
    · obtain rfl : N = k := by omega
      obtain ⟨x0, x1, x2, x3, x4, x5, x6⟩ := cells7 (HK.out.blk HB0.out (fun h => h))
      obtain ⟨y0, y1⟩ := cells2 (HK.out.blk HB1.out (fun h => h))
      have ux := blkLt (HK.out.blk HB0.out (fun h => h))
      have uy := blkLt (HK.out.blk HB1.out (fun h => h))
      have hrn : (List.range N).length = N := List.length_range
      have HRN := Lib.hid hrn
      clear hrn
      rcases hkd with hk0 | hk1 | hk2
      case' inl => have q1 : kind = 0 := hk0
      case' inr.inl => have q1 : kind = 1 := hk1
      case' inr.inr => have q2 : kind = 2 := hk2
      case inr.inr =>
        subst q2
        clear x0 x1 x2 x3 x4 x5 x6 y0 y1 ux uy
        go_wp2_with fail
        go_loopw [7, 9, 10] (fun o sm tp wr => ∃ (out : List Nat) (same : Nat) (top : Bool), sm = .int .i64 (same : Int) ∧ tp = .bool top ∧ same ≤ 2 ∧ Hid (OwnInts wr W0.heap.size o (zs out)) ∧ Hid (Keeps (fun _ => False) W0 wr) ∧ Hid (out.Pairwise (· < ·)) ∧ Hid (∀ k ∈ out, k < N) ∧ Hid (starM (axAt b) C R top same out = starM (axAt b) C R false 0 (List.range N)) ∧ out.length ≤ N) (fun o sm _ _ => 3 * vlen o + (2 - (intOf sm).toNat))
        case atStart => exact ⟨List.range N, 0, false, rfl, rfl, by omega, HO.out, HK.out, range_inc N, (fun k hk => List.mem_range.1 hk), rfl, by rw [HRN.out]; exact Nat.le_refl _⟩
        case round =>
          obtain ⟨out, same, top, rfl, rfl, hsm, HOW, HKR, HPW, HLT, HSM, hol⟩ := hrel
          have hzr := HKR.out.size
          by_cases hs2 : same < 2
          · have i1 : (same : Int) < 2 := by omega
            obtain ⟨A, c, hA, hrow⟩ := ownRowN HOW.out
            have HVL : Hid (vlen u7 = out.length) := by unfold Hid; rw [hA]; rfl
            have HCALL := Lib.hid (HFR.out top out A c wr (HK0.out.then_ HKR.out) HLT.out (by omega) HPW.out hrow)
            have hst := HSM.out
            rw [starM, if_pos hs2] at hst
            have HST := Lib.hid hst
            have HNL := Lib.hid (modL_len (A := axAt b) (top := top) (C := C) (R := R) out)
            have HNS : Hid (∀ k ∈ modL (axAt b) top C R out, k ∈ out) := fun k hk => modL_sub hk
            have HNP : Hid ((modL (axAt b) top C R out).Pairwise (· < ·)) := by unfold Hid modL; exact HPW.out.filter _
            have HSA : Hid ((modL (axAt b) top C R out).length = out.length → modL (axAt b) top C R out = out) := modL_same
            clear hst HSM
            generalize modL (axAt b) top C R out = nx at *
            have HAE := Lib.hid hA
            subst hA
            obtain ⟨x0, x1, x2, x3, x4, x5, x6⟩ := cells7 (HKR.out.blk HB0.out (fun h => h))
            obtain ⟨y0, y1⟩ := cells2 (HKR.out.blk HB1.out (fun h => h))
            have ux := blkLt (HKR.out.blk HB0.out (fun h => h))
            have uy := blkLt (HKR.out.blk HB1.out (fun h => h))
            go_wp2_with fail
            refine HCALL.out.mono ?_
            rintro e w5 ⟨v5, rfl, ho5, hk5⟩
            obtain ⟨A5, c5, hA5, hrow5⟩ := ownRowI ho5
            obtain ⟨A6, c6', hA6, hrow6⟩ := ownRowI (HOW.out.keep' hk5 (fun _ _ h => h))
            have hn1 : (zs nx).length ≤ 1000000 := by have := HNL.out; rw [zs_len]; omega
            have hn2 : (zs out).length ≤ 1000000 := by rw [zs_len]; omega
            have hsame := sameInts_calls (zs nx) (zs out) (fun k => k < w5.heap.size) A5 A6 c5 c6' w5 hrow5 hrow6 hn1 hn2
            simp only [Value.slice.injEq] at hA6
            obtain ⟨rfl, -, rfl⟩ := hA6
            rw [zs_len, zs_len] at hsame
            rw [zs_len] at hA5
            subst hA5
            have hd : decide (zs nx = zs out) = !decide (nx.length < out.length) := by
              rw [Bool.eq_iff_iff]
              simp only [decide_eq_true_eq, Bool.not_eq_true', decide_eq_false_iff_not]
              constructor
              · intro h; rw [zs_inj h]; omega
              · intro h; rw [HSA.out (by have := HNL.out; omega)]
            rw [hd] at hsame
            have HSI := Lib.hid hsame
            have HO5 : Hid (OwnInts w5 W0.heap.size (.slice A5 nx.length c5) (zs nx)) := World.ownsRow.mono ho5 hzr
            have HK5 := Lib.hid (HKR.out.then_ hk5)
            clear hsame hd hrow hrow5 hrow6 ho5 hk5 HCALL x0 x1 x2 x3 x4 x5 x6 y0 y1 ux uy hn1 hn2
            have HLN : Hid (∀ k ∈ nx, k < N) := fun k hk => HLT.out k (HNS.out k hk)
            by_cases hln : nx.length < out.length
            · rw [decide_eq_true hln] at HSI
              have HSTt : Hid (starM (axAt b) C R (!top) 0 nx = starM (axAt b) C R false 0 (List.range N)) := by have h := HST.out; rw [if_pos hln] at h; exact h
              go_wp2_with fail
              refine HSI.out.mono ?_
              rintro e w6 ⟨rfl, hk6⟩
              have HO6 := Lib.hid (HO5.out.keep' hk6 (fun _ _ h => h))
              have HK6 := Lib.hid (HK5.out.then_ hk6)
              clear hk6
              go_wp2_with fail
              go_roundw
              case rel => exact ⟨nx, 0, !top, rfl, rfl, by omega, HO6, HK6, HNP, HLN, HSTt, by omega⟩
              case measure =>
                show 3 * nx.length + _ < 3 * out.length + _
                simp [intOf]; omega
            · rw [decide_eq_false hln] at HSI
              have HSTt : Hid (starM (axAt b) C R (!top) (same + 1) nx = starM (axAt b) C R false 0 (List.range N)) := by have h := HST.out; rw [if_neg hln] at h; exact h
              have hnl := HNL.out
              go_wp2_with fail
              refine HSI.out.mono ?_
              rintro e w6 ⟨rfl, hk6⟩
              have HO6 := Lib.hid (HO5.out.keep' hk6 (fun _ _ h => h))
              have HK6 := Lib.hid (HK5.out.then_ hk6)
              clear hk6
              go_wp2_with fail
              go_roundw
              case rel => exact ⟨nx, same + 1, !top, by go_num, rfl, by omega, HO6, HK6, HNP, HLN, HSTt, by omega⟩
              case measure =>
                show 3 * nx.length + _ < 3 * out.length + _
                simp [intOf]; omega
          · obtain rfl : same = 2 := by omega
            have hst := HSM.out
            rw [starM, if_neg (by omega)] at hst
            have HST := Lib.hid hst
            clear hst HSM
            go_wp2_with fail
            go_ret
            refine ⟨_, rfl, ?_, HK0.out.then_ HKR.out⟩
            rw [HMM.out, if_pos rfl, ← HST.out]
            exact World.ownsRow.mono HOW.out hz0
      all_goals
        subst q1
        obtain ⟨A, c, hA, hrow⟩ := ownRowN HO.out
        rw [HRN.out] at hA
        have HFT := Lib.hid (fun top : Bool => HFR.out top (List.range N) A c wr (HK0.out.then_ HK.out) (fun k hk => List.mem_range.1 hk) (by rw [HRN.out]; omega) (range_inc N) hrow)
        rw [HRN.out] at HFT
        subst hA
        clear hrow HO
        go_wp2_with fail
        refine (HFT.out _).mono ?_
        rintro e w5 ⟨v5, rfl, ho5, hk5⟩
        have HO5 := Lib.hid ho5
        have HK5 := Lib.hid hk5
        clear ho5 hk5
        go_wp2_with fail
        go_ret
        refine ⟨v5, rfl, ?_, (HK0.out.then_ HK.out).then_ HK5.out⟩
        rw [HMM.out, if_neg (by decide)]
        exact World.ownsRow.mono HO5.out (by omega)
end Go.Proofs.YthiclhbnggehoaaGreatDoor
