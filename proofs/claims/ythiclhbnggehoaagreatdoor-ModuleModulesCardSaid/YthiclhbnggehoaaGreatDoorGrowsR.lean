/- Plain: signatures that grow, their modules. -/
import Derived.Test.YthiclhbnggehoaaGreatDoorUses
import Derived.Test.YthiclhbnggehoaaGreatDoorRising
import Derived.Test.YthiclhbnggehoaaGreatDoorPMod
import Derived.Test.YthiclhbnggehoaaGreatDoorRow
import Derived.Test.YthiclhbnggehoaaGreatDoorRegInv
namespace Go.Proofs.YthiclhbnggehoaaGreatDoor
set_option linter.unusedVariables false
set_option linter.unusedSimpArgs false
theorem insZ_mem (n : Int) : ∀ (l : List Int) (y : Int), y ∈ insZ n l ↔ y = n ∨ y ∈ l
  | [], y => by simp [insZ]
  | x :: r, y => by
    unfold insZ
    split
    · rename_i h; subst h; simp
    · split
      · simp
      · rw [List.mem_cons, insZ_mem n r y, List.mem_cons]
        exact ⟨fun h => by rcases h with h | h | h; exact .inr (.inl h); exact .inl h; exact .inr (.inr h), fun h => by rcases h with h | h | h; exact .inr (.inl h); exact .inl h; exact .inr (.inr h)⟩
theorem risL_ins (m n : Int) (h0 : 0 ≤ n) (h1 : n < m) : ∀ (l : List Int) (p : Option Int), risL m p l = true → lowO p n = true → risL m p (insZ n l) = true
  | [], p, _, hp => by simp [insZ, risL, hp, h0, h1]
  | x :: r, p, h, hp => by
    unfold insZ
    have h' := h
    simp only [risL, Bool.and_eq_true, decide_eq_true_eq] at h'
    split
    · exact h
    · split
      · rename_i hgt
        simp only [risL, Bool.and_eq_true, decide_eq_true_eq]
        exact ⟨⟨⟨h0, h1⟩, hp⟩, ⟨h'.1.1, by simp [lowO]; omega⟩, h'.2⟩
      · rename_i hne hgt
        simp only [risL, Bool.and_eq_true, decide_eq_true_eq]
        exact ⟨h'.1, risL_ins m n h0 h1 r (some x) h'.2 (by simp [lowO]; omega)⟩
theorem rising_ins {l : List Int} {m n : Int} (h : risingB l m = true) (h0 : 0 ≤ n) (h1 : n < m) : risingB (insZ n l) m = true := risL_ins m n h0 h1 l none h rfl
theorem risL_bounds {m : Int} : ∀ {l : List Int} {p : Option Int}, risL m p l = true → ∀ x ∈ l, 0 ≤ x ∧ x < m
  | x :: r, p, h, y, hy => by
    simp only [risL, Bool.and_eq_true, decide_eq_true_eq] at h
    rcases List.mem_cons.1 hy with rfl | hy
    · exact h.1.1
    · exact risL_bounds h.2 y hy
/-- The numbers of l, and those of k that are put in one by one. -/
def insAll (l k : List Int) : List Int := k.foldl (fun a x => insZ x a) l
theorem insAll_sub {k : List Int} : ∀ {l : List Int} {y : Int}, y ∈ l → y ∈ insAll l k := by
  induction k with
  | nil => intro l y h; exact h
  | cons x r ih => intro l y h; exact ih (l := insZ x l) ((insZ_mem x l y).2 (.inr h))
theorem insAll_rising {m : Int} {k : List Int} : ∀ {l : List Int}, risingB l m = true → (∀ x ∈ k, 0 ≤ x ∧ x < m) → risingB (insAll l k) m = true := by
  induction k with
  | nil => intro l h _; exact h
  | cons x r ih => intro l h hk; exact ih (rising_ins h (hk x (by simp)).1 (hk x (by simp)).2) (fun y hy => hk y (by simp [hy]))
theorem insAll_len {k : List Int} : ∀ {l : List Int}, (insAll l k).length ≤ l.length + k.length := by
  induction k with
  | nil => intro l; simp [insAll]
  | cons x r ih =>
    intro l
    have h1 := ih (l := insZ x l)
    have h2 := insZ_len x l
    show (insAll (insZ x l) r).length ≤ _
    simp only [List.length_cons]; omega
theorem insAll_snoc (l k : List Int) (x : Int) : insAll l (k ++ [x]) = insZ x (insAll l k) := by unfold insAll; rw [List.foldl_append]; rfl
/-- The module of the larger signature holds that of the smaller one. -/
theorem modL_grows {A : Nat → Ax} {top : Bool} {C R C' R' : List Int} {l : List Nat} (hC : ∀ n ∈ C, n ∈ C') (hR : ∀ n ∈ R, n ∈ R') : ∀ k ∈ modL A top C R l, k ∈ modL A top C' R' l := fun k hk => mem_modL.2 (modL_sig hC hR (mem_modL.1 hk))
end Go.Proofs.YthiclhbnggehoaaGreatDoor
/- isagogelaw19.ModuleGrows: the region that makes the larger signature, by an invariant; a signature that grows by one name. -/
namespace Go.Proofs.YthiclhbnggehoaaGreatDoor
open Go.RowKit
set_option linter.unusedVariables false
set_option linter.unusedSimpArgs false
theorem intSrc {ok : Nat → Prop} {w : World} {l : List Int} {A : Option Addr} {cap : Nat} (h : Row1 ok w (Value.int .i64) l A) : ∀ w', Keeps (fun _ => False) w w' → Src Tryz.prog 1 31 (.slice A l.length cap) l.length (l.map (Value.int .i64)) w' := fun w' hk => by
  by_cases hl : l = []
  · subst hl
    cases A with
    | none => exact Src.ofNil w' Tryz.underlying31 cap
    | some a => exact Src.ofSlice w' Tryz.underlying31 a 0 cap [] rfl (fun j u h => by simp at h) (by simp)
  · obtain ⟨b, o, rfl, hb, hc⟩ := h hl
    refine Src.ofSlice w' Tryz.underlying31 _ _ _ _ (by simp) (fun j u hu => ?_) (by intro u hu; simp only [List.mem_map] at hu; obtain ⟨z, _, rfl⟩ := hu; rfl)
    rw [addAny]
    have hj : j < l.length := by have := (List.getElem?_eq_some_iff.1 hu).1; simpa using this
    have hu' : u = .int .i64 l[j] := by simp [hj] at hu; exact hu.symm
    rw [hu']
    exact hk.cell (hc j hj) (fun h => h)
section
variable {P : Program} {ops : Array Oper} {o : Oper} {a : Act} {Q : Exit → Act → World → Prop} {K : Act → World → Prop} {E : Prop}
/-- append(v, x...) of whatever length, as a step of a region; where the result lies is told. -/
theorem step_appH {w : World} (hgd : Region.wanted o (yielded ops a.tmps) = true) (s x : Operand) (t tx : TypeId) (ho : o.op = .call { callee := .builtin .append, args := #[s, x], argTypes := #[t, tx] })
    (base e : Nat) (z : Value) (size bytes : Nat) (ht : P.underlying t = some (.slice e)) (hinfo : (P.info? e).map (fun i => (i.zero, i.size, i.bytes)) = some (some z, size, bytes))
    (hzs : z.cells.size = size) (hsz : 0 < size) (hb0 : 0 < bytes) (v : Value) (n : Nat) (xs : List Value) (hown : w.ownsRow base e size v n xs) (hs : a.eval s = v) (xv : Value) (m : Nat) (news : List Value)
    (hsrc : Src P size tx xv m news w) (hx : a.eval x = xv) (hbytes : (n + m) * bytes ≤ 140737488355328) (hbase : base ≤ w.heap.size)
    (h : ∀ v' w', w'.ownsRow base e size v' (n + m) (xs ++ news) → Keeps (fun k => v.ownBlock = some k) w w' → (v'.ownBlock = v.ownBlock ∨ v'.ownBlock = some w.heap.size) → K (a.put o.dst v') w') :
    if Region.wanted o (yielded ops a.tmps) = true then Oper.wp P o a w K Q else E := by
  obtain ⟨i, hi, hz, hsize, hby⟩ := info_parts hinfo
  subst hsize; subst hby
  obtain ⟨v1, w1, hr1, h1, hg, hat⟩ := run_app (P := P) w base t tx o.type e i z ht hi hz hzs hsz hb0 v n xs hown xv m news hsrc hbytes hbase
  rw [if_pos hgd]
  unfold Oper.wp execOp
  simp only [ho, resolve, invoke, builtin, Sem.run_bind, Sem.run_pure, Result.andThen_ok, List.map_toArray, List.map_cons, List.map_nil, hs, hx, hr1]
  exact h v1 w1 h1 ⟨hg.os, hg.tape, hg.output, hg.size, fun k hk hn => hg.block k hk (fun e => hn e.symm)⟩ hat
end
/-- A row's block holds elements of its kind. -/
theorem OwnInts.ty {w : World} {base : Nat} {v : Value} {l : List Int} {b : Nat} (h : OwnInts w base v l) (e : v.ownBlock = some b) : ∃ cs fz, w.heap[b]? = some (.cells cs 3 fz) := by
  rcases h.2 with ⟨rfl, h0⟩ | ⟨g, cap, cur, rfl, hg, hh, _⟩
  · simp [Value.ownBlock] at e
  · simp only [Value.ownBlock, Option.some.injEq] at e
    subst e
    exact ⟨_, _, hh⟩
theorem OwnInts.notBox {w : World} {base : Nat} {v : Value} {l : List Int} {g : Nat} {cs : Array Value} {fz : Nat × Nat} (h : OwnInts w base v l) (hg : w.heap[g]? = some (.cells cs 33 fz)) : v.ownBlock ≠ some g := fun e => by
  obtain ⟨c2, f2, h2⟩ := h.ty e
  rw [hg] at h2
  simp at h2
theorem OwnInts.made (w : World) (base : Nat) (hb : base ≤ w.heap.size) : OwnInts (w.alloc (.cells #[] 3 (0, 0))) base (.slice (some ⟨w.heap.size, 0, none⟩) 0 0) [] :=
  World.ownsRow.mono (World.ownsRow_made w #[] 0 (Nat.le_refl _) (Nat.zero_le _) (by simp)) hb
theorem ownSl {w : World} {base : Nat} {v : Value} {l : List Int} (h : OwnInts w base v l) : ∃ A d, v = .slice A l.length d ∧ l.length ≤ d := by
  obtain ⟨-, A, d, e, hd, -⟩ := ownedRow1 h
  exact ⟨A, d, e, hd⟩
theorem ownRowI {w : World} {base : Nat} {v : Value} {l : List Int} (h : OwnInts w base v l) : ∃ A c, v = .slice A l.length c ∧ Row1 (fun k => k < w.heap.size) w (Value.int .i64) l A := by
  obtain ⟨-, A, c, hv, -, hr⟩ := ownedRow1 h
  exact ⟨A, c, hv, hr.lim.mono (fun k hk => hk.2)⟩
/-- A row of a region: as it was made, or as it was appended to. -/
def cur (la lb : Bool) (va vb : Value) (l : List Int) : Option (Value × List Int) := if lb then some (vb, l) else if la then some (va, []) else none
structure GI (w : World) (C R : List Int) (p1 p2 q1 q2 : Value) (l0 l1 l2 l3 l4 l5 l6 l7 l8 l9 l10 : Bool) (t53 t54 t55 t56 t57 t58 t59 t60 t61 t9 : Value) (wc : World) : Prop where
  a1 : l1 = true → t54 = p1
  a2 : l2 = true → t55 = p2
  a5 : l5 = true → t58 = q1
  a6 : l6 = true → t59 = q2
  r1 : ∀ v l, cur l0 l3 t53 t56 C = some (v, l) → OwnInts wc w.heap.size v l
  r2 : ∀ v l, cur l4 l7 t57 t60 R = some (v, l) → OwnInts wc w.heap.size v l
  ne : ∀ v l u m, cur l0 l3 t53 t56 C = some (v, l) → cur l4 l7 t57 t60 R = some (u, m) → ∀ k, v.ownBlock = some k → u.ownBlock ≠ some k
  a8 : l8 = true → t61 = .agg #[t56, t60]
  a9 : l9 = true → ∃ g, t9 = .pointer (some ⟨g, 0, none⟩) ∧ w.heap.size ≤ g ∧ wc.heap[g]? = some (.cells (if l10 then #[t56, t60] else #[.slice none 0 0, .slice none 0 0]) 33 (0, 0))
  d3 : l3 = true → l0 = true
  d7 : l7 = true → l4 = true
  d8 : l8 = true → l3 = true ∧ l7 = true
  d10 : l10 = true → l8 = true ∧ l9 = true
  k : Keeps (fun _ => False) w wc
section
variable {w : World} {C R : List Int} {p1 p2 q1 q2 : Value} {l0 l1 l2 l3 l4 l5 l6 l7 l8 l9 l10 : Bool} {t53 t54 t55 t56 t57 t58 t59 t60 t61 t9 : Value} {wc wd : World}
theorem GI.still (h : GI w C R p1 p2 q1 q2 l0 l1 l2 l3 l4 l5 l6 l7 l8 l9 l10 t53 t54 t55 t56 t57 t58 t59 t60 t61 t9 wc) (hk : Keeps (fun _ => False) wc wd) : GI w C R p1 p2 q1 q2 l0 l1 l2 l3 l4 l5 l6 l7 l8 l9 l10 t53 t54 t55 t56 t57 t58 t59 t60 t61 t9 wd :=
  ⟨h.a1, h.a2, h.a5, h.a6, fun v l e => (h.r1 v l e).keep' hk (fun _ _ h => h), fun v l e => (h.r2 v l e).keep' hk (fun _ _ h => h), h.ne, h.a8,
    fun e => by obtain ⟨g, h1, h2, h3⟩ := h.a9 e; exact ⟨g, h1, h2, hk.blk h3 (fun h => h)⟩, h.d3, h.d7, h.d8, h.d10, h.k.then_ hk⟩
theorem GI.s0 (h : GI w C R p1 p2 q1 q2 false l1 l2 l3 l4 l5 l6 l7 l8 l9 l10 t53 t54 t55 t56 t57 t58 t59 t60 t61 t9 wc) :
    GI w C R p1 p2 q1 q2 true l1 l2 l3 l4 l5 l6 l7 l8 l9 l10 (.slice (some ⟨wc.heap.size, 0, none⟩) 0 0) t54 t55 t56 t57 t58 t59 t60 t61 t9 (wc.alloc (.cells #[] 3 (0, 0))) := by
  have e3 : l3 = false := by
    cases l3 with
    | false => rfl
    | true => exact absurd (h.d3 rfl) (by simp)
  subst e3
  have hk : Keeps (fun _ => False) wc (wc.alloc (.cells #[] 3 (0, 0))) := (Keeps.refl _ _).alloc _
  have h' := h.still hk
  refine ⟨h'.a1, h'.a2, h'.a5, h'.a6, fun v l e => ?_, h'.r2, fun v l u m e1 e2 k hv hu => ?_, h'.a8, h'.a9, fun _ => rfl, h'.d7, h'.d8, h'.d10, h'.k⟩
  · simp only [cur, Bool.false_eq_true, if_false, if_true, Option.some.injEq, Prod.mk.injEq] at e
    obtain ⟨rfl, rfl⟩ := e
    exact OwnInts.made wc _ h.k.size
  · simp only [cur, Bool.false_eq_true, if_false, if_true, Option.some.injEq, Prod.mk.injEq] at e1
    obtain ⟨rfl, rfl⟩ := e1
    simp only [Value.ownBlock, Option.some.injEq] at hv
    have := ((h.r2 u m e2).lt k hu).2
    omega
theorem GI.s4 (h : GI w C R p1 p2 q1 q2 l0 l1 l2 l3 false l5 l6 l7 l8 l9 l10 t53 t54 t55 t56 t57 t58 t59 t60 t61 t9 wc) :
    GI w C R p1 p2 q1 q2 l0 l1 l2 l3 true l5 l6 l7 l8 l9 l10 t53 t54 t55 t56 (.slice (some ⟨wc.heap.size, 0, none⟩) 0 0) t58 t59 t60 t61 t9 (wc.alloc (.cells #[] 3 (0, 0))) := by
  have e7 : l7 = false := by
    cases l7 with
    | false => rfl
    | true => exact absurd (h.d7 rfl) (by simp)
  subst e7
  have hk : Keeps (fun _ => False) wc (wc.alloc (.cells #[] 3 (0, 0))) := (Keeps.refl _ _).alloc _
  have h' := h.still hk
  refine ⟨h'.a1, h'.a2, h'.a5, h'.a6, h'.r1, fun v l e => ?_, fun v l u m e1 e2 k hv hu => ?_, h'.a8, h'.a9, h'.d3, fun _ => rfl, h'.d8, h'.d10, h'.k⟩
  · simp only [cur, Bool.false_eq_true, if_false, if_true, Option.some.injEq, Prod.mk.injEq] at e
    obtain ⟨rfl, rfl⟩ := e
    exact OwnInts.made wc _ h.k.size
  · simp only [cur, Bool.false_eq_true, if_false, if_true, Option.some.injEq, Prod.mk.injEq] at e2
    obtain ⟨rfl, rfl⟩ := e2
    simp only [Value.ownBlock, Option.some.injEq] at hu
    have := ((h.r1 v l e1).lt k hv).2
    omega
theorem GI.s1 (h : GI w C R p1 p2 q1 q2 l0 false l2 l3 l4 l5 l6 l7 l8 l9 l10 t53 t54 t55 t56 t57 t58 t59 t60 t61 t9 wc) :
    GI w C R p1 p2 q1 q2 l0 true l2 l3 l4 l5 l6 l7 l8 l9 l10 t53 p1 t55 t56 t57 t58 t59 t60 t61 t9 wc := ⟨fun _ => rfl, h.a2, h.a5, h.a6, h.r1, h.r2, h.ne, h.a8, h.a9, h.d3, h.d7, h.d8, h.d10, h.k⟩
theorem GI.s2 (h : GI w C R p1 p2 q1 q2 l0 l1 false l3 l4 l5 l6 l7 l8 l9 l10 t53 t54 t55 t56 t57 t58 t59 t60 t61 t9 wc) :
    GI w C R p1 p2 q1 q2 l0 l1 true l3 l4 l5 l6 l7 l8 l9 l10 t53 t54 p2 t56 t57 t58 t59 t60 t61 t9 wc := ⟨h.a1, fun _ => rfl, h.a5, h.a6, h.r1, h.r2, h.ne, h.a8, h.a9, h.d3, h.d7, h.d8, h.d10, h.k⟩
theorem GI.s5 (h : GI w C R p1 p2 q1 q2 l0 l1 l2 l3 l4 false l6 l7 l8 l9 l10 t53 t54 t55 t56 t57 t58 t59 t60 t61 t9 wc) :
    GI w C R p1 p2 q1 q2 l0 l1 l2 l3 l4 true l6 l7 l8 l9 l10 t53 t54 t55 t56 t57 q1 t59 t60 t61 t9 wc := ⟨h.a1, h.a2, fun _ => rfl, h.a6, h.r1, h.r2, h.ne, h.a8, h.a9, h.d3, h.d7, h.d8, h.d10, h.k⟩
theorem GI.s6 (h : GI w C R p1 p2 q1 q2 l0 l1 l2 l3 l4 l5 false l7 l8 l9 l10 t53 t54 t55 t56 t57 t58 t59 t60 t61 t9 wc) :
    GI w C R p1 p2 q1 q2 l0 l1 l2 l3 l4 l5 true l7 l8 l9 l10 t53 t54 t55 t56 t57 t58 q2 t60 t61 t9 wc := ⟨h.a1, h.a2, h.a5, fun _ => rfl, h.r1, h.r2, h.ne, h.a8, h.a9, h.d3, h.d7, h.d8, h.d10, h.k⟩
theorem GI.no8 (h : GI w C R p1 p2 q1 q2 l0 l1 l2 l3 l4 l5 l6 l7 l8 l9 l10 t53 t54 t55 t56 t57 t58 t59 t60 t61 t9 wc) (hn : l3 = false ∨ l7 = false) : l8 = false ∧ l10 = false := by
  have h8 : l8 = false := by
    cases l8 with
    | false => rfl
    | true => obtain ⟨a, b⟩ := h.d8 rfl; rcases hn with e | e <;> simp_all
  refine ⟨h8, ?_⟩
  cases l10 with
  | false => rfl
  | true => exact absurd (h.d10 rfl).1 (by simp [h8])
theorem GI.s3 (h : GI w C R p1 p2 q1 q2 true l1 l2 false l4 l5 l6 l7 l8 l9 l10 t53 t54 t55 t56 t57 t58 t59 t60 t61 t9 wc) {v' : Value} (ho : OwnInts wd w.heap.size v' C) (hk : Keeps (fun k => t53.ownBlock = some k) wc wd) (hat : v'.ownBlock = t53.ownBlock ∨ v'.ownBlock = some wc.heap.size) :
    GI w C R p1 p2 q1 q2 true l1 l2 true l4 l5 l6 l7 l8 l9 l10 t53 t54 t55 v' t57 t58 t59 t60 t61 t9 wd := by
  obtain ⟨rfl, rfl⟩ := h.no8 (.inl rfl)
  have h0 : OwnInts wc w.heap.size t53 [] := h.r1 t53 [] rfl
  refine ⟨h.a1, h.a2, h.a5, h.a6, fun v l e => ?_, fun u m e => (h.r2 u m e).keep' hk (fun b hb e' => h.ne t53 [] u m rfl e b e' hb), fun v l u m e1 e2 k hv hu => ?_, fun e => (by cases e), fun e => ?_, fun _ => rfl, h.d7, fun e => (by cases e), fun e => (by cases e), h.k.trans hk (fun i hi => .inr (h0.lt i hi).1)⟩
  · simp only [cur, if_true, Option.some.injEq, Prod.mk.injEq] at e
    obtain ⟨rfl, rfl⟩ := e
    exact ho
  · simp only [cur, if_true, Option.some.injEq, Prod.mk.injEq] at e1
    obtain ⟨rfl, rfl⟩ := e1
    rcases hat with e | e
    · exact h.ne t53 [] u m rfl e2 k (by rw [← e]; exact hv) hu
    · rw [e] at hv
      have := ((h.r2 u m e2).lt k hu).2
      simp at hv
      omega
  · obtain ⟨g, h1, h2, h3⟩ := h.a9 e
    exact ⟨g, h1, h2, hk.blk (by simpa using h3) (h0.notBox h3)⟩
theorem GI.s7 (h : GI w C R p1 p2 q1 q2 l0 l1 l2 l3 true l5 l6 false l8 l9 l10 t53 t54 t55 t56 t57 t58 t59 t60 t61 t9 wc) {v' : Value} (ho : OwnInts wd w.heap.size v' R) (hk : Keeps (fun k => t57.ownBlock = some k) wc wd) (hat : v'.ownBlock = t57.ownBlock ∨ v'.ownBlock = some wc.heap.size) :
    GI w C R p1 p2 q1 q2 l0 l1 l2 l3 true l5 l6 true l8 l9 l10 t53 t54 t55 t56 t57 t58 t59 v' t61 t9 wd := by
  obtain ⟨rfl, rfl⟩ := h.no8 (.inr rfl)
  have h0 : OwnInts wc w.heap.size t57 [] := h.r2 t57 [] rfl
  refine ⟨h.a1, h.a2, h.a5, h.a6, fun v l e => (h.r1 v l e).keep' hk (fun b hb e' => h.ne v l t57 [] e rfl b hb e'), fun v l e => ?_, fun v l u m e1 e2 k hv hu => ?_, fun e => (by cases e), fun e => ?_, h.d3, fun _ => rfl, fun e => (by cases e), fun e => (by cases e), h.k.trans hk (fun i hi => .inr (h0.lt i hi).1)⟩
  · simp only [cur, if_true, Option.some.injEq, Prod.mk.injEq] at e
    obtain ⟨rfl, rfl⟩ := e
    exact ho
  · simp only [cur, if_true, Option.some.injEq, Prod.mk.injEq] at e2
    obtain ⟨rfl, rfl⟩ := e2
    rcases hat with e | e
    · exact h.ne v l t57 [] e1 rfl k hv (by rw [← e]; exact hu)
    · rw [e] at hu
      have := ((h.r1 v l e1).lt k hv).2
      simp at hu
      omega
  · obtain ⟨g, h1, h2, h3⟩ := h.a9 e
    exact ⟨g, h1, h2, hk.blk (by simpa using h3) (h0.notBox h3)⟩
theorem GI.s8 (h : GI w C R p1 p2 q1 q2 l0 l1 l2 true l4 l5 l6 true false l9 l10 t53 t54 t55 t56 t57 t58 t59 t60 t61 t9 wc) :
    GI w C R p1 p2 q1 q2 l0 l1 l2 true l4 l5 l6 true true l9 l10 t53 t54 t55 t56 t57 t58 t59 t60 (.agg #[t56, t60]) t9 wc := ⟨h.a1, h.a2, h.a5, h.a6, h.r1, h.r2, h.ne, fun _ => rfl, h.a9, h.d3, h.d7, fun _ => ⟨rfl, rfl⟩, fun e => ⟨rfl, (h.d10 e).2⟩, h.k⟩
theorem GI.s9 (h : GI w C R p1 p2 q1 q2 l0 l1 l2 l3 l4 l5 l6 l7 l8 false l10 t53 t54 t55 t56 t57 t58 t59 t60 t61 t9 wc) :
    GI w C R p1 p2 q1 q2 l0 l1 l2 l3 l4 l5 l6 l7 l8 true l10 t53 t54 t55 t56 t57 t58 t59 t60 t61 (.pointer (some ⟨wc.heap.size, 0, none⟩)) (wc.alloc (.cells #[.slice none 0 0, .slice none 0 0] 33 (0, 0))) := by
  have e10 : l10 = false := by
    cases l10 with
    | false => rfl
    | true => exact absurd (h.d10 rfl).2 (by simp)
  subst e10
  have hk : Keeps (fun _ => False) wc (wc.alloc (.cells #[.slice none 0 0, .slice none 0 0] 33 (0, 0))) := (Keeps.refl _ _).alloc _
  have h' := h.still hk
  exact ⟨h'.a1, h'.a2, h'.a5, h'.a6, h'.r1, h'.r2, h'.ne, h'.a8, fun _ => ⟨_, rfl, h.k.size, by simpa using blkNew rfl⟩, h'.d3, h'.d7, h'.d8, fun e => (by cases e), h'.k⟩
theorem GI.s10 {g : Nat} (h : GI w C R p1 p2 q1 q2 l0 l1 l2 true l4 l5 l6 true true true false t53 t54 t55 t56 t57 t58 t59 t60 t61 (.pointer (some ⟨g, 0, none⟩)) wc) :
    GI w C R p1 p2 q1 q2 l0 l1 l2 true l4 l5 l6 true true true true t53 t54 t55 t56 t57 t58 t59 t60 t61 (.pointer (some ⟨g, 0, none⟩)) ((wc.setCell ⟨g, 0, none⟩ t56).setCell ⟨g, 1, none⟩ t60) := by
  obtain ⟨_, e1, hg, hb⟩ := h.a9 rfl
  injection e1 with e1; injection e1 with e1; injection e1 with e1; subst e1
  have hk : Keeps (fun i => i = g) wc ((wc.setCell ⟨g, 0, none⟩ t56).setCell ⟨g, 1, none⟩ t60) := ((Keeps.refl (fun i => i = g) wc).set (g := g) (Or.inl (by rfl)) _).set (g := g) (Or.inl (by rfl)) _
  have hb' : wc.heap[g]? = some (.cells #[.slice none 0 0, .slice none 0 0] 33 (0, 0)) := by simpa using hb
  refine ⟨h.a1, h.a2, h.a5, h.a6, fun v l e => (h.r1 v l e).keep' hk (fun b e1 e2 => (h.r1 v l e).notBox hb' (by rw [← e2]; exact e1)), fun v l e => (h.r2 v l e).keep' hk (fun b e1 e2 => (h.r2 v l e).notBox hb' (by rw [← e2]; exact e1)), h.ne, h.a8, fun _ => ⟨g, rfl, hg, ?_⟩, h.d3, h.d7, h.d8, fun _ => ⟨rfl, rfl⟩, h.k.trans hk (fun i hi => .inr (by omega))⟩
  have := blkSet (blkSet hb' 0 t56) 1 t60
  simpa using this
end
/-- A signature in a box of the call's own, its names in rows of the call's own. -/
def Both (w : World) (g : Nat) (l m : List Int) (wr : World) : Prop := ∃ v1 v2, wr.heap[g]? = some (.cells #[v1, v2] 33 (0, 0)) ∧ w.heap.size ≤ g ∧ OwnInts wr w.heap.size v1 l ∧ OwnInts wr w.heap.size v2 m ∧ (∀ k, v1.ownBlock = some k → v2.ownBlock ≠ some k) ∧ Keeps (fun _ => False) w wr
theorem both_ins1 {w wr w' : World} {g : Nat} {l l' m : List Int} {v1 v2 v' : Value} (h1 : wr.heap[g]? = some (.cells #[v1, v2] 33 (0, 0))) (h2 : w.heap.size ≤ g) (o1 : OwnInts wr w.heap.size v1 l) (o2 : OwnInts wr w.heap.size v2 m)
    (ne : ∀ k, v1.ownBlock = some k → v2.ownBlock ≠ some k) (hk : Keeps (fun _ => False) w wr) (ha : AccN w.heap.size v1 wr l' v' w') : Both w g l' m (w'.setCell ⟨g, 0, none⟩ v') := by
  have hg' := ha.keep.blk h1 (o1.notBox h1)
  have hs : Keeps (fun i => i = g) w' (w'.setCell ⟨g, 0, none⟩ v') := (Keeps.refl (fun i => i = g) w').set (g := g) (Or.inl (by rfl)) _
  have o2' := o2.keep' ha.keep (fun b hb e => ne b e hb)
  refine ⟨v', v2, by simpa using blkSet hg' 0 v', h2, ha.own.keep' hs (fun b e1 e2 => ha.own.notBox hg' (by rw [← e2]; exact e1)), o2'.keep' hs (fun b e1 e2 => o2'.notBox hg' (by rw [← e2]; exact e1)), fun k e1 e2 => ?_, (hk.trans ha.keep (fun i hi => .inr (o1.lt i hi).1)).trans hs (fun i hi => .inr (by omega))⟩
  rcases ha.at_ with e | ⟨b, e, hb⟩
  · exact ne k (by rw [← e]; exact e1) e2
  · rw [e] at e1
    simp only [Option.some.injEq] at e1
    have := (o2.lt k e2).2
    omega
theorem both_ins2 {w wr w' : World} {g : Nat} {l m m' : List Int} {v1 v2 v' : Value} (h1 : wr.heap[g]? = some (.cells #[v1, v2] 33 (0, 0))) (h2 : w.heap.size ≤ g) (o1 : OwnInts wr w.heap.size v1 l) (o2 : OwnInts wr w.heap.size v2 m)
    (ne : ∀ k, v1.ownBlock = some k → v2.ownBlock ≠ some k) (hk : Keeps (fun _ => False) w wr) (ha : AccN w.heap.size v2 wr m' v' w') : Both w g l m' (w'.setCell ⟨g, 1, none⟩ v') := by
  have hg' := ha.keep.blk h1 (o2.notBox h1)
  have hs : Keeps (fun i => i = g) w' (w'.setCell ⟨g, 1, none⟩ v') := (Keeps.refl (fun i => i = g) w').set (g := g) (Or.inl (by rfl)) _
  have o1' := o1.keep' ha.keep (fun b hb e => ne b hb e)
  refine ⟨v1, v', by simpa using blkSet hg' 1 v', h2, o1'.keep' hs (fun b e1 e2 => o1'.notBox hg' (by rw [← e2]; exact e1)), ha.own.keep' hs (fun b e1 e2 => ha.own.notBox hg' (by rw [← e2]; exact e1)), fun k e1 e2 => ?_, (hk.trans ha.keep (fun i hi => .inr (o2.lt i hi).1)).trans hs (fun i hi => .inr (by omega))⟩
  rcases ha.at_ with e | ⟨b, e, hb⟩
  · exact ne k e1 (by rw [← e]; exact e2)
  · rw [e] at e2
    simp only [Option.some.injEq] at e2
    have := (o1.lt k e1).2
    omega
theorem GI.both {w : World} {C R : List Int} {p1 p2 q1 q2 t53 t54 t55 t56 t57 t58 t59 t60 t61 t9 : Value} {wc : World} (h : GI w C R p1 p2 q1 q2 true true true true true true true true true true true t53 t54 t55 t56 t57 t58 t59 t60 t61 t9 wc) : ∃ g, t9 = .pointer (some ⟨g, 0, none⟩) ∧ Both w g C R wc := by
  obtain ⟨g, e, hg, hb⟩ := h.a9 rfl
  exact ⟨g, e, t56, t60, by simpa using hb, hg, h.r1 _ _ rfl, h.r2 _ _ rfl, h.ne _ _ _ _ rfl rfl, h.k⟩
end Go.Proofs.YthiclhbnggehoaaGreatDoor
