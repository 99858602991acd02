/- Plain: a knowledge base with some of its axioms, picked by their numbers. -/
import Derived.Test.YthiclhbnggehoaaGreatDoorPKb
import Derived.Test.YthiclhbnggehoaaGreatDoorRow
import Derived.Test.YthiclhbnggehoaaGreatDoorReads
import Derived.Test.YthiclhbnggehoaaGreatDoorRising
import Derived.Test.YthiclhbnggehoaaGreatDoorNamed
namespace Go.Proofs.YthiclhbnggehoaaGreatDoor
set_option linter.unusedVariables false
set_option linter.unusedSimpArgs false
/-- The elements whose numbers, counted from at on, are in ax. -/
def pickF {α : Type} (ax : List Int) : Nat → List α → List α
  | _, [] => []
  | n, x :: r => if (n : Int) ∈ ax then x :: pickF ax (n + 1) r else pickF ax (n + 1) r
theorem pickF_app {α : Type} (ax : List Int) : ∀ (l m : List α) (n : Nat), pickF ax n (l ++ m) = pickF ax n l ++ pickF ax (n + l.length) m
  | [], m, n => by simp [pickF]
  | x :: r, m, n => by
    simp only [List.cons_append, pickF, List.length_cons]
    rw [pickF_app ax r m (n + 1), show n + 1 + r.length = n + (r.length + 1) by omega]
    split <;> rfl
theorem pickF_map {α β : Type} (ax : List Int) (f : α → β) : ∀ (l : List α) (n : Nat), pickF ax n (l.map f) = (pickF ax n l).map f
  | [], n => rfl
  | x :: r, n => by
    simp only [List.map_cons, pickF, pickF_map ax f r (n + 1)]
    split <;> rfl
theorem pickF_snoc {α : Type} (ax : List Int) (l : List α) (x : α) (n : Nat) : pickF ax n (l ++ [x]) = pickF ax n l ++ (if ((n + l.length : Nat) : Int) ∈ ax then [x] else []) := by
  rw [pickF_app]; simp only [pickF]
theorem pickF_len {α : Type} (ax : List Int) : ∀ (l : List α) (n : Nat), (pickF ax n l).length ≤ l.length
  | [], n => Nat.le_refl _
  | x :: r, n => by
    have := pickF_len ax r (n + 1)
    simp only [pickF, List.length_cons]
    split <;> simp <;> omega
theorem pickF_sub {α : Type} (ax : List Int) : ∀ (l : List α) (n : Nat) (x : α), x ∈ pickF ax n l → x ∈ l
  | y :: r, n, x, h => by
    simp only [pickF] at h
    split at h
    · rcases List.mem_cons.1 h with rfl | h
      · simp
      · simp [pickF_sub ax r (n + 1) x h]
    · simp [pickF_sub ax r (n + 1) x h]
theorem mem_cast {l : List Nat} {k : Nat} : (k : Int) ∈ (l.map fun k : Nat => (k : Int)) ↔ k ∈ l := by
  rw [List.mem_map]
  refine ⟨fun ⟨a, ha, e⟩ => ?_, fun h => ⟨k, h, rfl⟩⟩
  have : a = k := by omega
  subst this; exact ha
theorem pickF_range {α : Type} (f : Nat → α) (l : List Nat) (hp : l.Pairwise (· < ·)) : ∀ (m n : Nat), (∀ k ∈ l, n ≤ k ∧ k < n + m) → pickF (l.map fun k : Nat => (k : Int)) n ((List.range' n m).map f) = l.map f := by
  intro m
  induction m generalizing l with
  | zero =>
    intro n h
    cases l with
    | nil => rfl
    | cons x r => have := h x (by simp); omega
  | succ m ih =>
    intro n h
    rw [List.range'_succ, List.map_cons]
    simp only [pickF]
    have key : ∀ (l : List Nat), l.Pairwise (· < ·) → (∀ k ∈ l, n + 1 ≤ k ∧ k < n + 1 + m) → ∀ (ax : List Int), (∀ k : Nat, n + 1 ≤ k → ((k : Int) ∈ ax ↔ k ∈ l)) → pickF ax (n + 1) ((List.range' (n + 1) m).map f) = l.map f := by
      intro l hp hl ax hax
      rw [← ih l hp (n + 1) hl]
      have cong : ∀ (xs : List α) (j : Nat), n + 1 ≤ j → pickF ax j xs = pickF (l.map fun k : Nat => (k : Int)) j xs := by
        intro xs
        induction xs with
        | nil => intro j _; rfl
        | cons x r ihx =>
          intro j hj
          simp only [pickF]
          rw [ihx (j + 1) (by omega)]
          have e : ((j : Int) ∈ ax) ↔ ((j : Int) ∈ l.map fun k : Nat => (k : Int)) := by
            rw [hax j hj, mem_cast]
          by_cases h : (j : Int) ∈ ax
          · rw [if_pos h, if_pos (e.1 h)]
          · rw [if_neg h, if_neg (fun h' => h (e.2 h'))]
      exact cong _ _ (Nat.le_refl _)
    cases l with
    | nil =>
      rw [if_neg (by simp)]
      exact key [] List.Pairwise.nil (by simp) _ (fun k _ => by simp)
    | cons x r =>
      rw [List.pairwise_cons] at hp
      have hx := h x (by simp)
      by_cases e : x = n
      · subst e
        rw [if_pos (by simp)]
        rw [List.map_cons]
        congr 1
        refine key r hp.2 (fun k hk => ⟨hp.1 k hk, by have := h k (by simp [hk]); omega⟩) _ (fun k hk => ?_)
        rw [List.mem_cons, mem_cast]
        refine ⟨fun h1 => ?_, fun h1 => .inr h1⟩
        rcases h1 with h1 | h1
        · omega
        · exact h1
      · have hn : ¬ ((n : Int) ∈ (x :: r).map fun k : Nat => (k : Int)) := by
          rw [mem_cast, List.mem_cons]
          rintro (h1 | h1)
          · omega
          · have := hp.1 n h1; omega
        rw [if_neg hn]
        refine key (x :: r) (List.pairwise_cons.2 hp) (fun k hk => ?_) _ (fun k hk => ?_)
        · have h1 := h k hk
          rcases List.mem_cons.1 hk with rfl | hk
          · omega
          · have := hp.1 k hk; omega
        · exact mem_cast
theorem pickF_axs {b : Kb} {l : List Nat} (hp : l.Pairwise (· < ·)) (hn : ∀ k ∈ l, k < kbCount b) : pickF (l.map fun k : Nat => (k : Int)) 0 (axs b) = l.map (axAt b) := by
  rw [← axAt_range b, List.range_eq_range']
  exact pickF_range (axAt b) l hp (kbCount b) 0 (fun k hk => ⟨Nat.zero_le _, by have := hn k hk; omega⟩)
/-- The knowledge base that Only returns. -/
def onlyK (b : Kb) (ax : List Int) : Kb := { cs := b.cs, rs := b.rs, is := b.is, incls := pickF ax 0 b.incls, roles := pickF ax b.incls.length b.roles, facts := pickF ax (b.incls.length + b.roles.length) b.facts, links := pickF ax (b.incls.length + b.roles.length + b.facts.length) b.links }
theorem onlyK_eq {b : Kb} {l : List Nat} (hp : l.Pairwise (· < ·)) (hn : ∀ k ∈ l, k < kbCount b) : onlyK b (l.map fun k : Nat => (k : Int)) = kbOf b (l.map (axAt b)) := by
  rw [← pickF_axs hp hn]
  generalize (l.map fun k : Nat => (k : Int)) = ax
  have e : pickF ax 0 (axs b) = axs (onlyK b ax) := by
    unfold axs onlyK
    simp only [pickF_app, pickF_map, List.length_append, List.length_map, Nat.zero_add]
  rw [e]
  unfold kbOf
  rw [axs_incls, axs_roles, axs_facts, axs_links]
  rfl
end Go.Proofs.YthiclhbnggehoaaGreatDoor
/- isagogeref02.Only: a knowledge base with some of its axioms. -/
namespace Go.Proofs.YthiclhbnggehoaaGreatDoor
open Go.RowKit
set_option linter.unusedVariables false
set_option linter.unusedSimpArgs false
/-- An element, and the cells that it takes. -/
abbrev RawE (α : Type) (k : Nat) : Type := α × { vs : List Value // vs.length = k }
theorem ownTy {w : World} {base e k n : Nat} {v : Value} {xs : List Value} {b : Nat} (h : w.ownsRow base e k v n xs) (e1 : v.ownBlock = some b) : ∃ cs fz, w.heap[b]? = some (.cells cs e fz) := by
  rcases h.2 with ⟨rfl, h0⟩ | ⟨g, cap, cur, rfl, hg, hh, _⟩
  · simp [Value.ownBlock] at e1
  · simp only [Value.ownBlock, Option.some.injEq] at e1
    subst e1
    exact ⟨_, _, hh⟩
theorem tyNe {w : World} {b e e' : Nat} {cs cs' : Array Value} {fz fz' : Nat × Nat} (h : w.heap[b]? = some (.cells cs e fz)) (h' : w.heap[b]? = some (.cells cs' e' fz')) : e = e' := by
  rw [h] at h'; simp only [Option.some.injEq, Obj.cells.injEq] at h'; exact h'.2.1
theorem rowCells {α : Type} {k : Nat} {w : World} {base e : Nat} {v : Value} {Z : List (RawE α k)} (h : w.ownsRow base e k v Z.length (Z.flatMap fun z => z.2.1)) :
    ∃ A c, v = .slice A Z.length c ∧ Z.length ≤ c ∧ (Z ≠ [] → ∃ b, A = some ⟨b, 0, none⟩ ∧ b < w.heap.size ∧ ∀ i (h : i < Z.length) j, j < k → w.cell? ⟨b, 0 + i * k + j, none⟩ = (Z[i].2.1)[j]?) := by
  rcases h.2 with ⟨rfl, h0⟩ | ⟨g, cap, cur, rfl, hg, hh, hc, _, _, ht⟩
  · exact ⟨none, 0, by rw [h0], by omega, fun hl => absurd (List.eq_nil_of_length_eq_zero h0) hl⟩
  · refine ⟨_, cap, rfl, hc, fun _ => ⟨g, rfl, blkLt hh, fun i hi j hj => ?_⟩⟩
    have hx := flatE_at (enc := fun z : RawE α k => z.2.1) (fun z => z.2.2) Z i hi j hj
    have hb : i * k + j < Z.length * k := by
      have := Nat.mul_le_mul_right k (show i + 1 ≤ Z.length by omega)
      rw [Nat.add_mul] at this
      omega
    rw [← hx, blkCell hh, Nat.zero_add, ← ht, List.getElem?_take_of_lt hb]
    simp
theorem listZ {α β : Type} {l : List α} {Q : Nat → α → β → Prop} (h : ∀ i (h : i < l.length), ∃ b, Q i l[i] b) : ∃ Z : List (α × β), Z.map (·.1) = l ∧ ∀ i (h : i < Z.length), Q i Z[i].1 Z[i].2 := by
  classical
  refine ⟨List.ofFn fun i : Fin l.length => (l[i.1], (h i.1 i.2).choose), ?_, fun i hi => ?_⟩
  · rw [List.map_ofFn]; exact List.ofFn_getElem
  · simp only [List.getElem_ofFn]
    exact (h i (by simpa using hi)).choose_spec
def InclZ (ok : Nat → Prop) (w : World) (z : RawE (Con × Con) 6) : Prop := ∃ A1 c1 A2 c2, z.2.1 = [.int .i64 z.1.1.op, .int .i64 z.1.1.n, .slice A1 z.1.1.args.length c1, .int .i64 z.1.2.op, .int .i64 z.1.2.n, .slice A2 z.1.2.args.length c2] ∧ ConR ok w z.1.1 [.int .i64 z.1.1.op, .int .i64 z.1.1.n, .slice A1 z.1.1.args.length c1] ∧ ConR ok w z.1.2 [.int .i64 z.1.2.op, .int .i64 z.1.2.n, .slice A2 z.1.2.args.length c2]
theorem infoInclZ : (Tryz.prog.info? 92).map (fun i => (i.zero, i.size, i.bytes)) = some (some (.agg #[.int .i64 0, .int .i64 0, .slice none 0 0, .int .i64 0, .int .i64 0, .slice none 0 0]), 6, 80) := by kernel_rfl
def RoleZ (ok : Nat → Prop) (w : World) (z : RawE (Int × Int) 2) : Prop := z.2.1 = [.int .i64 z.1.1, .int .i64 z.1.2]
theorem infoRoleZ : (Tryz.prog.info? 84).map (fun i => (i.zero, i.size, i.bytes)) = some (some (.agg #[.int .i64 0, .int .i64 0]), 2, 16) := by kernel_rfl
def FactZ (ok : Nat → Prop) (w : World) (z : RawE (Int × Con) 4) : Prop := ∃ A1 c1, z.2.1 = [.int .i64 z.1.1, .int .i64 z.1.2.op, .int .i64 z.1.2.n, .slice A1 z.1.2.args.length c1] ∧ ConR ok w z.1.2 [.int .i64 z.1.2.op, .int .i64 z.1.2.n, .slice A1 z.1.2.args.length c1]
theorem infoFactZ : (Tryz.prog.info? 87).map (fun i => (i.zero, i.size, i.bytes)) = some (some (.agg #[.int .i64 0, .int .i64 0, .int .i64 0, .slice none 0 0]), 4, 48) := by kernel_rfl
def LinkZ (ok : Nat → Prop) (w : World) (z : RawE (Int × Int × Int) 3) : Prop := z.2.1 = [.int .i64 z.1.1, .int .i64 z.1.2.1, .int .i64 z.1.2.2]
theorem infoLinkZ : (Tryz.prog.info? 89).map (fun i => (i.zero, i.size, i.bytes)) = some (some (.agg #[.int .i64 0, .int .i64 0, .int .i64 0]), 3, 24) := by kernel_rfl
theorem InclZ.mono {ok ok' : Nat → Prop} {w w' : World} {z : RawE (Con × Con) 6} (h : InclZ ok w z) (f : ∀ c vs, ConR ok w c vs → ConR ok' w' c vs) : InclZ ok' w' z := by
  obtain ⟨A1, c1, A2, c2, e, r1, r2⟩ := h; exact ⟨A1, c1, A2, c2, e, f _ _ r1, f _ _ r2⟩
theorem FactZ.mono {ok ok' : Nat → Prop} {w w' : World} {z : RawE (Int × Con) 4} (h : FactZ ok w z) (f : ∀ c vs, ConR ok w c vs → ConR ok' w' c vs) : FactZ ok' w' z := by
  obtain ⟨A1, c1, e, r1⟩ := h; exact ⟨A1, c1, e, f _ _ r1⟩
theorem RoleZ.mono {ok ok' : Nat → Prop} {w w' : World} {z : RawE (Int × Int) 2} (h : RoleZ ok w z) (_ : ∀ c vs, ConR ok w c vs → ConR ok' w' c vs) : RoleZ ok' w' z := h
theorem LinkZ.mono {ok ok' : Nat → Prop} {w w' : World} {z : RawE (Int × Int × Int) 3} (h : LinkZ ok w z) (_ : ∀ c vs, ConR ok w c vs → ConR ok' w' c vs) : LinkZ ok' w' z := h
theorem inclsZ {ok : Nat → Prop} {w : World} {l : List (Con × Con)} {A : Option Addr} (h : InclsR ok w l A) : ∃ Z : List (RawE (Con × Con) 6), Z.map (·.1) = l ∧ (Z ≠ [] → ∃ b o, A = some ⟨b, o, none⟩ ∧ ok b ∧ ∀ i (h : i < Z.length) j, j < 6 → w.cell? ⟨b, o + i * 6 + j, none⟩ = (Z[i].2.1)[j]?) ∧ ∀ z ∈ Z, InclZ ok w z := by
  by_cases hl : l = []
  · subst hl; exact ⟨[], rfl, fun h => absurd rfl h, by simp⟩
  · obtain ⟨b, o, ha, hb, hc⟩ := h hl
    obtain ⟨Z, hZ, hq⟩ := listZ (l := l) (β := { vs : List Value // vs.length = 6 }) (Q := fun i x (vs : { vs : List Value // vs.length = 6 }) => (∀ j, j < 6 → w.cell? ⟨b, o + i * 6 + j, none⟩ = vs.1[j]?) ∧ InclZ ok w (x, vs)) (fun i hi => by
      obtain ⟨A1, c1, A2, c2, e0, e1, e2, e3, e4, e5, r1, r2⟩ := hc i hi
      exact ⟨⟨[_, _, _, _, _, _], rfl⟩, fun j hj => by match j, hj with | 0, _ => exact e0 | 1, _ => exact e1 | 2, _ => exact e2 | 3, _ => exact e3 | 4, _ => exact e4 | 5, _ => exact e5, A1, c1, A2, c2, rfl, r1, r2⟩)
    refine ⟨Z, hZ, fun _ => ⟨b, o, ha, hb, fun i hi j hj => (hq i hi).1 j hj⟩, fun z hz => ?_⟩
    obtain ⟨i, hi, rfl⟩ := List.mem_iff_getElem.1 hz
    exact (hq i hi).2
theorem inclsR_of {ok : Nat → Prop} {w : World} {base : Nat} {v : Value} {Z : List (RawE (Con × Con) 6)} (h : w.ownsRow base 92 6 v Z.length (Z.flatMap fun z => z.2.1)) (hz : ∀ z ∈ Z, InclZ ok w z) (hok : ∀ k, k < w.heap.size → ok k) : ∃ A c, v = .slice A (Z.map (·.1)).length c ∧ (Z.map (·.1)).length ≤ c ∧ InclsR ok w (Z.map (·.1)) A := by
  obtain ⟨A, c, e, hc, hr⟩ := rowCells h
  refine ⟨A, c, by rw [List.length_map]; exact e, by rw [List.length_map]; exact hc, fun hl => ?_⟩
  obtain ⟨b, ha, hb, hcells⟩ := hr (fun h => hl (by rw [h]; rfl))
  refine ⟨b, 0, ha, hok b hb, fun i hi => ?_⟩
  have hi : i < Z.length := by simpa using hi
  have hc := hcells i hi
  simp only [List.getElem_map]
  obtain ⟨A1, c1, A2, c2, e, r1, r2⟩ := hz _ (List.getElem_mem hi)
  rw [e] at hc
  exact ⟨A1, c1, A2, c2, by simpa using hc 0 (by omega), by simpa using hc 1 (by omega), by simpa using hc 2 (by omega), by simpa using hc 3 (by omega), by simpa using hc 4 (by omega), by simpa using hc 5 (by omega), r1, r2⟩
theorem rolesZ {ok : Nat → Prop} {w : World} {l : List (Int × Int)} {A : Option Addr} (h : RolesR ok w l A) : ∃ Z : List (RawE (Int × Int) 2), Z.map (·.1) = l ∧ (Z ≠ [] → ∃ b o, A = some ⟨b, o, none⟩ ∧ ok b ∧ ∀ i (h : i < Z.length) j, j < 2 → w.cell? ⟨b, o + i * 2 + j, none⟩ = (Z[i].2.1)[j]?) ∧ ∀ z ∈ Z, RoleZ ok w z := by
  by_cases hl : l = []
  · subst hl; exact ⟨[], rfl, fun h => absurd rfl h, by simp⟩
  · obtain ⟨b, o, ha, hb, hc⟩ := h hl
    obtain ⟨Z, hZ, hq⟩ := listZ (l := l) (β := { vs : List Value // vs.length = 2 }) (Q := fun i x (vs : { vs : List Value // vs.length = 2 }) => (∀ j, j < 2 → w.cell? ⟨b, o + i * 2 + j, none⟩ = vs.1[j]?) ∧ RoleZ ok w (x, vs)) (fun i hi => by
      obtain ⟨e0, e1⟩ := hc i hi
      exact ⟨⟨[.int .i64 l[i].1, .int .i64 l[i].2], rfl⟩, fun j hj => (by match j, hj with | 0, _ => exact e0 | 1, _ => exact e1), by unfold RoleZ; rfl⟩)
    refine ⟨Z, hZ, fun _ => ⟨b, o, ha, hb, fun i hi j hj => (hq i hi).1 j hj⟩, fun z hz => ?_⟩
    obtain ⟨i, hi, rfl⟩ := List.mem_iff_getElem.1 hz
    exact (hq i hi).2
theorem rolesR_of {ok : Nat → Prop} {w : World} {base : Nat} {v : Value} {Z : List (RawE (Int × Int) 2)} (h : w.ownsRow base 84 2 v Z.length (Z.flatMap fun z => z.2.1)) (hz : ∀ z ∈ Z, RoleZ ok w z) (hok : ∀ k, k < w.heap.size → ok k) : ∃ A c, v = .slice A (Z.map (·.1)).length c ∧ (Z.map (·.1)).length ≤ c ∧ RolesR ok w (Z.map (·.1)) A := by
  obtain ⟨A, c, e, hc, hr⟩ := rowCells h
  refine ⟨A, c, by rw [List.length_map]; exact e, by rw [List.length_map]; exact hc, fun hl => ?_⟩
  obtain ⟨b, ha, hb, hcells⟩ := hr (fun h => hl (by rw [h]; rfl))
  refine ⟨b, 0, ha, hok b hb, fun i hi => ?_⟩
  have hi : i < Z.length := by simpa using hi
  have hc := hcells i hi
  simp only [List.getElem_map]
  have e := hz _ (List.getElem_mem hi)
  unfold RoleZ at e
  rw [e] at hc
  exact ⟨by simpa using hc 0 (by omega), by simpa using hc 1 (by omega)⟩
theorem factsZ {ok : Nat → Prop} {w : World} {l : List (Int × Con)} {A : Option Addr} (h : FactsR ok w l A) : ∃ Z : List (RawE (Int × Con) 4), Z.map (·.1) = l ∧ (Z ≠ [] → ∃ b o, A = some ⟨b, o, none⟩ ∧ ok b ∧ ∀ i (h : i < Z.length) j, j < 4 → w.cell? ⟨b, o + i * 4 + j, none⟩ = (Z[i].2.1)[j]?) ∧ ∀ z ∈ Z, FactZ ok w z := by
  by_cases hl : l = []
  · subst hl; exact ⟨[], rfl, fun h => absurd rfl h, by simp⟩
  · obtain ⟨b, o, ha, hb, hc⟩ := h hl
    obtain ⟨Z, hZ, hq⟩ := listZ (l := l) (β := { vs : List Value // vs.length = 4 }) (Q := fun i x (vs : { vs : List Value // vs.length = 4 }) => (∀ j, j < 4 → w.cell? ⟨b, o + i * 4 + j, none⟩ = vs.1[j]?) ∧ FactZ ok w (x, vs)) (fun i hi => by
      obtain ⟨A1, c1, e0, e1, e2, e3, r1⟩ := hc i hi
      exact ⟨⟨[_, _, _, _], rfl⟩, fun j hj => by match j, hj with | 0, _ => exact e0 | 1, _ => exact e1 | 2, _ => exact e2 | 3, _ => exact e3, A1, c1, rfl, r1⟩)
    refine ⟨Z, hZ, fun _ => ⟨b, o, ha, hb, fun i hi j hj => (hq i hi).1 j hj⟩, fun z hz => ?_⟩
    obtain ⟨i, hi, rfl⟩ := List.mem_iff_getElem.1 hz
    exact (hq i hi).2
theorem factsR_of {ok : Nat → Prop} {w : World} {base : Nat} {v : Value} {Z : List (RawE (Int × Con) 4)} (h : w.ownsRow base 87 4 v Z.length (Z.flatMap fun z => z.2.1)) (hz : ∀ z ∈ Z, FactZ ok w z) (hok : ∀ k, k < w.heap.size → ok k) : ∃ A c, v = .slice A (Z.map (·.1)).length c ∧ (Z.map (·.1)).length ≤ c ∧ FactsR ok w (Z.map (·.1)) A := by
  obtain ⟨A, c, e, hc, hr⟩ := rowCells h
  refine ⟨A, c, by rw [List.length_map]; exact e, by rw [List.length_map]; exact hc, fun hl => ?_⟩
  obtain ⟨b, ha, hb, hcells⟩ := hr (fun h => hl (by rw [h]; rfl))
  refine ⟨b, 0, ha, hok b hb, fun i hi => ?_⟩
  have hi : i < Z.length := by simpa using hi
  have hc := hcells i hi
  simp only [List.getElem_map]
  obtain ⟨A1, c1, e, r1⟩ := hz _ (List.getElem_mem hi)
  rw [e] at hc
  exact ⟨A1, c1, by simpa using hc 0 (by omega), by simpa using hc 1 (by omega), by simpa using hc 2 (by omega), by simpa using hc 3 (by omega), r1⟩
theorem linksZ {ok : Nat → Prop} {w : World} {l : List (Int × Int × Int)} {A : Option Addr} (h : LinksR ok w l A) : ∃ Z : List (RawE (Int × Int × Int) 3), Z.map (·.1) = l ∧ (Z ≠ [] → ∃ b o, A = some ⟨b, o, none⟩ ∧ ok b ∧ ∀ i (h : i < Z.length) j, j < 3 → w.cell? ⟨b, o + i * 3 + j, none⟩ = (Z[i].2.1)[j]?) ∧ ∀ z ∈ Z, LinkZ ok w z := by
  by_cases hl : l = []
  · subst hl; exact ⟨[], rfl, fun h => absurd rfl h, by simp⟩
  · obtain ⟨b, o, ha, hb, hc⟩ := h hl
    obtain ⟨Z, hZ, hq⟩ := listZ (l := l) (β := { vs : List Value // vs.length = 3 }) (Q := fun i x (vs : { vs : List Value // vs.length = 3 }) => (∀ j, j < 3 → w.cell? ⟨b, o + i * 3 + j, none⟩ = vs.1[j]?) ∧ LinkZ ok w (x, vs)) (fun i hi => by
      obtain ⟨e0, e1, e2⟩ := hc i hi
      exact ⟨⟨[.int .i64 l[i].1, .int .i64 l[i].2.1, .int .i64 l[i].2.2], rfl⟩, fun j hj => (by match j, hj with | 0, _ => exact e0 | 1, _ => exact e1 | 2, _ => exact e2), by unfold LinkZ; rfl⟩)
    refine ⟨Z, hZ, fun _ => ⟨b, o, ha, hb, fun i hi j hj => (hq i hi).1 j hj⟩, fun z hz => ?_⟩
    obtain ⟨i, hi, rfl⟩ := List.mem_iff_getElem.1 hz
    exact (hq i hi).2
theorem linksR_of {ok : Nat → Prop} {w : World} {base : Nat} {v : Value} {Z : List (RawE (Int × Int × Int) 3)} (h : w.ownsRow base 89 3 v Z.length (Z.flatMap fun z => z.2.1)) (hz : ∀ z ∈ Z, LinkZ ok w z) (hok : ∀ k, k < w.heap.size → ok k) : ∃ A c, v = .slice A (Z.map (·.1)).length c ∧ (Z.map (·.1)).length ≤ c ∧ LinksR ok w (Z.map (·.1)) A := by
  obtain ⟨A, c, e, hc, hr⟩ := rowCells h
  refine ⟨A, c, by rw [List.length_map]; exact e, by rw [List.length_map]; exact hc, fun hl => ?_⟩
  obtain ⟨b, ha, hb, hcells⟩ := hr (fun h => hl (by rw [h]; rfl))
  refine ⟨b, 0, ha, hok b hb, fun i hi => ?_⟩
  have hi : i < Z.length := by simpa using hi
  have hc := hcells i hi
  simp only [List.getElem_map]
  have e := hz _ (List.getElem_mem hi)
  unfold LinkZ at e
  rw [e] at hc
  exact ⟨by simpa using hc 0 (by omega), by simpa using hc 1 (by omega), by simpa using hc 2 (by omega)⟩
/-- The box of Only, its rows as they grow. -/
structure OnSt (W0 : World) (g : Nat) (n0 n1 n2 : Value) (P3 : List (RawE (Con × Con) 6)) (P4 : List (RawE (Int × Int) 2)) (P5 : List (RawE (Int × Con) 4)) (P6 : List (RawE (Int × Int × Int) 3)) (v3 v4 v5 v6 : Value) (w : World) : Prop where
  bx : w.heap[g]? = some (.cells #[n0, n1, n2, v3, v4, v5, v6] 30 (0, 0))
  o3 : w.ownsRow W0.heap.size 92 6 v3 P3.length (P3.flatMap fun z => z.2.1)
  o4 : w.ownsRow W0.heap.size 84 2 v4 P4.length (P4.flatMap fun z => z.2.1)
  o5 : w.ownsRow W0.heap.size 87 4 v5 P5.length (P5.flatMap fun z => z.2.1)
  o6 : w.ownsRow W0.heap.size 89 3 v6 P6.length (P6.flatMap fun z => z.2.1)
  kp : Keeps (fun i => i = g) W0 w
theorem OnSt.still {W0 : World} {g : Nat} {n0 n1 n2 v3 v4 v5 v6 : Value} {P3 : List (RawE (Con × Con) 6)} {P4 : List (RawE (Int × Int) 2)} {P5 : List (RawE (Int × Con) 4)} {P6 : List (RawE (Int × Int × Int) 3)} {w w' : World} (h : OnSt W0 g n0 n1 n2 P3 P4 P5 P6 v3 v4 v5 v6 w) (hk : Keeps (fun _ => False) w w') : OnSt W0 g n0 n1 n2 P3 P4 P5 P6 v3 v4 v5 v6 w' :=
  ⟨hk.blk h.bx (fun h => h), ownsKeep h.o3 hk (fun _ _ h => h), ownsKeep h.o4 hk (fun _ _ h => h), ownsKeep h.o5 hk (fun _ _ h => h), ownsKeep h.o6 hk (fun _ _ h => h), h.kp.then_ hk.of0⟩
theorem OnSt.put3 {W0 : World} {g : Nat} {n0 n1 n2 v3 v4 v5 v6 v' : Value} {P3 : List (RawE (Con × Con) 6)} {P4 : List (RawE (Int × Int) 2)} {P5 : List (RawE (Int × Con) 4)} {P6 : List (RawE (Int × Int × Int) 3)} {w Wa Wb : World} {z : RawE (Con × Con) 6} (h : OnSt W0 g n0 n1 n2 P3 P4 P5 P6 v3 v4 v5 v6 w) (hka : Keeps (fun _ => False) w Wa)
    (ho : Wb.ownsRow W0.heap.size 92 6 v' (P3.length + 1) ((P3.flatMap fun z => z.2.1) ++ z.2.1)) (hk : Keeps (fun k => v3.ownBlock = some k) Wa Wb) : OnSt W0 g n0 n1 n2 (P3 ++ [z]) P4 P5 P6 v' v4 v5 v6 (Wb.setCell ⟨g, 3, none⟩ v') := by
  have h1 := h.still hka
  have hgn : v3.ownBlock ≠ some g := fun e => by obtain ⟨_, _, t1⟩ := ownTy h1.o3 e; exact absurd (tyNe t1 h1.bx) (by decide)
  have hb := hk.blk h1.bx hgn
  have hs : Keeps (fun i => i = g) Wb (Wb.setCell ⟨g, 3, none⟩ v') := (Keeps.refl (fun i => i = g) Wb).set (g := g) (Or.inl (by rfl)) _
  have ho' : (Wb.setCell ⟨g, 3, none⟩ v').ownsRow W0.heap.size 92 6 v' (P3 ++ [z]).length ((P3 ++ [z]).flatMap fun z => z.2.1) := by
    have h2 := ownsKeep ho hs (fun b e1 e2 => by obtain ⟨_, _, t1⟩ := ownTy ho e1; subst e2; exact absurd (tyNe t1 hb) (by decide))
    simpa using h2
  exact ⟨by simpa using blkSet hb 3 v', ho', ownsKeep (ownsKeep h1.o4 hk (fun b e1 e2 => by obtain ⟨_, _, t1⟩ := ownTy h1.o4 e1; obtain ⟨_, _, t2⟩ := ownTy h1.o3 e2; exact absurd (tyNe t1 t2) (by decide))) hs (fun b e1 e2 => by obtain ⟨_, _, t1⟩ := ownTy h1.o4 e1; subst e2; exact absurd (tyNe t1 h1.bx) (by decide)), ownsKeep (ownsKeep h1.o5 hk (fun b e1 e2 => by obtain ⟨_, _, t1⟩ := ownTy h1.o5 e1; obtain ⟨_, _, t2⟩ := ownTy h1.o3 e2; exact absurd (tyNe t1 t2) (by decide))) hs (fun b e1 e2 => by obtain ⟨_, _, t1⟩ := ownTy h1.o5 e1; subst e2; exact absurd (tyNe t1 h1.bx) (by decide)), ownsKeep (ownsKeep h1.o6 hk (fun b e1 e2 => by obtain ⟨_, _, t1⟩ := ownTy h1.o6 e1; obtain ⟨_, _, t2⟩ := ownTy h1.o3 e2; exact absurd (tyNe t1 t2) (by decide))) hs (fun b e1 e2 => by obtain ⟨_, _, t1⟩ := ownTy h1.o6 e1; subst e2; exact absurd (tyNe t1 h1.bx) (by decide)), (h1.kp.trans hk (fun i hi => .inr (h1.o3.lt i hi).1)).trans hs (fun i hi => .inl hi)⟩
theorem OnSt.put4 {W0 : World} {g : Nat} {n0 n1 n2 v3 v4 v5 v6 v' : Value} {P3 : List (RawE (Con × Con) 6)} {P4 : List (RawE (Int × Int) 2)} {P5 : List (RawE (Int × Con) 4)} {P6 : List (RawE (Int × Int × Int) 3)} {w Wa Wb : World} {z : RawE (Int × Int) 2} (h : OnSt W0 g n0 n1 n2 P3 P4 P5 P6 v3 v4 v5 v6 w) (hka : Keeps (fun _ => False) w Wa)
    (ho : Wb.ownsRow W0.heap.size 84 2 v' (P4.length + 1) ((P4.flatMap fun z => z.2.1) ++ z.2.1)) (hk : Keeps (fun k => v4.ownBlock = some k) Wa Wb) : OnSt W0 g n0 n1 n2 P3 (P4 ++ [z]) P5 P6 v3 v' v5 v6 (Wb.setCell ⟨g, 4, none⟩ v') := by
  have h1 := h.still hka
  have hgn : v4.ownBlock ≠ some g := fun e => by obtain ⟨_, _, t1⟩ := ownTy h1.o4 e; exact absurd (tyNe t1 h1.bx) (by decide)
  have hb := hk.blk h1.bx hgn
  have hs : Keeps (fun i => i = g) Wb (Wb.setCell ⟨g, 4, none⟩ v') := (Keeps.refl (fun i => i = g) Wb).set (g := g) (Or.inl (by rfl)) _
  have ho' : (Wb.setCell ⟨g, 4, none⟩ v').ownsRow W0.heap.size 84 2 v' (P4 ++ [z]).length ((P4 ++ [z]).flatMap fun z => z.2.1) := by
    have h2 := ownsKeep ho hs (fun b e1 e2 => by obtain ⟨_, _, t1⟩ := ownTy ho e1; subst e2; exact absurd (tyNe t1 hb) (by decide))
    simpa using h2
  exact ⟨by simpa using blkSet hb 4 v', ownsKeep (ownsKeep h1.o3 hk (fun b e1 e2 => by obtain ⟨_, _, t1⟩ := ownTy h1.o3 e1; obtain ⟨_, _, t2⟩ := ownTy h1.o4 e2; exact absurd (tyNe t1 t2) (by decide))) hs (fun b e1 e2 => by obtain ⟨_, _, t1⟩ := ownTy h1.o3 e1; subst e2; exact absurd (tyNe t1 h1.bx) (by decide)), ho', ownsKeep (ownsKeep h1.o5 hk (fun b e1 e2 => by obtain ⟨_, _, t1⟩ := ownTy h1.o5 e1; obtain ⟨_, _, t2⟩ := ownTy h1.o4 e2; exact absurd (tyNe t1 t2) (by decide))) hs (fun b e1 e2 => by obtain ⟨_, _, t1⟩ := ownTy h1.o5 e1; subst e2; exact absurd (tyNe t1 h1.bx) (by decide)), ownsKeep (ownsKeep h1.o6 hk (fun b e1 e2 => by obtain ⟨_, _, t1⟩ := ownTy h1.o6 e1; obtain ⟨_, _, t2⟩ := ownTy h1.o4 e2; exact absurd (tyNe t1 t2) (by decide))) hs (fun b e1 e2 => by obtain ⟨_, _, t1⟩ := ownTy h1.o6 e1; subst e2; exact absurd (tyNe t1 h1.bx) (by decide)), (h1.kp.trans hk (fun i hi => .inr (h1.o4.lt i hi).1)).trans hs (fun i hi => .inl hi)⟩
theorem OnSt.put5 {W0 : World} {g : Nat} {n0 n1 n2 v3 v4 v5 v6 v' : Value} {P3 : List (RawE (Con × Con) 6)} {P4 : List (RawE (Int × Int) 2)} {P5 : List (RawE (Int × Con) 4)} {P6 : List (RawE (Int × Int × Int) 3)} {w Wa Wb : World} {z : RawE (Int × Con) 4} (h : OnSt W0 g n0 n1 n2 P3 P4 P5 P6 v3 v4 v5 v6 w) (hka : Keeps (fun _ => False) w Wa)
    (ho : Wb.ownsRow W0.heap.size 87 4 v' (P5.length + 1) ((P5.flatMap fun z => z.2.1) ++ z.2.1)) (hk : Keeps (fun k => v5.ownBlock = some k) Wa Wb) : OnSt W0 g n0 n1 n2 P3 P4 (P5 ++ [z]) P6 v3 v4 v' v6 (Wb.setCell ⟨g, 5, none⟩ v') := by
  have h1 := h.still hka
  have hgn : v5.ownBlock ≠ some g := fun e => by obtain ⟨_, _, t1⟩ := ownTy h1.o5 e; exact absurd (tyNe t1 h1.bx) (by decide)
  have hb := hk.blk h1.bx hgn
  have hs : Keeps (fun i => i = g) Wb (Wb.setCell ⟨g, 5, none⟩ v') := (Keeps.refl (fun i => i = g) Wb).set (g := g) (Or.inl (by rfl)) _
  have ho' : (Wb.setCell ⟨g, 5, none⟩ v').ownsRow W0.heap.size 87 4 v' (P5 ++ [z]).length ((P5 ++ [z]).flatMap fun z => z.2.1) := by
    have h2 := ownsKeep ho hs (fun b e1 e2 => by obtain ⟨_, _, t1⟩ := ownTy ho e1; subst e2; exact absurd (tyNe t1 hb) (by decide))
    simpa using h2
  exact ⟨by simpa using blkSet hb 5 v', ownsKeep (ownsKeep h1.o3 hk (fun b e1 e2 => by obtain ⟨_, _, t1⟩ := ownTy h1.o3 e1; obtain ⟨_, _, t2⟩ := ownTy h1.o5 e2; exact absurd (tyNe t1 t2) (by decide))) hs (fun b e1 e2 => by obtain ⟨_, _, t1⟩ := ownTy h1.o3 e1; subst e2; exact absurd (tyNe t1 h1.bx) (by decide)), ownsKeep (ownsKeep h1.o4 hk (fun b e1 e2 => by obtain ⟨_, _, t1⟩ := ownTy h1.o4 e1; obtain ⟨_, _, t2⟩ := ownTy h1.o5 e2; exact absurd (tyNe t1 t2) (by decide))) hs (fun b e1 e2 => by obtain ⟨_, _, t1⟩ := ownTy h1.o4 e1; subst e2; exact absurd (tyNe t1 h1.bx) (by decide)), ho', ownsKeep (ownsKeep h1.o6 hk (fun b e1 e2 => by obtain ⟨_, _, t1⟩ := ownTy h1.o6 e1; obtain ⟨_, _, t2⟩ := ownTy h1.o5 e2; exact absurd (tyNe t1 t2) (by decide))) hs (fun b e1 e2 => by obtain ⟨_, _, t1⟩ := ownTy h1.o6 e1; subst e2; exact absurd (tyNe t1 h1.bx) (by decide)), (h1.kp.trans hk (fun i hi => .inr (h1.o5.lt i hi).1)).trans hs (fun i hi => .inl hi)⟩
theorem OnSt.put6 {W0 : World} {g : Nat} {n0 n1 n2 v3 v4 v5 v6 v' : Value} {P3 : List (RawE (Con × Con) 6)} {P4 : List (RawE (Int × Int) 2)} {P5 : List (RawE (Int × Con) 4)} {P6 : List (RawE (Int × Int × Int) 3)} {w Wa Wb : World} {z : RawE (Int × Int × Int) 3} (h : OnSt W0 g n0 n1 n2 P3 P4 P5 P6 v3 v4 v5 v6 w) (hka : Keeps (fun _ => False) w Wa)
    (ho : Wb.ownsRow W0.heap.size 89 3 v' (P6.length + 1) ((P6.flatMap fun z => z.2.1) ++ z.2.1)) (hk : Keeps (fun k => v6.ownBlock = some k) Wa Wb) : OnSt W0 g n0 n1 n2 P3 P4 P5 (P6 ++ [z]) v3 v4 v5 v' (Wb.setCell ⟨g, 6, none⟩ v') := by
  have h1 := h.still hka
  have hgn : v6.ownBlock ≠ some g := fun e => by obtain ⟨_, _, t1⟩ := ownTy h1.o6 e; exact absurd (tyNe t1 h1.bx) (by decide)
  have hb := hk.blk h1.bx hgn
  have hs : Keeps (fun i => i = g) Wb (Wb.setCell ⟨g, 6, none⟩ v') := (Keeps.refl (fun i => i = g) Wb).set (g := g) (Or.inl (by rfl)) _
  have ho' : (Wb.setCell ⟨g, 6, none⟩ v').ownsRow W0.heap.size 89 3 v' (P6 ++ [z]).length ((P6 ++ [z]).flatMap fun z => z.2.1) := by
    have h2 := ownsKeep ho hs (fun b e1 e2 => by obtain ⟨_, _, t1⟩ := ownTy ho e1; subst e2; exact absurd (tyNe t1 hb) (by decide))
    simpa using h2
  exact ⟨by simpa using blkSet hb 6 v', ownsKeep (ownsKeep h1.o3 hk (fun b e1 e2 => by obtain ⟨_, _, t1⟩ := ownTy h1.o3 e1; obtain ⟨_, _, t2⟩ := ownTy h1.o6 e2; exact absurd (tyNe t1 t2) (by decide))) hs (fun b e1 e2 => by obtain ⟨_, _, t1⟩ := ownTy h1.o3 e1; subst e2; exact absurd (tyNe t1 h1.bx) (by decide)), ownsKeep (ownsKeep h1.o4 hk (fun b e1 e2 => by obtain ⟨_, _, t1⟩ := ownTy h1.o4 e1; obtain ⟨_, _, t2⟩ := ownTy h1.o6 e2; exact absurd (tyNe t1 t2) (by decide))) hs (fun b e1 e2 => by obtain ⟨_, _, t1⟩ := ownTy h1.o4 e1; subst e2; exact absurd (tyNe t1 h1.bx) (by decide)), ownsKeep (ownsKeep h1.o5 hk (fun b e1 e2 => by obtain ⟨_, _, t1⟩ := ownTy h1.o5 e1; obtain ⟨_, _, t2⟩ := ownTy h1.o6 e2; exact absurd (tyNe t1 t2) (by decide))) hs (fun b e1 e2 => by obtain ⟨_, _, t1⟩ := ownTy h1.o5 e1; subst e2; exact absurd (tyNe t1 h1.bx) (by decide)), ho', (h1.kp.trans hk (fun i hi => .inr (h1.o6.lt i hi).1)).trans hs (fun i hi => .inl hi)⟩
end Go.Proofs.YthiclhbnggehoaaGreatDoor
/- isagogeref02.Only: the walk. -/
namespace Go.Proofs.YthiclhbnggehoaaGreatDoor
open Go.RowKit
set_option linter.unusedVariables false
set_option linter.unusedSimpArgs false
theorem upK {S : Nat → Prop} {a b c : World} (_ : Keeps S b c) (h : Keeps (fun _ => False) a b) : Keeps (fun _ => False) a b := h
/-- A knowledge base is returned, all of it below the end of memory. -/
def RetOnly (q : Kb) (w : World) (e : Ending) (w' : World) : Prop := ∃ p' : KbA, e = .returned (.agg #[.slice p'.a0 q.cs.length p'.c0, .slice p'.a1 q.rs.length p'.c1, .slice p'.a2 q.is.length p'.c2, .slice p'.a3 q.incls.length p'.c3, .slice p'.a4 q.roles.length p'.c4, .slice p'.a5 q.facts.length p'.c5, .slice p'.a6 q.links.length p'.c6]) ∧ KbR (fun k => k < w'.heap.size) w' q p' ∧ Keeps (fun _ => False) w w'
set_option maxRecDepth 100000 in
set_option maxHeartbeats 40000000 in
theorem only_calls (b : Kb) (p : KbA) (ax : List Int) (AX : Option Addr) (cx : Nat) (ok : Nat → Prop) (w : World) (hb : KbR ok w b p) (hok : ∀ k, ok k → k < w.heap.size) (hax : Row1 ok w (Value.int .i64) ax AX) (hxl : ax.length ≤ 1000000)
    (hl1 : b.incls.length ≤ 1000000) (hl2 : b.roles.length ≤ 1000000) (hl3 : b.facts.length ≤ 1000000) (hl4 : b.links.length ≤ 1000000) :
    Calls Tryz.prog 14 #[.agg #[.slice p.a0 b.cs.length p.c0, .slice p.a1 b.rs.length p.c1, .slice p.a2 b.is.length p.c2, .slice p.a3 b.incls.length p.c3, .slice p.a4 b.roles.length p.c4, .slice p.a5 b.facts.length p.c5, .slice p.a6 b.links.length p.c6], .slice AX ax.length cx] w (RetOnly (onlyK b ax) w) := by
  have HAX : Hid (∀ W (S : Nat → Prop), (∀ k, S k → w.heap.size ≤ k) → Keeps S w W → Row1 (fun _ => True) W (Value.int .i64) ax AX) := fun W S hS h => (hax.keep h (fun k hk e => by have := hok k hk; have := hS k e; omega)).mono (fun _ _ => trivial)
  obtain ⟨Z3, hz3, hp3, hq3⟩ := inclsZ hb.incls
  obtain ⟨Z4, hz4, hp4, hq4⟩ := rolesZ hb.roles
  obtain ⟨Z5, hz5, hp5, hq5⟩ := factsZ hb.facts
  obtain ⟨Z6, hz6, hp6, hq6⟩ := linksZ hb.links
  have hlz3 : Z3.length = b.incls.length := by rw [← hz3, List.length_map]
  have hlz4 : Z4.length = b.roles.length := by rw [← hz4, List.length_map]
  have hlz5 : Z5.length = b.facts.length := by rw [← hz5, List.length_map]
  have hlz6 : Z6.length = b.links.length := by rw [← hz6, List.length_map]
  have HE3 := Lib.hid hz3
  have HE4 := Lib.hid hz4
  have HE5 := Lib.hid hz5
  have HE6 := Lib.hid hz6
  have HZ3 := Lib.hid hp3
  have HZ4 := Lib.hid hp4
  have HZ5 := Lib.hid hp5
  have HZ6 := Lib.hid hp6
  have HQ3 := Lib.hid hq3
  have HQ4 := Lib.hid hq4
  have HQ5 := Lib.hid hq5
  have HQ6 := Lib.hid hq6
  have HB := Lib.hid hb
  have HOK := Lib.hid hok
  clear hz3 hz4 hz5 hz6 hp3 hp4 hp5 hp6 hq3 hq4 hq5 hq6 hb hok hax
  obtain ⟨a0, a1, a2, a3, a4, a5, a6, c0, c1, c2, c3, c4, c5, c6⟩ := p
  simp only at HZ3 HZ4 HZ5 HZ6 ⊢
  rw [← hlz3, ← hlz4, ← hlz5, ← hlz6]
  have m3 : Z3.length ≤ 1000000 := by omega
  have m4 : Z4.length ≤ 1000000 := by omega
  have m5 : Z5.length ≤ 1000000 := by omega
  have m6 : Z6.length ≤ 1000000 := by omega
  clear hlz3 hlz4 hlz5 hlz6
  go_enter Tryz.func14, Tryz.ntmps14
  go_wp2_with fail
  generalize hW0 : World.alloc _ _ = W0
  have hk0 : Keeps (fun _ => False) w W0 := by rw [← hW0]; repeat (first | exact Keeps.refl _ _ | refine Keeps.drewN ?_ _ | refine Keeps.drew ?_ | refine Keeps.alloc ?_ _ | refine Keeps.set ?_ (Or.inl (by rfl)) _)
  have hb0 : W0.heap[w.heap.size]? = some (.cells #[.slice a0 b.cs.length c0, .slice a1 b.rs.length c1, .slice a2 b.is.length c2, .slice a3 Z3.length c3, .slice a4 Z4.length c4, .slice a5 Z5.length c5, .slice a6 Z6.length c6] 30 (0, 0)) := by rw [← hW0]; exact blkAlloc (blkAlloc (blkNew rfl) _) _
  have hb1 : W0.heap[w.heap.size + 1]? = some (.cells #[.slice none 0 0, .slice none 0 0, .slice none 0 0, .slice none 0 0, .slice none 0 0, .slice none 0 0, .slice none 0 0] 30 (0, 0)) := by rw [← hW0]; exact blkAlloc (blkNew (by simp)) _
  have hb2 : W0.heap[w.heap.size + 1 + 1]? = some (.cells #[.slice a0 b.cs.length c0, .slice a1 b.rs.length c1, .slice a2 b.is.length c2, .slice none 0 0, .slice none 0 0, .slice none 0 0, .slice none 0 0] 30 (0, 0)) := by rw [← hW0]; exact blkNew (by simp)
  have hz0 : W0.heap.size = w.heap.size + 3 := by rw [← hW0]; simp
  clear hW0
  have HK0 := Lib.hid hk0
  have HB0 := Lib.hid hb0
  have HB1 := Lib.hid hb1
  obtain ⟨g, hgg⟩ : ∃ g, g = w.heap.size + 1 + 1 := ⟨_, rfl⟩
  rw [← hgg] at hb2 ⊢
  have hgl : g < W0.heap.size := blkLt hb2
  have hge : w.heap.size + 2 ≤ g := by omega
  have HST : Hid (OnSt W0 g (.slice a0 b.cs.length c0) (.slice a1 b.rs.length c1) (.slice a2 b.is.length c2) [] [] [] [] (.slice none 0 0) (.slice none 0 0) (.slice none 0 0) (.slice none 0 0) W0) := Lib.hid ⟨hb2, World.ownsRow_nil _ _ _ _, World.ownsRow_nil _ _ _ _, World.ownsRow_nil _ _ _ _, World.ownsRow_nil _ _ _ _, Keeps.refl _ _⟩
  clear hk0 hb0 hb1 hb2 hgg
  go_loopw [6, 21] (fun a i wr => ∃ (k : Nat) (v3 v4 v5 v6 : Value), k ≤ Z3.length ∧ i = .int .i64 k ∧ a = .int .i64 ((0 + k : Nat) : Int) ∧ Hid (OnSt W0 g (.slice a0 b.cs.length c0) (.slice a1 b.rs.length c1) (.slice a2 b.is.length c2) (pickF ax 0 (Z3.take k)) [] [] [] v3 v4 v5 v6 wr)) (fun _ i _ => Z3.length - (intOf i).toNat)
  case atStart => exact ⟨0, _, _, _, _, Nat.zero_le _, rfl, by simp, HST⟩
  case round =>
    obtain ⟨k, v3, v4, v5, v6, hk, rfl, rfl, HS⟩ := hrel
    have hkr := HS.out.kp
    have hzr := hkr.size
    by_cases hlt : k < Z3.length
    · obtain ⟨bx, ox, hxe, hbx, hcx⟩ := HZ3.out (by intro h; rw [h] at hlt; simp at hlt)
      have hzz := HQ3.out _ (List.getElem_mem hlt)
      have hcc := hcx k hlt
      have HPK : Hid (pickF ax 0 (Z3.take (k + 1)) = pickF ax 0 (Z3.take k) ++ (if ((0 + k : Nat) : Int) ∈ ax then [Z3[k]] else [])) := by unfold Hid; rw [List.take_succ_eq_append_getElem hlt, pickF_snoc, List.length_take, Nat.min_eq_left (Nat.le_of_lt hlt)]
      have hpl : (pickF ax 0 (Z3.take k)).length ≤ 1000000 := by have h := pickF_len ax (Z3.take k) 0; rw [List.length_take] at h; omega
      generalize pickF ax 0 (Z3.take k) = PK at *
      generalize hzk : Z3[k] = z at *
      clear hzk
      obtain ⟨x, vs⟩ := z
      obtain ⟨B1, d1, B2, d2, hz, -, -⟩ := hzz
      simp only at hz
      have e0 : wr.cell? ⟨bx, ox + k * 6, none⟩ = some (.int .i64 x.1.op) := hkr.cell (HK0.out.cell (by have h := hcc 0 (by omega); rw [hz] at h; simpa using h) (fun h => h)) (by have := HOK.out _ hbx; omega)
      have e1 : wr.cell? ⟨bx, ox + k * 6 + 1, none⟩ = some (.int .i64 x.1.n) := hkr.cell (HK0.out.cell (by have h := hcc 1 (by omega); rw [hz] at h; simpa using h) (fun h => h)) (by have := HOK.out _ hbx; omega)
      have e2 : wr.cell? ⟨bx, ox + k * 6 + 2, none⟩ = some (.slice B1 x.1.args.length d1) := hkr.cell (HK0.out.cell (by have h := hcc 2 (by omega); rw [hz] at h; simpa using h) (fun h => h)) (by have := HOK.out _ hbx; omega)
      have e3 : wr.cell? ⟨bx, ox + k * 6 + 3, none⟩ = some (.int .i64 x.2.op) := hkr.cell (HK0.out.cell (by have h := hcc 3 (by omega); rw [hz] at h; simpa using h) (fun h => h)) (by have := HOK.out _ hbx; omega)
      have e4 : wr.cell? ⟨bx, ox + k * 6 + 4, none⟩ = some (.int .i64 x.2.n) := hkr.cell (HK0.out.cell (by have h := hcc 4 (by omega); rw [hz] at h; simpa using h) (fun h => h)) (by have := HOK.out _ hbx; omega)
      have e5 : wr.cell? ⟨bx, ox + k * 6 + 5, none⟩ = some (.slice B2 x.2.args.length d2) := hkr.cell (HK0.out.cell (by have h := hcc 5 (by omega); rw [hz] at h; simpa using h) (fun h => h)) (by have := HOK.out _ hbx; omega)
      have HVS := Lib.hid hz
      have i1 : (k : Int) < Z3.length := by omega
      obtain ⟨p3, p4, p5, p6⟩ : ∃ A c, v3 = .slice A PK.length c ∧ PK.length ≤ c := by obtain ⟨A, c, e, h, -⟩ := rowCells HS.out.o3; exact ⟨A, c, e, h⟩
      have hve := p5
      obtain ⟨q0, q1, q2, q3, q4, q5, q6⟩ := cells7 HS.out.bx
      have ug := blkLt HS.out.bx
      have hbl : bx < wr.heap.size := World.block_lt_of_cell? _ _ e0
      have HHS := Lib.hid (fun W (h : Keeps (fun _ => False) wr W) => has_same ax ((0 + k : Nat) : Int) (fun _ => True) AX cx W (HAX.out W (fun i => i = g) (by omega) ((HK0.out.of0.then_ hkr).then_ h.of0)) (by omega))
      (try clear hzz); clear hcx hcc hz hkr p5
      subst hxe
      have HVE := Lib.hid hve
      subst hve
      by_cases hin : ((0 + k : Nat) : Int) ∈ ax
      · have hdec : decide (((0 + k : Nat) : Int) ∈ ax) = true := by simpa using hin
        rw [if_pos hin] at HPK
        simp only [hdec] at HHS
        clear hdec hin
        generalize hNN : ((0 + k : Nat) : Int) = NN at *
        have HNN := Lib.hid hNN
        clear hNN
        have hNb : 0 ≤ NN ∧ NN ≤ 100000000 := by have := HNN.out; omega
        go_wp2_with fail
        generalize hW4 : World.alloc _ _ = W4
        have hk4 : Keeps (fun _ => False) wr W4 := by rw [← hW4]; repeat (first | exact Keeps.refl _ _ | refine Keeps.drewN ?_ _ | refine Keeps.drew ?_ | refine Keeps.alloc ?_ _ | refine Keeps.set ?_ (Or.inl (by rfl)) _)
        have hb4 : W4.heap[wr.heap.size]? = some (.cells #[.int .i64 x.1.op, .int .i64 x.1.n, .slice B1 x.1.args.length d1, .int .i64 x.2.op, .int .i64 x.2.n, .slice B2 x.2.args.length d2] 92 (0, 0)) := by rw [← hW4]; exact blkNew rfl
        clear hW4
        have HK4 := Lib.hid hk4
        have HB4 := Lib.hid hb4
        clear hk4 hb4
        refine (HHS.out W4 HK4.out).mono ?_
        rintro e wq ⟨rfl, hq⟩
        rw [hq]
        clear hq wq HHS
        have hbx4 := HK4.out.blk HS.out.bx (fun h => h)
        obtain ⟨r0, r1, r2, r3, r4, r5, r6⟩ := cells7 hbx4
        have ug4 := blkLt hbx4
        have HBX4 := Lib.hid hbx4
        have s0 : W4.cell? ⟨wr.heap.size, 0, none⟩ = some (.int .i64 x.1.op) := (blkCell HB4.out 0).trans rfl
        have s1 : W4.cell? ⟨wr.heap.size, 1, none⟩ = some (.int .i64 x.1.n) := (blkCell HB4.out 1).trans rfl
        have s2 : W4.cell? ⟨wr.heap.size, 2, none⟩ = some (.slice B1 x.1.args.length d1) := (blkCell HB4.out 2).trans rfl
        have s3 : W4.cell? ⟨wr.heap.size, 3, none⟩ = some (.int .i64 x.2.op) := (blkCell HB4.out 3).trans rfl
        have s4 : W4.cell? ⟨wr.heap.size, 4, none⟩ = some (.int .i64 x.2.n) := (blkCell HB4.out 4).trans rfl
        have s5 : W4.cell? ⟨wr.heap.size, 5, none⟩ = some (.slice B2 x.2.args.length d2) := (blkCell HB4.out 5).trans rfl
        have us4 := blkLt HB4.out
        clear hbx4
        go_wp2_with (at_builtin; refine wp_app1 rfl _ _ 25 25 rfl W0.heap.size 92 (.agg #[.int .i64 0, .int .i64 0, .slice none 0 0, .int .i64 0, .int .i64 0, .slice none 0 0]) 6 80 Tryz.underlying25 infoInclZ rfl (by decide) (by decide) (.slice p3 PK.length p4) PK.length _ (ownsKeep (S := fun _ => False) (ownsKeep HS.out.o3 HK4.out (fun _ _ h => h)) (by repeat (first | exact Keeps.refl _ _ | refine Keeps.drewN ?_ _ | refine Keeps.drew ?_ | refine Keeps.alloc ?_ _ | refine Keeps.set ?_ (Or.inl (by rfl)) _)) (fun _ _ h => h)) rfl _ 1 [.int .i64 x.1.op, .int .i64 x.1.n, .slice B1 x.1.args.length d1, .int .i64 x.2.op, .int .i64 x.2.n, .slice B2 x.2.args.length d2] (Src.ofBlock Tryz.underlying25 (cs := #[.int .i64 x.1.op, .int .i64 x.1.n, .slice B1 x.1.args.length d1, .int .i64 x.2.op, .int .i64 x.2.n, .slice B2 x.2.args.length d2]) (blkNew (by first | rfl | simp)) rfl (by simp [Value.oneCell'])) rfl (by decide) (by omega) (by have := HK4.out.size; simp; omega) ?_; intro g6 cc6 w6 ho6 hk6 hat6 hcap6 hlt6; have HKA := Lib.hid (upK hk6 (a := W4) (by repeat (first | exact Keeps.refl _ _ | refine Keeps.drewN ?_ _ | refine Keeps.drew ?_ | refine Keeps.alloc ?_ _ | refine Keeps.set ?_ (Or.inl (by rfl)) _))); have HO6 := Lib.hid ho6; have HK6 := Lib.hid hk6; have hb6 := hk6.blk (HKA.out.blk HBX4.out (fun h => h)) (fun e => by obtain ⟨_, _, t1⟩ := ownTy HS.out.o3 e; exact absurd (tyNe t1 HS.out.bx) (by decide)); have f6 := blkFree hb6 3; have ug6 := blkLt hb6; obtain ⟨t0, t1, t2, t3, t4, t5, t6⟩ := cells7 hb6; clear ho6 hk6 hat6 hb6)
        go_roundw
        case rel => exact ⟨k + 1, _, _, _, _, by omega, by go_num, by rw [← HNN.out]; go_num, by unfold Hid; rw [HPK.out]; exact HS.out.put3 (HK4.out.then_ HKA.out) (by have h := HO6.out; first | exact h | (simp only [HVS.out]; exact h) | (rw [HVS.out]; exact h)) HK6.out⟩
        case measure => simp [intOf]; omega
      · have hdec : decide (((0 + k : Nat) : Int) ∈ ax) = false := by simpa using hin
        rw [if_neg hin] at HPK
        simp only [hdec] at HHS
        clear hdec hin
        generalize hNN : ((0 + k : Nat) : Int) = NN at *
        have HNN := Lib.hid hNN
        clear hNN
        have hNb : 0 ≤ NN ∧ NN ≤ 100000000 := by have := HNN.out; omega
        go_wp2_with fail
        generalize hW4 : World.alloc _ _ = W4
        have hk4 : Keeps (fun _ => False) wr W4 := by rw [← hW4]; repeat (first | exact Keeps.refl _ _ | refine Keeps.drewN ?_ _ | refine Keeps.drew ?_ | refine Keeps.alloc ?_ _ | refine Keeps.set ?_ (Or.inl (by rfl)) _)
        have hb4 : W4.heap[wr.heap.size]? = some (.cells #[.int .i64 x.1.op, .int .i64 x.1.n, .slice B1 x.1.args.length d1, .int .i64 x.2.op, .int .i64 x.2.n, .slice B2 x.2.args.length d2] 92 (0, 0)) := by rw [← hW4]; exact blkNew rfl
        clear hW4
        have HK4 := Lib.hid hk4
        have HB4 := Lib.hid hb4
        clear hk4 hb4
        refine (HHS.out W4 HK4.out).mono ?_
        rintro e wq ⟨rfl, hq⟩
        rw [hq]
        clear hq wq HHS
        go_wp2_with fail
        go_roundw
        case rel => exact ⟨k + 1, _, _, _, _, by omega, by go_num, by rw [← HNN.out]; go_num, by unfold Hid; rw [HPK.out, List.append_nil]; exact HS.out.still HK4.out⟩
        case measure => simp [intOf]; omega
    · obtain rfl : k = Z3.length := by omega
      have HST : Hid (OnSt W0 g (.slice a0 b.cs.length c0) (.slice a1 b.rs.length c1) (.slice a2 b.is.length c2) (pickF ax 0 Z3) (pickF ax Z3.length (Z4.take 0)) [] [] v3 v4 v5 v6 wr) := by have h := HS.out; rw [List.take_length] at h; exact h
      clear HS
      obtain ⟨x0, x1, x2, x3, x4, x5, x6⟩ := cells7 (hkr.blk HB0.out (by omega))
      have ux := blkLt (hkr.blk HB0.out (by omega))
      clear hkr
      simp only [Nat.zero_add]
      go_wp2_with fail
      go_loopw [6, 40] (fun a i wr => ∃ (k : Nat) (v3 v4 v5 v6 : Value), k ≤ Z4.length ∧ i = .int .i64 k ∧ a = .int .i64 ((Z3.length + k : Nat) : Int) ∧ Hid (OnSt W0 g (.slice a0 b.cs.length c0) (.slice a1 b.rs.length c1) (.slice a2 b.is.length c2) (pickF ax 0 Z3) (pickF ax Z3.length (Z4.take k)) [] [] v3 v4 v5 v6 wr)) (fun _ i _ => Z4.length - (intOf i).toNat)
      case atStart => exact ⟨0, _, _, _, _, Nat.zero_le _, rfl, by simp, HST⟩
      case round =>
        obtain ⟨k, v3, v4, v5, v6, hk, rfl, rfl, HS⟩ := hrel
        have hkr := HS.out.kp
        have hzr := hkr.size
        by_cases hlt : k < Z4.length
        · obtain ⟨bx, ox, hxe, hbx, hcx⟩ := HZ4.out (by intro h; rw [h] at hlt; simp at hlt)
          have hzz := HQ4.out _ (List.getElem_mem hlt)
          have hcc := hcx k hlt
          have HPK : Hid (pickF ax Z3.length (Z4.take (k + 1)) = pickF ax Z3.length (Z4.take k) ++ (if ((Z3.length + k : Nat) : Int) ∈ ax then [Z4[k]] else [])) := by unfold Hid; rw [List.take_succ_eq_append_getElem hlt, pickF_snoc, List.length_take, Nat.min_eq_left (Nat.le_of_lt hlt)]
          have hpl : (pickF ax Z3.length (Z4.take k)).length ≤ 1000000 := by have h := pickF_len ax (Z4.take k) Z3.length; rw [List.length_take] at h; omega
          generalize pickF ax Z3.length (Z4.take k) = PK at *
          generalize hzk : Z4[k] = z at *
          clear hzk
          obtain ⟨x, vs⟩ := z
          have hz := hzz; unfold RoleZ at hz
          simp only at hz
          have e0 : wr.cell? ⟨bx, ox + k * 2, none⟩ = some (.int .i64 x.1) := hkr.cell (HK0.out.cell (by have h := hcc 0 (by omega); rw [hz] at h; simpa using h) (fun h => h)) (by have := HOK.out _ hbx; omega)
          have e1 : wr.cell? ⟨bx, ox + k * 2 + 1, none⟩ = some (.int .i64 x.2) := hkr.cell (HK0.out.cell (by have h := hcc 1 (by omega); rw [hz] at h; simpa using h) (fun h => h)) (by have := HOK.out _ hbx; omega)
          have HVS := Lib.hid hz
          have i1 : (k : Int) < Z4.length := by omega
          obtain ⟨p3, p4, p5, p6⟩ : ∃ A c, v4 = .slice A PK.length c ∧ PK.length ≤ c := by obtain ⟨A, c, e, h, -⟩ := rowCells HS.out.o4; exact ⟨A, c, e, h⟩
          have hve := p5
          obtain ⟨q0, q1, q2, q3, q4, q5, q6⟩ := cells7 HS.out.bx
          have ug := blkLt HS.out.bx
          have hbl : bx < wr.heap.size := World.block_lt_of_cell? _ _ e0
          have HHS := Lib.hid (fun W (h : Keeps (fun _ => False) wr W) => has_same ax ((Z3.length + k : Nat) : Int) (fun _ => True) AX cx W (HAX.out W (fun i => i = g) (by omega) ((HK0.out.of0.then_ hkr).then_ h.of0)) (by omega))
          (try clear hzz); clear hcx hcc hz hkr p5
          subst hxe
          have HVE := Lib.hid hve
          subst hve
          by_cases hin : ((Z3.length + k : Nat) : Int) ∈ ax
          · have hdec : decide (((Z3.length + k : Nat) : Int) ∈ ax) = true := by simpa using hin
            rw [if_pos hin] at HPK
            simp only [hdec] at HHS
            clear hdec hin
            generalize hNN : ((Z3.length + k : Nat) : Int) = NN at *
            have HNN := Lib.hid hNN
            clear hNN
            have hNb : 0 ≤ NN ∧ NN ≤ 100000000 := by have := HNN.out; omega
            go_wp2_with fail
            generalize hW4 : World.alloc _ _ = W4
            have hk4 : Keeps (fun _ => False) wr W4 := by rw [← hW4]; repeat (first | exact Keeps.refl _ _ | refine Keeps.drewN ?_ _ | refine Keeps.drew ?_ | refine Keeps.alloc ?_ _ | refine Keeps.set ?_ (Or.inl (by rfl)) _)
            have hb4 : W4.heap[wr.heap.size]? = some (.cells #[.int .i64 x.1, .int .i64 x.2] 84 (0, 0)) := by rw [← hW4]; exact blkNew rfl
            clear hW4
            have HK4 := Lib.hid hk4
            have HB4 := Lib.hid hb4
            clear hk4 hb4
            refine (HHS.out W4 HK4.out).mono ?_
            rintro e wq ⟨rfl, hq⟩
            rw [hq]
            clear hq wq HHS
            have hbx4 := HK4.out.blk HS.out.bx (fun h => h)
            obtain ⟨r0, r1, r2, r3, r4, r5, r6⟩ := cells7 hbx4
            have ug4 := blkLt hbx4
            have HBX4 := Lib.hid hbx4
            have s0 : W4.cell? ⟨wr.heap.size, 0, none⟩ = some (.int .i64 x.1) := (blkCell HB4.out 0).trans rfl
            have s1 : W4.cell? ⟨wr.heap.size, 1, none⟩ = some (.int .i64 x.2) := (blkCell HB4.out 1).trans rfl
            have us4 := blkLt HB4.out
            clear hbx4
            go_wp2_with (at_builtin; refine wp_app1 rfl _ _ 26 26 rfl W0.heap.size 84 (.agg #[.int .i64 0, .int .i64 0]) 2 16 Tryz.underlying26 infoRoleZ rfl (by decide) (by decide) (.slice p3 PK.length p4) PK.length _ (ownsKeep (S := fun _ => False) (ownsKeep HS.out.o4 HK4.out (fun _ _ h => h)) (by repeat (first | exact Keeps.refl _ _ | refine Keeps.drewN ?_ _ | refine Keeps.drew ?_ | refine Keeps.alloc ?_ _ | refine Keeps.set ?_ (Or.inl (by rfl)) _)) (fun _ _ h => h)) rfl _ 1 [.int .i64 x.1, .int .i64 x.2] (Src.ofBlock Tryz.underlying26 (cs := #[.int .i64 x.1, .int .i64 x.2]) (blkNew (by first | rfl | simp)) rfl (by simp [Value.oneCell'])) rfl (by decide) (by omega) (by have := HK4.out.size; simp; omega) ?_; intro g6 cc6 w6 ho6 hk6 hat6 hcap6 hlt6; have HKA := Lib.hid (upK hk6 (a := W4) (by repeat (first | exact Keeps.refl _ _ | refine Keeps.drewN ?_ _ | refine Keeps.drew ?_ | refine Keeps.alloc ?_ _ | refine Keeps.set ?_ (Or.inl (by rfl)) _))); have HO6 := Lib.hid ho6; have HK6 := Lib.hid hk6; have hb6 := hk6.blk (HKA.out.blk HBX4.out (fun h => h)) (fun e => by obtain ⟨_, _, t1⟩ := ownTy HS.out.o4 e; exact absurd (tyNe t1 HS.out.bx) (by decide)); have f6 := blkFree hb6 4; have ug6 := blkLt hb6; obtain ⟨t0, t1, t2, t3, t4, t5, t6⟩ := cells7 hb6; clear ho6 hk6 hat6 hb6)
            go_roundw
            case rel => exact ⟨k + 1, _, _, _, _, by omega, by go_num, by rw [← HNN.out]; go_num, by unfold Hid; rw [HPK.out]; exact HS.out.put4 (HK4.out.then_ HKA.out) (by have h := HO6.out; first | exact h | (simp only [HVS.out]; exact h) | (rw [HVS.out]; exact h)) HK6.out⟩
            case measure => simp [intOf]; omega
          · have hdec : decide (((Z3.length + k : Nat) : Int) ∈ ax) = false := by simpa using hin
            rw [if_neg hin] at HPK
            simp only [hdec] at HHS
            clear hdec hin
            generalize hNN : ((Z3.length + k : Nat) : Int) = NN at *
            have HNN := Lib.hid hNN
            clear hNN
            have hNb : 0 ≤ NN ∧ NN ≤ 100000000 := by have := HNN.out; omega
            go_wp2_with fail
            generalize hW4 : World.alloc _ _ = W4
            have hk4 : Keeps (fun _ => False) wr W4 := by rw [← hW4]; repeat (first | exact Keeps.refl _ _ | refine Keeps.drewN ?_ _ | refine Keeps.drew ?_ | refine Keeps.alloc ?_ _ | refine Keeps.set ?_ (Or.inl (by rfl)) _)
            have hb4 : W4.heap[wr.heap.size]? = some (.cells #[.int .i64 x.1, .int .i64 x.2] 84 (0, 0)) := by rw [← hW4]; exact blkNew rfl
            clear hW4
            have HK4 := Lib.hid hk4
            have HB4 := Lib.hid hb4
            clear hk4 hb4
            refine (HHS.out W4 HK4.out).mono ?_
            rintro e wq ⟨rfl, hq⟩
            rw [hq]
            clear hq wq HHS
            go_wp2_with fail
            go_roundw
            case rel => exact ⟨k + 1, _, _, _, _, by omega, by go_num, by rw [← HNN.out]; go_num, by unfold Hid; rw [HPK.out, List.append_nil]; exact HS.out.still HK4.out⟩
            case measure => simp [intOf]; omega
        · obtain rfl : k = Z4.length := by omega
          have HST : Hid (OnSt W0 g (.slice a0 b.cs.length c0) (.slice a1 b.rs.length c1) (.slice a2 b.is.length c2) (pickF ax 0 Z3) (pickF ax Z3.length Z4) (pickF ax (Z3.length + Z4.length) (Z5.take 0)) [] v3 v4 v5 v6 wr) := by have h := HS.out; rw [List.take_length] at h; exact h
          clear HS
          obtain ⟨x0, x1, x2, x3, x4, x5, x6⟩ := cells7 (hkr.blk HB0.out (by omega))
          have ux := blkLt (hkr.blk HB0.out (by omega))
          clear hkr
          skip
          go_wp2_with fail
          go_loopw [6, 59] (fun a i wr => ∃ (k : Nat) (v3 v4 v5 v6 : Value), k ≤ Z5.length ∧ i = .int .i64 k ∧ a = .int .i64 (((Z3.length + Z4.length) + k : Nat) : Int) ∧ Hid (OnSt W0 g (.slice a0 b.cs.length c0) (.slice a1 b.rs.length c1) (.slice a2 b.is.length c2) (pickF ax 0 Z3) (pickF ax Z3.length Z4) (pickF ax (Z3.length + Z4.length) (Z5.take k)) [] v3 v4 v5 v6 wr)) (fun _ i _ => Z5.length - (intOf i).toNat)
          case atStart => exact ⟨0, _, _, _, _, Nat.zero_le _, rfl, by simp, HST⟩
          case round =>
            obtain ⟨k, v3, v4, v5, v6, hk, rfl, rfl, HS⟩ := hrel
            have hkr := HS.out.kp
            have hzr := hkr.size
            by_cases hlt : k < Z5.length
            · obtain ⟨bx, ox, hxe, hbx, hcx⟩ := HZ5.out (by intro h; rw [h] at hlt; simp at hlt)
              have hzz := HQ5.out _ (List.getElem_mem hlt)
              have hcc := hcx k hlt
              have HPK : Hid (pickF ax (Z3.length + Z4.length) (Z5.take (k + 1)) = pickF ax (Z3.length + Z4.length) (Z5.take k) ++ (if (((Z3.length + Z4.length) + k : Nat) : Int) ∈ ax then [Z5[k]] else [])) := by unfold Hid; rw [List.take_succ_eq_append_getElem hlt, pickF_snoc, List.length_take, Nat.min_eq_left (Nat.le_of_lt hlt)]
              have hpl : (pickF ax (Z3.length + Z4.length) (Z5.take k)).length ≤ 1000000 := by have h := pickF_len ax (Z5.take k) (Z3.length + Z4.length); rw [List.length_take] at h; omega
              generalize pickF ax (Z3.length + Z4.length) (Z5.take k) = PK at *
              generalize hzk : Z5[k] = z at *
              clear hzk
              obtain ⟨x, vs⟩ := z
              obtain ⟨B1, d1, hz, -⟩ := hzz
              simp only at hz
              have e0 : wr.cell? ⟨bx, ox + k * 4, none⟩ = some (.int .i64 x.1) := hkr.cell (HK0.out.cell (by have h := hcc 0 (by omega); rw [hz] at h; simpa using h) (fun h => h)) (by have := HOK.out _ hbx; omega)
              have e1 : wr.cell? ⟨bx, ox + k * 4 + 1, none⟩ = some (.int .i64 x.2.op) := hkr.cell (HK0.out.cell (by have h := hcc 1 (by omega); rw [hz] at h; simpa using h) (fun h => h)) (by have := HOK.out _ hbx; omega)
              have e2 : wr.cell? ⟨bx, ox + k * 4 + 2, none⟩ = some (.int .i64 x.2.n) := hkr.cell (HK0.out.cell (by have h := hcc 2 (by omega); rw [hz] at h; simpa using h) (fun h => h)) (by have := HOK.out _ hbx; omega)
              have e3 : wr.cell? ⟨bx, ox + k * 4 + 3, none⟩ = some (.slice B1 x.2.args.length d1) := hkr.cell (HK0.out.cell (by have h := hcc 3 (by omega); rw [hz] at h; simpa using h) (fun h => h)) (by have := HOK.out _ hbx; omega)
              have HVS := Lib.hid hz
              have i1 : (k : Int) < Z5.length := by omega
              obtain ⟨p3, p4, p5, p6⟩ : ∃ A c, v5 = .slice A PK.length c ∧ PK.length ≤ c := by obtain ⟨A, c, e, h, -⟩ := rowCells HS.out.o5; exact ⟨A, c, e, h⟩
              have hve := p5
              obtain ⟨q0, q1, q2, q3, q4, q5, q6⟩ := cells7 HS.out.bx
              have ug := blkLt HS.out.bx
              have hbl : bx < wr.heap.size := World.block_lt_of_cell? _ _ e0
              have HHS := Lib.hid (fun W (h : Keeps (fun _ => False) wr W) => has_same ax (((Z3.length + Z4.length) + k : Nat) : Int) (fun _ => True) AX cx W (HAX.out W (fun i => i = g) (by omega) ((HK0.out.of0.then_ hkr).then_ h.of0)) (by omega))
              (try clear hzz); clear hcx hcc hz hkr p5
              subst hxe
              have HVE := Lib.hid hve
              subst hve
              by_cases hin : (((Z3.length + Z4.length) + k : Nat) : Int) ∈ ax
              · have hdec : decide ((((Z3.length + Z4.length) + k : Nat) : Int) ∈ ax) = true := by simpa using hin
                rw [if_pos hin] at HPK
                simp only [hdec] at HHS
                clear hdec hin
                generalize hNN : (((Z3.length + Z4.length) + k : Nat) : Int) = NN at *
                have HNN := Lib.hid hNN
                clear hNN
                have hNb : 0 ≤ NN ∧ NN ≤ 100000000 := by have := HNN.out; omega
                go_wp2_with fail
                generalize hW4 : World.alloc _ _ = W4
                have hk4 : Keeps (fun _ => False) wr W4 := by rw [← hW4]; repeat (first | exact Keeps.refl _ _ | refine Keeps.drewN ?_ _ | refine Keeps.drew ?_ | refine Keeps.alloc ?_ _ | refine Keeps.set ?_ (Or.inl (by rfl)) _)
                have hb4 : W4.heap[wr.heap.size]? = some (.cells #[.int .i64 x.1, .int .i64 x.2.op, .int .i64 x.2.n, .slice B1 x.2.args.length d1] 87 (0, 0)) := by rw [← hW4]; exact blkNew rfl
                clear hW4
                have HK4 := Lib.hid hk4
                have HB4 := Lib.hid hb4
                clear hk4 hb4
                refine (HHS.out W4 HK4.out).mono ?_
                rintro e wq ⟨rfl, hq⟩
                rw [hq]
                clear hq wq HHS
                have hbx4 := HK4.out.blk HS.out.bx (fun h => h)
                obtain ⟨r0, r1, r2, r3, r4, r5, r6⟩ := cells7 hbx4
                have ug4 := blkLt hbx4
                have HBX4 := Lib.hid hbx4
                have s0 : W4.cell? ⟨wr.heap.size, 0, none⟩ = some (.int .i64 x.1) := (blkCell HB4.out 0).trans rfl
                have s1 : W4.cell? ⟨wr.heap.size, 1, none⟩ = some (.int .i64 x.2.op) := (blkCell HB4.out 1).trans rfl
                have s2 : W4.cell? ⟨wr.heap.size, 2, none⟩ = some (.int .i64 x.2.n) := (blkCell HB4.out 2).trans rfl
                have s3 : W4.cell? ⟨wr.heap.size, 3, none⟩ = some (.slice B1 x.2.args.length d1) := (blkCell HB4.out 3).trans rfl
                have us4 := blkLt HB4.out
                clear hbx4
                go_wp2_with (at_builtin; refine wp_app1 rfl _ _ 27 27 rfl W0.heap.size 87 (.agg #[.int .i64 0, .int .i64 0, .int .i64 0, .slice none 0 0]) 4 48 Tryz.underlying27 infoFactZ rfl (by decide) (by decide) (.slice p3 PK.length p4) PK.length _ (ownsKeep (S := fun _ => False) (ownsKeep HS.out.o5 HK4.out (fun _ _ h => h)) (by repeat (first | exact Keeps.refl _ _ | refine Keeps.drewN ?_ _ | refine Keeps.drew ?_ | refine Keeps.alloc ?_ _ | refine Keeps.set ?_ (Or.inl (by rfl)) _)) (fun _ _ h => h)) rfl _ 1 [.int .i64 x.1, .int .i64 x.2.op, .int .i64 x.2.n, .slice B1 x.2.args.length d1] (Src.ofBlock Tryz.underlying27 (cs := #[.int .i64 x.1, .int .i64 x.2.op, .int .i64 x.2.n, .slice B1 x.2.args.length d1]) (blkNew (by first | rfl | simp)) rfl (by simp [Value.oneCell'])) rfl (by decide) (by omega) (by have := HK4.out.size; simp; omega) ?_; intro g6 cc6 w6 ho6 hk6 hat6 hcap6 hlt6; have HKA := Lib.hid (upK hk6 (a := W4) (by repeat (first | exact Keeps.refl _ _ | refine Keeps.drewN ?_ _ | refine Keeps.drew ?_ | refine Keeps.alloc ?_ _ | refine Keeps.set ?_ (Or.inl (by rfl)) _))); have HO6 := Lib.hid ho6; have HK6 := Lib.hid hk6; have hb6 := hk6.blk (HKA.out.blk HBX4.out (fun h => h)) (fun e => by obtain ⟨_, _, t1⟩ := ownTy HS.out.o5 e; exact absurd (tyNe t1 HS.out.bx) (by decide)); have f6 := blkFree hb6 5; have ug6 := blkLt hb6; obtain ⟨t0, t1, t2, t3, t4, t5, t6⟩ := cells7 hb6; clear ho6 hk6 hat6 hb6)
                go_roundw
                case rel => exact ⟨k + 1, _, _, _, _, by omega, by go_num, by rw [← HNN.out]; go_num, by unfold Hid; rw [HPK.out]; exact HS.out.put5 (HK4.out.then_ HKA.out) (by have h := HO6.out; first | exact h | (simp only [HVS.out]; exact h) | (rw [HVS.out]; exact h)) HK6.out⟩
                case measure => simp [intOf]; omega
              · have hdec : decide ((((Z3.length + Z4.length) + k : Nat) : Int) ∈ ax) = false := by simpa using hin
                rw [if_neg hin] at HPK
                simp only [hdec] at HHS
                clear hdec hin
                generalize hNN : (((Z3.length + Z4.length) + k : Nat) : Int) = NN at *
                have HNN := Lib.hid hNN
                clear hNN
                have hNb : 0 ≤ NN ∧ NN ≤ 100000000 := by have := HNN.out; omega
                go_wp2_with fail
                generalize hW4 : World.alloc _ _ = W4
                have hk4 : Keeps (fun _ => False) wr W4 := by rw [← hW4]; repeat (first | exact Keeps.refl _ _ | refine Keeps.drewN ?_ _ | refine Keeps.drew ?_ | refine Keeps.alloc ?_ _ | refine Keeps.set ?_ (Or.inl (by rfl)) _)
                have hb4 : W4.heap[wr.heap.size]? = some (.cells #[.int .i64 x.1, .int .i64 x.2.op, .int .i64 x.2.n, .slice B1 x.2.args.length d1] 87 (0, 0)) := by rw [← hW4]; exact blkNew rfl
                clear hW4
                have HK4 := Lib.hid hk4
                have HB4 := Lib.hid hb4
                clear hk4 hb4
                refine (HHS.out W4 HK4.out).mono ?_
                rintro e wq ⟨rfl, hq⟩
                rw [hq]
                clear hq wq HHS
                go_wp2_with fail
                go_roundw
                case rel => exact ⟨k + 1, _, _, _, _, by omega, by go_num, by rw [← HNN.out]; go_num, by unfold Hid; rw [HPK.out, List.append_nil]; exact HS.out.still HK4.out⟩
                case measure => simp [intOf]; omega
            · obtain rfl : k = Z5.length := by omega
              have HST : Hid (OnSt W0 g (.slice a0 b.cs.length c0) (.slice a1 b.rs.length c1) (.slice a2 b.is.length c2) (pickF ax 0 Z3) (pickF ax Z3.length Z4) (pickF ax (Z3.length + Z4.length) Z5) (pickF ax (Z3.length + Z4.length + Z5.length) (Z6.take 0)) v3 v4 v5 v6 wr) := by have h := HS.out; rw [List.take_length] at h; exact h
              clear HS
              obtain ⟨x0, x1, x2, x3, x4, x5, x6⟩ := cells7 (hkr.blk HB0.out (by omega))
              have ux := blkLt (hkr.blk HB0.out (by omega))
              clear hkr
              skip
              go_wp2_with fail
              go_loopw [6, 78] (fun a i wr => ∃ (k : Nat) (v3 v4 v5 v6 : Value), k ≤ Z6.length ∧ i = .int .i64 k ∧ a = .int .i64 (((Z3.length + Z4.length + Z5.length) + k : Nat) : Int) ∧ Hid (OnSt W0 g (.slice a0 b.cs.length c0) (.slice a1 b.rs.length c1) (.slice a2 b.is.length c2) (pickF ax 0 Z3) (pickF ax Z3.length Z4) (pickF ax (Z3.length + Z4.length) Z5) (pickF ax (Z3.length + Z4.length + Z5.length) (Z6.take k)) v3 v4 v5 v6 wr)) (fun _ i _ => Z6.length - (intOf i).toNat)
              case atStart => exact ⟨0, _, _, _, _, Nat.zero_le _, rfl, by simp, HST⟩
              case round =>
                obtain ⟨k, v3, v4, v5, v6, hk, rfl, rfl, HS⟩ := hrel
                have hkr := HS.out.kp
                have hzr := hkr.size
                by_cases hlt : k < Z6.length
                · obtain ⟨bx, ox, hxe, hbx, hcx⟩ := HZ6.out (by intro h; rw [h] at hlt; simp at hlt)
                  have hzz := HQ6.out _ (List.getElem_mem hlt)
                  have hcc := hcx k hlt
                  have HPK : Hid (pickF ax (Z3.length + Z4.length + Z5.length) (Z6.take (k + 1)) = pickF ax (Z3.length + Z4.length + Z5.length) (Z6.take k) ++ (if (((Z3.length + Z4.length + Z5.length) + k : Nat) : Int) ∈ ax then [Z6[k]] else [])) := by unfold Hid; rw [List.take_succ_eq_append_getElem hlt, pickF_snoc, List.length_take, Nat.min_eq_left (Nat.le_of_lt hlt)]
                  have hpl : (pickF ax (Z3.length + Z4.length + Z5.length) (Z6.take k)).length ≤ 1000000 := by have h := pickF_len ax (Z6.take k) (Z3.length + Z4.length + Z5.length); rw [List.length_take] at h; omega
                  generalize pickF ax (Z3.length + Z4.length + Z5.length) (Z6.take k) = PK at *
                  generalize hzk : Z6[k] = z at *
                  clear hzk
                  obtain ⟨x, vs⟩ := z
                  have hz := hzz; unfold LinkZ at hz
                  simp only at hz
                  have e0 : wr.cell? ⟨bx, ox + k * 3, none⟩ = some (.int .i64 x.1) := hkr.cell (HK0.out.cell (by have h := hcc 0 (by omega); rw [hz] at h; simpa using h) (fun h => h)) (by have := HOK.out _ hbx; omega)
                  have e1 : wr.cell? ⟨bx, ox + k * 3 + 1, none⟩ = some (.int .i64 x.2.1) := hkr.cell (HK0.out.cell (by have h := hcc 1 (by omega); rw [hz] at h; simpa using h) (fun h => h)) (by have := HOK.out _ hbx; omega)
                  have e2 : wr.cell? ⟨bx, ox + k * 3 + 2, none⟩ = some (.int .i64 x.2.2) := hkr.cell (HK0.out.cell (by have h := hcc 2 (by omega); rw [hz] at h; simpa using h) (fun h => h)) (by have := HOK.out _ hbx; omega)
                  have HVS := Lib.hid hz
                  have i1 : (k : Int) < Z6.length := by omega
                  obtain ⟨p3, p4, p5, p6⟩ : ∃ A c, v6 = .slice A PK.length c ∧ PK.length ≤ c := by obtain ⟨A, c, e, h, -⟩ := rowCells HS.out.o6; exact ⟨A, c, e, h⟩
                  have hve := p5
                  obtain ⟨q0, q1, q2, q3, q4, q5, q6⟩ := cells7 HS.out.bx
                  have ug := blkLt HS.out.bx
                  have hbl : bx < wr.heap.size := World.block_lt_of_cell? _ _ e0
                  have HHS := Lib.hid (fun W (h : Keeps (fun _ => False) wr W) => has_same ax (((Z3.length + Z4.length + Z5.length) + k : Nat) : Int) (fun _ => True) AX cx W (HAX.out W (fun i => i = g) (by omega) ((HK0.out.of0.then_ hkr).then_ h.of0)) (by omega))
                  (try clear hzz); clear hcx hcc hz hkr p5
                  subst hxe
                  have HVE := Lib.hid hve
                  subst hve
                  by_cases hin : (((Z3.length + Z4.length + Z5.length) + k : Nat) : Int) ∈ ax
                  · have hdec : decide ((((Z3.length + Z4.length + Z5.length) + k : Nat) : Int) ∈ ax) = true := by simpa using hin
                    rw [if_pos hin] at HPK
                    simp only [hdec] at HHS
                    clear hdec hin
                    generalize hNN : (((Z3.length + Z4.length + Z5.length) + k : Nat) : Int) = NN at *
                    have HNN := Lib.hid hNN
                    clear hNN
                    have hNb : 0 ≤ NN ∧ NN ≤ 100000000 := by have := HNN.out; omega
                    go_wp2_with fail
                    generalize hW4 : World.alloc _ _ = W4
                    have hk4 : Keeps (fun _ => False) wr W4 := by rw [← hW4]; repeat (first | exact Keeps.refl _ _ | refine Keeps.drewN ?_ _ | refine Keeps.drew ?_ | refine Keeps.alloc ?_ _ | refine Keeps.set ?_ (Or.inl (by rfl)) _)
                    have hb4 : W4.heap[wr.heap.size]? = some (.cells #[.int .i64 x.1, .int .i64 x.2.1, .int .i64 x.2.2] 89 (0, 0)) := by rw [← hW4]; exact blkNew rfl
                    clear hW4
                    have HK4 := Lib.hid hk4
                    have HB4 := Lib.hid hb4
                    clear hk4 hb4
                    refine (HHS.out W4 HK4.out).mono ?_
                    rintro e wq ⟨rfl, hq⟩
                    rw [hq]
                    clear hq wq HHS
                    have hbx4 := HK4.out.blk HS.out.bx (fun h => h)
                    obtain ⟨r0, r1, r2, r3, r4, r5, r6⟩ := cells7 hbx4
                    have ug4 := blkLt hbx4
                    have HBX4 := Lib.hid hbx4
                    have s0 : W4.cell? ⟨wr.heap.size, 0, none⟩ = some (.int .i64 x.1) := (blkCell HB4.out 0).trans rfl
                    have s1 : W4.cell? ⟨wr.heap.size, 1, none⟩ = some (.int .i64 x.2.1) := (blkCell HB4.out 1).trans rfl
                    have s2 : W4.cell? ⟨wr.heap.size, 2, none⟩ = some (.int .i64 x.2.2) := (blkCell HB4.out 2).trans rfl
                    have us4 := blkLt HB4.out
                    clear hbx4
                    go_wp2_with (at_builtin; refine wp_app1 rfl _ _ 28 28 rfl W0.heap.size 89 (.agg #[.int .i64 0, .int .i64 0, .int .i64 0]) 3 24 Tryz.underlying28 infoLinkZ rfl (by decide) (by decide) (.slice p3 PK.length p4) PK.length _ (ownsKeep (S := fun _ => False) (ownsKeep HS.out.o6 HK4.out (fun _ _ h => h)) (by repeat (first | exact Keeps.refl _ _ | refine Keeps.drewN ?_ _ | refine Keeps.drew ?_ | refine Keeps.alloc ?_ _ | refine Keeps.set ?_ (Or.inl (by rfl)) _)) (fun _ _ h => h)) rfl _ 1 [.int .i64 x.1, .int .i64 x.2.1, .int .i64 x.2.2] (Src.ofBlock Tryz.underlying28 (cs := #[.int .i64 x.1, .int .i64 x.2.1, .int .i64 x.2.2]) (blkNew (by first | rfl | simp)) rfl (by simp [Value.oneCell'])) rfl (by decide) (by omega) (by have := HK4.out.size; simp; omega) ?_; intro g6 cc6 w6 ho6 hk6 hat6 hcap6 hlt6; have HKA := Lib.hid (upK hk6 (a := W4) (by repeat (first | exact Keeps.refl _ _ | refine Keeps.drewN ?_ _ | refine Keeps.drew ?_ | refine Keeps.alloc ?_ _ | refine Keeps.set ?_ (Or.inl (by rfl)) _))); have HO6 := Lib.hid ho6; have HK6 := Lib.hid hk6; have hb6 := hk6.blk (HKA.out.blk HBX4.out (fun h => h)) (fun e => by obtain ⟨_, _, t1⟩ := ownTy HS.out.o6 e; exact absurd (tyNe t1 HS.out.bx) (by decide)); have f6 := blkFree hb6 6; have ug6 := blkLt hb6; obtain ⟨t0, t1, t2, t3, t4, t5, t6⟩ := cells7 hb6; clear ho6 hk6 hat6 hb6)
                    go_roundw
                    case rel => exact ⟨k + 1, _, _, _, _, by omega, by go_num, by rw [← HNN.out]; go_num, by unfold Hid; rw [HPK.out]; exact HS.out.put6 (HK4.out.then_ HKA.out) (by have h := HO6.out; first | exact h | (simp only [HVS.out]; exact h) | (rw [HVS.out]; exact h)) HK6.out⟩
                    case measure => simp [intOf]; omega
                  · have hdec : decide ((((Z3.length + Z4.length + Z5.length) + k : Nat) : Int) ∈ ax) = false := by simpa using hin
                    rw [if_neg hin] at HPK
                    simp only [hdec] at HHS
                    clear hdec hin
                    generalize hNN : (((Z3.length + Z4.length + Z5.length) + k : Nat) : Int) = NN at *
                    have HNN := Lib.hid hNN
                    clear hNN
                    have hNb : 0 ≤ NN ∧ NN ≤ 100000000 := by have := HNN.out; omega
                    go_wp2_with fail
                    generalize hW4 : World.alloc _ _ = W4
                    have hk4 : Keeps (fun _ => False) wr W4 := by rw [← hW4]; repeat (first | exact Keeps.refl _ _ | refine Keeps.drewN ?_ _ | refine Keeps.drew ?_ | refine Keeps.alloc ?_ _ | refine Keeps.set ?_ (Or.inl (by rfl)) _)
                    have hb4 : W4.heap[wr.heap.size]? = some (.cells #[.int .i64 x.1, .int .i64 x.2.1, .int .i64 x.2.2] 89 (0, 0)) := by rw [← hW4]; exact blkNew rfl
                    clear hW4
                    have HK4 := Lib.hid hk4
                    have HB4 := Lib.hid hb4
                    clear hk4 hb4
                    refine (HHS.out W4 HK4.out).mono ?_
                    rintro e wq ⟨rfl, hq⟩
                    rw [hq]
                    clear hq wq HHS
                    go_wp2_with fail
                    go_roundw
                    case rel => exact ⟨k + 1, _, _, _, _, by omega, by go_num, by rw [← HNN.out]; go_num, by unfold Hid; rw [HPK.out, List.append_nil]; exact HS.out.still HK4.out⟩
                    case measure => simp [intOf]; omega
                · obtain rfl : k = Z6.length := by omega
                  have HST : Hid (OnSt W0 g (.slice a0 b.cs.length c0) (.slice a1 b.rs.length c1) (.slice a2 b.is.length c2) (pickF ax 0 Z3) (pickF ax Z3.length Z4) (pickF ax (Z3.length + Z4.length) Z5) (pickF ax (Z3.length + Z4.length + Z5.length) Z6) v3 v4 v5 v6 wr) := by have h := HS.out; rw [List.take_length] at h; exact h
                  clear HS
                  obtain ⟨x0, x1, x2, x3, x4, x5, x6⟩ := cells7 (hkr.blk HB0.out (by omega))
                  have ux := blkLt (hkr.blk HB0.out (by omega))
                  clear hkr
                  obtain ⟨p3, d3, hv3, -, -⟩ := rowCells HST.out.o3
                  obtain ⟨p4, d4, hv4, -, -⟩ := rowCells HST.out.o4
                  obtain ⟨p5, d5, hv5, -, -⟩ := rowCells HST.out.o5
                  obtain ⟨p6, d6, hv6, -, -⟩ := rowCells HST.out.o6
                  subst hv3
                  subst hv4
                  subst hv5
                  subst hv6
                  have e3 : (onlyK b ax).incls = (pickF ax 0 Z3).map (·.1) := by show pickF ax 0 b.incls = _; rw [← HE3.out, pickF_map]
                  have e4 : (onlyK b ax).roles = (pickF ax Z3.length Z4).map (·.1) := by show pickF ax b.incls.length b.roles = _; rw [← HE4.out, pickF_map, ← HE3.out, List.length_map]
                  have e5 : (onlyK b ax).facts = (pickF ax (Z3.length + Z4.length) Z5).map (·.1) := by show pickF ax (b.incls.length + b.roles.length) b.facts = _; rw [← HE5.out, pickF_map, ← HE3.out, ← HE4.out, List.length_map, List.length_map]
                  have e6 : (onlyK b ax).links = (pickF ax (Z3.length + Z4.length + Z5.length) Z6).map (·.1) := by show pickF ax (b.incls.length + b.roles.length + b.facts.length) b.links = _; rw [← HE6.out, pickF_map, ← HE3.out, ← HE4.out, ← HE5.out, List.length_map, List.length_map, List.length_map]
                  have HPQ : Hid ((∀ z ∈ pickF ax 0 Z3, z ∈ Z3) ∧ (∀ z ∈ pickF ax Z3.length Z4, z ∈ Z4) ∧ (∀ z ∈ pickF ax (Z3.length + Z4.length) Z5, z ∈ Z5) ∧ ∀ z ∈ pickF ax (Z3.length + Z4.length + Z5.length) Z6, z ∈ Z6) := ⟨pickF_sub ax _ _, pickF_sub ax _ _, pickF_sub ax _ _, pickF_sub ax _ _⟩
                  have HE := Lib.hid (And.intro e3 (And.intro e4 (And.intro e5 e6)))
                  clear e3 e4 e5 e6
                  generalize pickF ax 0 Z3 = Q3 at *
                  generalize pickF ax Z3.length Z4 = Q4 at *
                  generalize pickF ax (Z3.length + Z4.length) Z5 = Q5 at *
                  generalize pickF ax (Z3.length + Z4.length + Z5.length) Z6 = Q6 at *
                  obtain ⟨q0, q1, q2, q3, q4, q5, q6⟩ := cells7 HST.out.bx
                  have ug := blkLt HST.out.bx
                  have hb1 := HST.out.kp.blk HB1.out (by omega)
                  obtain ⟨z0, z1, z2, z3, z4, z5, z6⟩ := cells7 hb1
                  have f0 := blkFree hb1 0
                  have f1 := blkFree hb1 1
                  have f2 := blkFree hb1 2
                  have f3 := blkFree hb1 3
                  have f4 := blkFree hb1 4
                  have f5 := blkFree hb1 5
                  have f6 := blkFree hb1 6
                  have u1 := blkLt hb1
                  have HB1R := Lib.hid hb1
                  clear hb1 x0 x1 x2 x3 x4 x5 x6 ux
                  go_wp2_with fail
                  have hbF := blkSet7 HB1R.out (.slice a0 b.cs.length c0) (.slice a1 b.rs.length c1) (.slice a2 b.is.length c2) (.slice p3 Q3.length d3) (.slice p4 Q4.length d4) (.slice p5 Q5.length d5) (.slice p6 Q6.length d6)
                  generalize hWF : World.setCell _ _ _ = WF
                  rw [hWF] at hbF
                  have hs : Keeps (fun i => i = w.heap.size + 1) wr WF := by rw [← hWF]; repeat (first | with_reducible exact Keeps.refl _ _ | refine Keeps.set ?_ (Or.inl (by rfl)) _)
                  clear hWF
                  have HBF := Lib.hid hbF
                  have HSF := Lib.hid hs
                  obtain ⟨t0, t1, t2, t3, t4, t5, t6⟩ := cells7 hbF
                  clear hbF hs q0 q1 q2 q3 q4 q5 q6 z0 z1 z2 z3 z4 z5 z6 f0 f1 f2 f3 f4 f5 f6 u1
                  refine bodyPost_ret (v := .agg #[.slice a0 b.cs.length c0, .slice a1 b.rs.length c1, .slice a2 b.is.length c2, .slice p3 Q3.length d3, .slice p4 Q4.length d4, .slice p5 Q5.length d5, .slice p6 Q6.length d6]) ?g1 rfl ?g2
                  case g1 => simp [results, Tryz.results14, go_sem, t0, t1, t2, t3, t4, t5, t6]
                  case g2 =>
                    clear t0 t1 t2 t3 t4 t5 t6
                    have hz1 := HK0.out.size
                    have hz2 := HST.out.kp.size
                    have hz3 := HSF.out.size
                    have hokF : ∀ k, ok k → k < WF.heap.size := fun k hk => by have := HOK.out k hk; omega
                    have hkw : Keeps (fun _ => False) w wr := HK0.out.trans HST.out.kp (fun i hi => .inr (by omega))
                    have hcr : ∀ c vs, ConR ok w c vs → ConR (fun k => k < WF.heap.size) WF c vs := fun c vs h => ((h.keep hkw (fun _ _ h => h)).keep HSF.out (fun k hk e => by have := HOK.out k hk; omega)).mono hokF
                    have hbr := HB.out
                    have h3 := inclsR_of (ok := fun k => k < WF.heap.size) (ownsKeep HST.out.o3 HSF.out (fun b e1 e2 => by obtain ⟨_, _, h1⟩ := ownTy HST.out.o3 e1; subst e2; exact absurd (tyNe h1 HB1R.out) (by decide))) (fun z hz => (HQ3.out z (HPQ.out.1 z hz)).mono hcr) (fun k h => h)
                    have h4 := rolesR_of (ok := fun k => k < WF.heap.size) (ownsKeep HST.out.o4 HSF.out (fun b e1 e2 => by obtain ⟨_, _, h1⟩ := ownTy HST.out.o4 e1; subst e2; exact absurd (tyNe h1 HB1R.out) (by decide))) (fun z hz => (HQ4.out z (HPQ.out.2.1 z hz)).mono hcr) (fun k h => h)
                    have h5 := factsR_of (ok := fun k => k < WF.heap.size) (ownsKeep HST.out.o5 HSF.out (fun b e1 e2 => by obtain ⟨_, _, h1⟩ := ownTy HST.out.o5 e1; subst e2; exact absurd (tyNe h1 HB1R.out) (by decide))) (fun z hz => (HQ5.out z (HPQ.out.2.2.1 z hz)).mono hcr) (fun k h => h)
                    have h6 := linksR_of (ok := fun k => k < WF.heap.size) (ownsKeep HST.out.o6 HSF.out (fun b e1 e2 => by obtain ⟨_, _, h1⟩ := ownTy HST.out.o6 e1; subst e2; exact absurd (tyNe h1 HB1R.out) (by decide))) (fun z hz => (HQ6.out z (HPQ.out.2.2.2 z hz)).mono hcr) (fun k h => h)
                    obtain ⟨A3, k3, ev3, g3, r3⟩ := h3
                    obtain ⟨A4, k4, ev4, g4, r4⟩ := h4
                    obtain ⟨A5, k5, ev5, g5, r5⟩ := h5
                    obtain ⟨A6, k6, ev6, g6, r6⟩ := h6
                    simp only [Value.slice.injEq] at ev3 ev4 ev5 ev6
                    obtain ⟨rfl, -, rfl⟩ := ev3
                    obtain ⟨rfl, -, rfl⟩ := ev4
                    obtain ⟨rfl, -, rfl⟩ := ev5
                    obtain ⟨rfl, -, rfl⟩ := ev6
                    obtain ⟨e3, e4, e5, e6⟩ := HE.out
                    have row : ∀ {α : Type} {enc : α → Value} {l : List α} {A : Option Addr}, Row1 ok w enc l A → Row1 (fun k => k < WF.heap.size) WF enc l A := fun h => ((h.keep hkw (fun _ _ h => h)).keep HSF.out (fun k hk e => by have := HOK.out k hk; omega)).mono hokF
                    refine ⟨⟨a0, a1, a2, p3, p4, p5, p6, c0, c1, c2, d3, d4, d5, d6⟩, ?_, ?_, (hkw.trans HSF.out (fun i hi => .inr (by omega)))⟩
                    · rw [e3, e4, e5, e6]
                      simp only [List.length_map]
                      rfl
                    · exact ⟨row hbr.cs, row hbr.rs, row hbr.is, by rw [e3]; exact r3, by rw [e4]; exact r4, by rw [e5]; exact r5, by rw [e6]; exact r6, hbr.l0, hbr.l1, hbr.l2, by rw [e3]; exact g3, by rw [e4]; exact g4, by rw [e5]; exact g5, by rw [e6]; exact g6, hbr.strs, fun x hx => hbr.rng x (pickF_sub ax _ _ x hx)⟩
end Go.Proofs.YthiclhbnggehoaaGreatDoor
