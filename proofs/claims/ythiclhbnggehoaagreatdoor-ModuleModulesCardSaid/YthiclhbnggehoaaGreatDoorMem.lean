/- The words of these proofs: concepts as trees, what a slice of them reads as, what a call may change. -/
import Derived.WalkKit
import Derived.Deep.Draws
import Derived.Deep.QuietTactic
import Derived.BigQuiet
namespace Go.Proofs.YthiclhbnggehoaaGreatDoor
open Go.RowKit
/-- A concept as a tree. -/
inductive Con where
  | mk (op n : Int) (args : List Con)
def Con.op : Con → Int | ⟨op, _, _⟩ => op
def Con.n : Con → Int | ⟨_, n, _⟩ => n
def Con.args : Con → List Con | ⟨_, _, l⟩ => l
mutual
def Con.size : Con → Nat | ⟨_, _, l⟩ => Con.sizes l + 1
def Con.sizes : List Con → Nat | [] => 0 | c :: r => Con.size c + Con.sizes r
end
theorem Con.size_at : ∀ {l : List Con} (i : Nat) (h : i < l.length), l[i].size ≤ Con.sizes l
  | c :: r, 0, _ => by simp only [List.getElem_cons_zero, Con.sizes]; omega
  | c :: r, i + 1, h => by have := Con.size_at (l := r) i (by simpa using h); simp only [List.getElem_cons_succ, Con.sizes]; omega
mutual
/-- Three cells that read as a concept; the arrays that they lead to are blocks of 'ok'. -/
def ConR (ok : Nat → Prop) (w : World) : Con → List Value → Prop
  | ⟨op, n, args⟩, cs => ∃ A cap, cs = [.int .i64 op, .int .i64 n, .slice A args.length cap] ∧ args.length ≤ cap ∧ (args ≠ [] → ∃ b o, A = some ⟨b, o, none⟩ ∧ ok b ∧ ConsR ok w args b o)
/-- The cells from (b, o) on read as concepts; where block 0 is none of 'ok' (so in memory of a call's own), they may be written. -/
def ConsR (ok : Nat → Prop) (w : World) : List Con → Nat → Nat → Prop
  | [], b, _ => ¬ ok 0 → ∃ cs t, w.heap[b]? = some (.cells cs t (0, 0))
  | c :: r, b, o => (∃ v0 v1 v2, w.cell? ⟨b, o, none⟩ = some v0 ∧ w.cell? ⟨b, o + 1, none⟩ = some v1 ∧ w.cell? ⟨b, o + 2, none⟩ = some v2 ∧ ConR ok w c [v0, v1, v2]) ∧ ConsR ok w r b (o + 3)
end
/-- Of what was there in w, all but the blocks of S is as it was. -/
structure Keeps (S : Nat → Prop) (w w' : World) : Prop where
  os : w'.os = w.os
  tape : w'.tape = w.tape
  output : w'.output = w.output
  size : w.heap.size ≤ w'.heap.size
  block : ∀ k, k < w.heap.size → ¬ S k → w'.heap[k]? = w.heap[k]?
theorem Keeps.refl (S : Nat → Prop) (w : World) : Keeps S w w := ⟨rfl, rfl, rfl, Nat.le_refl _, fun _ _ _ => rfl⟩
theorem Keeps.of_below {S : Nat → Prop} {w w' : World} (h : Below w.heap.size w w') : Keeps S w w' := ⟨h.os, h.tape, h.output, h.size, fun k hk _ => h.block k hk⟩
theorem Keeps.below {w w' : World} (h : Keeps (fun _ => False) w w') : Below w.heap.size w w' := ⟨h.os, h.tape, h.output, h.size, fun k hk => h.block k hk (fun h => h)⟩
theorem Keeps.trans {S S1 : Nat → Prop} {a b c : World} (h : Keeps S a b) (k : Keeps S1 b c) (hs : ∀ i, S1 i → S i ∨ a.heap.size ≤ i) : Keeps S a c :=
  ⟨k.os.trans h.os, k.tape.trans h.tape, k.output.trans h.output, Nat.le_trans h.size k.size, fun i hi hn => (k.block i (by have := h.size; omega) (fun h1 => by rcases hs i h1 with h2 | h2; exact hn h2; omega)).trans (h.block i hi hn)⟩
theorem Keeps.drew {S : Nat → Prop} {a w : World} (h : Keeps S a w) : Keeps S a w.drew := ⟨h.os, h.tape, h.output, h.size, h.block⟩
theorem Keeps.drewN {S : Nat → Prop} {a w : World} (h : Keeps S a w) (n : Nat) : Keeps S a (w.drewN n) := ⟨h.os, h.tape, h.output, h.size, h.block⟩
theorem Keeps.undrew {S : Nat → Prop} {w w' : World} (h : Keeps S w.drew w') : Keeps S w w' := ⟨h.os, h.tape, h.output, h.size, h.block⟩
theorem Keeps.alloc {S : Nat → Prop} {a w : World} (h : Keeps S a w) (o : Obj) : Keeps S a (w.alloc o) :=
  h.trans (Keeps.of_below (S := fun _ => False) ((Below.refl _ _).alloc (Nat.le_refl _) o)) (fun _ h => h.elim)
theorem Keeps.setCell {S : Nat → Prop} {a w : World} (h : Keeps S a w) {p : Addr} (hp : S p.block ∨ a.heap.size ≤ p.block) (u : Value) : Keeps S a (w.setCell p u) :=
  h.trans (S1 := fun k => k = p.block) ⟨rfl, rfl, rfl, by simp [World.setCell], fun k _ hn => Below.heap_setCell _ _ _ _ hn⟩ (fun i hi => by rw [hi]; exact hp)
theorem Keeps.cell {S : Nat → Prop} {w w' : World} (h : Keeps S w w') {b o : Nat} {v : Value} (hv : w.cell? ⟨b, o, none⟩ = some v) (hs : ¬ S b) : w'.cell? ⟨b, o, none⟩ = some v :=
  (World.cell?_of_block (w := w) (h.block b (World.block_lt_of_cell? w ⟨b, o, none⟩ hv) hs)).trans hv
theorem blkLt {w : World} {g : Nat} {o : Obj} (h : w.heap[g]? = some o) : g < w.heap.size := (Array.getElem?_eq_some_iff.1 h).1
theorem Keeps.blk {S : Nat → Prop} {w w' : World} (h : Keeps S w w') {g : Nat} {o : Obj} (hv : w.heap[g]? = some o) (hs : ¬ S g) : w'.heap[g]? = some o := (h.block g (blkLt hv) hs).trans hv
mutual
theorem ConR.keep {ok S : Nat → Prop} {w w' : World} (hk : Keeps S w w') (hs : ∀ k, ok k → ¬ S k) : ∀ {c : Con} {cs : List Value}, ConR ok w c cs → ConR ok w' c cs
  | ⟨op, n, args⟩, cs, h => by
    simp only [ConR] at h ⊢
    obtain ⟨A, cap, h1, h2, h3⟩ := h
    exact ⟨A, cap, h1, h2, fun ha => by obtain ⟨b, o, e, hb, hr⟩ := h3 ha; exact ⟨b, o, e, hb, ConsR.keep hk hs hb hr⟩⟩
theorem ConsR.keep {ok S : Nat → Prop} {w w' : World} (hk : Keeps S w w') (hs : ∀ k, ok k → ¬ S k) : ∀ {l : List Con} {b o : Nat}, ok b → ConsR ok w l b o → ConsR ok w' l b o
  | [], b, _, hb, h => by
    simp only [ConsR] at h ⊢
    exact fun hn => by obtain ⟨cs, t, e⟩ := h hn; exact ⟨cs, t, (hk.block b (Array.getElem?_eq_some_iff.1 e).1 (hs b hb)).trans e⟩
  | c :: r, b, o, hb, h => by
    simp only [ConsR] at h ⊢
    obtain ⟨⟨v0, v1, v2, h0, h1, h2, hc⟩, hr⟩ := h
    exact ⟨⟨v0, v1, v2, hk.cell h0 (hs b hb), hk.cell h1 (hs b hb), hk.cell h2 (hs b hb), ConR.keep hk hs hc⟩, ConsR.keep hk hs hb hr⟩
end
theorem ConR.form {ok : Nat → Prop} {w : World} {c : Con} {cs : List Value} (h : ConR ok w c cs) : ∃ A cap, cs = [.int .i64 c.op, .int .i64 c.n, .slice A c.args.length cap] ∧ c.args.length ≤ cap ∧ (c.args ≠ [] → ∃ b o, A = some ⟨b, o, none⟩ ∧ ok b ∧ ConsR ok w c.args b o) := by
  obtain ⟨op, n, l⟩ := c
  simpa only [ConR, Con.op, Con.n, Con.args] using h
theorem ConsR.at_ {ok : Nat → Prop} {w : World} : ∀ {l : List Con} {b o : Nat}, ConsR ok w l b o → ∀ i (h : i < l.length), ∃ A cap, w.cell? ⟨b, o + i * 3, none⟩ = some (.int .i64 l[i].op) ∧ w.cell? ⟨b, o + i * 3 + 1, none⟩ = some (.int .i64 l[i].n) ∧ w.cell? ⟨b, o + i * 3 + 2, none⟩ = some (.slice A l[i].args.length cap) ∧ ConR ok w l[i] [.int .i64 l[i].op, .int .i64 l[i].n, .slice A l[i].args.length cap]
  | c :: r, b, o, h, 0, _ => by
    simp only [ConsR] at h
    obtain ⟨⟨v0, v1, v2, h0, h1, h2, hc⟩, _⟩ := h
    obtain ⟨A, cap, e, _⟩ := hc.form
    simp only [List.cons.injEq, and_true] at e
    obtain ⟨rfl, rfl, rfl⟩ := e
    exact ⟨A, cap, by simpa using h0, by simpa using h1, by simpa using h2, hc⟩
  | c :: r, b, o, h, i + 1, hi => by
    simp only [ConsR] at h
    have := ConsR.at_ h.2 i (by simpa using hi)
    simpa [Nat.add_mul, Nat.add_assoc, Nat.add_comm, Nat.add_left_comm] using this
theorem blkCell {w : World} {g : Nat} {t : TypeId} {cs : Array Value} {fz : Nat × Nat} (h : w.heap[g]? = some (.cells cs t fz)) (i : Nat) : w.cell? ⟨g, i, none⟩ = cs[i]? := by simp [World.cell?, h]
theorem blkFree {w : World} {g : Nat} {t : TypeId} {cs : Array Value} (h : w.heap[g]? = some (.cells cs t (0, 0))) (i : Nat) : w.frozen? ⟨g, i, none⟩ = false := by simp [World.frozen?, h]
theorem blkSet {w : World} {g : Nat} {t : TypeId} {cs : Array Value} (h : w.heap[g]? = some (.cells cs t (0, 0))) (i : Nat) (u : Value) : (w.setCell ⟨g, i, none⟩ u).heap[g]? = some (.cells (cs.setIfInBounds i u) t (0, 0)) := by
  simp [World.setCell, Array.getElem?_modify, h]
theorem blkAlloc {w : World} {g : Nat} {o : Obj} (h : w.heap[g]? = some o) (o' : Obj) : (w.alloc o').heap[g]? = some o := (Below.heap_alloc w o' g (blkLt h)).trans h
theorem blkDrewN {w : World} {g : Nat} {o : Obj} (h : w.heap[g]? = some o) (n : Nat) : (w.drewN n).heap[g]? = some o := h
theorem cellSetNe {w : World} {b o b' o' : Nat} {v : Value} {u : Option Value} (h : b ≠ b') (hu : w.cell? ⟨b', o', none⟩ = u) : (w.setCell ⟨b, o, none⟩ v).cell? ⟨b', o', none⟩ = u :=
  (World.cell?_of_block (w := w) (Below.heap_setCell w ⟨b, o, none⟩ v b' (fun e => h e.symm))).trans hu
theorem Keeps.set {S : Nat → Prop} {a w : World} (h : Keeps S a w) {g o : Nat} (hp : S g ∨ a.heap.size ≤ g) (u : Value) : Keeps S a (w.setCell ⟨g, o, none⟩ u) := h.setCell (p := ⟨g, o, none⟩) hp u
/-- A new block lies behind all that was there. -/
theorem blkNew {w : World} {o : Obj} {n : Nat} (hn : n = w.heap.size) : (w.alloc o).heap[n]? = some o := by subst hn; exact heap_alloc_new w o
theorem Keeps.then_ {S : Nat → Prop} {a b c : World} (h : Keeps S a b) (k : Keeps S b c) : Keeps S a c := h.trans k (fun _ hi => .inl hi)
/-- A slice of one-cell elements. -/
def Row1 {α : Type} (ok : Nat → Prop) (w : World) (enc : α → Value) (l : List α) (A : Option Addr) : Prop :=
  l ≠ [] → ∃ b o, A = some ⟨b, o, none⟩ ∧ ok b ∧ ∀ i (h : i < l.length), w.cell? ⟨b, o + i, none⟩ = some (enc l[i])
theorem Row1.keep {α : Type} {ok S : Nat → Prop} {w w' : World} {enc : α → Value} {l : List α} {A : Option Addr} (h : Row1 ok w enc l A) (hk : Keeps S w w') (hs : ∀ k, ok k → ¬ S k) : Row1 ok w' enc l A := fun hl => by
  obtain ⟨b, o, e, hb, hc⟩ := h hl
  exact ⟨b, o, e, hb, fun i hi => hk.cell (hc i hi) (hs b hb)⟩
theorem Row1.mono {α : Type} {ok ok' : Nat → Prop} {w : World} {enc : α → Value} {l : List α} {A : Option Addr} (h : Row1 ok w enc l A) (ho : ∀ k, ok k → ok' k) : Row1 ok' w enc l A := fun hl => by
  obtain ⟨b, o, e, hb, hc⟩ := h hl
  exact ⟨b, o, e, ho b hb, hc⟩
theorem ownedRow1 {α : Type} {w : World} {base : Nat} {e : TypeId} {v : Value} {enc : α → Value} {l : List α} {n : Nat} (h : w.ownsRow base e 1 v n (l.map enc)) : n = l.length ∧ ∃ A c, v = .slice A n c ∧ n ≤ c ∧ Row1 (fun k => base ≤ k) w enc l A := by
  have hn : n = l.length := by have := h.1; simp at this; omega
  refine ⟨hn, ?_⟩
  rcases h.2 with ⟨rfl, h0⟩ | ⟨g, cap, cur, rfl, hg, hh, hc, _, _, ht⟩
  · subst h0
    exact ⟨none, 0, rfl, Nat.le_refl _, fun hl => absurd (List.eq_nil_of_length_eq_zero hn.symm) hl⟩
  · refine ⟨_, cap, rfl, hc, fun _ => ⟨g, 0, rfl, hg, fun i hi => ?_⟩⟩
    rw [blkCell hh, Nat.zero_add]
    have : (l.map enc)[i]? = some (enc l[i]) := by simp [hi]
    rw [← ht, List.getElem?_take_of_lt (by omega)] at this
    simpa using this
/-- A knowledge base as data. -/
structure Kb where
  cs : List ByteArray
  rs : List ByteArray
  is : List ByteArray
  incls : List (Con × Con)
  roles : List (Int × Int)
  facts : List (Int × Con)
  links : List (Int × Int × Int)
/-- Where its slices lie. -/
structure KbA where
  a0 : Option Addr
  a1 : Option Addr
  a2 : Option Addr
  a3 : Option Addr
  a4 : Option Addr
  a5 : Option Addr
  a6 : Option Addr
  c0 : Nat
  c1 : Nat
  c2 : Nat
  c3 : Nat
  c4 : Nat
  c5 : Nat
  c6 : Nat
def InclsR (ok : Nat → Prop) (w : World) (l : List (Con × Con)) (A : Option Addr) : Prop :=
  l ≠ [] → ∃ b o, A = some ⟨b, o, none⟩ ∧ ok b ∧ ∀ i (h : i < l.length), ∃ A1 c1 A2 c2, w.cell? ⟨b, o + i * 6, none⟩ = some (.int .i64 l[i].1.op) ∧ w.cell? ⟨b, o + i * 6 + 1, none⟩ = some (.int .i64 l[i].1.n) ∧ w.cell? ⟨b, o + i * 6 + 2, none⟩ = some (.slice A1 l[i].1.args.length c1) ∧
    w.cell? ⟨b, o + i * 6 + 3, none⟩ = some (.int .i64 l[i].2.op) ∧ w.cell? ⟨b, o + i * 6 + 4, none⟩ = some (.int .i64 l[i].2.n) ∧ w.cell? ⟨b, o + i * 6 + 5, none⟩ = some (.slice A2 l[i].2.args.length c2) ∧
    ConR ok w l[i].1 [.int .i64 l[i].1.op, .int .i64 l[i].1.n, .slice A1 l[i].1.args.length c1] ∧ ConR ok w l[i].2 [.int .i64 l[i].2.op, .int .i64 l[i].2.n, .slice A2 l[i].2.args.length c2]
def RolesR (ok : Nat → Prop) (w : World) (l : List (Int × Int)) (A : Option Addr) : Prop :=
  l ≠ [] → ∃ b o, A = some ⟨b, o, none⟩ ∧ ok b ∧ ∀ i (h : i < l.length), w.cell? ⟨b, o + i * 2, none⟩ = some (.int .i64 l[i].1) ∧ w.cell? ⟨b, o + i * 2 + 1, none⟩ = some (.int .i64 l[i].2)
def FactsR (ok : Nat → Prop) (w : World) (l : List (Int × Con)) (A : Option Addr) : Prop :=
  l ≠ [] → ∃ b o, A = some ⟨b, o, none⟩ ∧ ok b ∧ ∀ i (h : i < l.length), ∃ A1 c1, w.cell? ⟨b, o + i * 4, none⟩ = some (.int .i64 l[i].1) ∧ w.cell? ⟨b, o + i * 4 + 1, none⟩ = some (.int .i64 l[i].2.op) ∧ w.cell? ⟨b, o + i * 4 + 2, none⟩ = some (.int .i64 l[i].2.n) ∧ w.cell? ⟨b, o + i * 4 + 3, none⟩ = some (.slice A1 l[i].2.args.length c1) ∧
    ConR ok w l[i].2 [.int .i64 l[i].2.op, .int .i64 l[i].2.n, .slice A1 l[i].2.args.length c1]
def LinksR (ok : Nat → Prop) (w : World) (l : List (Int × Int × Int)) (A : Option Addr) : Prop :=
  l ≠ [] → ∃ b o, A = some ⟨b, o, none⟩ ∧ ok b ∧ ∀ i (h : i < l.length), w.cell? ⟨b, o + i * 3, none⟩ = some (.int .i64 l[i].1) ∧ w.cell? ⟨b, o + i * 3 + 1, none⟩ = some (.int .i64 l[i].2.1) ∧ w.cell? ⟨b, o + i * 3 + 2, none⟩ = some (.int .i64 l[i].2.2)
/-- An int. -/
def i64ok (n : Int) : Prop := -9223372036854775808 ≤ n ∧ n ≤ 9223372036854775807
structure KbR (ok : Nat → Prop) (w : World) (b : Kb) (p : KbA) : Prop where
  cs : Row1 ok w Value.string b.cs p.a0
  rs : Row1 ok w Value.string b.rs p.a1
  is : Row1 ok w Value.string b.is p.a2
  incls : InclsR ok w b.incls p.a3
  roles : RolesR ok w b.roles p.a4
  facts : FactsR ok w b.facts p.a5
  links : LinksR ok w b.links p.a6
  l0 : b.cs.length ≤ p.c0
  l1 : b.rs.length ≤ p.c1
  l2 : b.is.length ≤ p.c2
  l3 : b.incls.length ≤ p.c3
  l4 : b.roles.length ≤ p.c4
  l5 : b.facts.length ≤ p.c5
  l6 : b.links.length ≤ p.c6
  strs : ∀ s ∈ b.cs ++ b.rs ++ b.is, s.size ≤ maxLen
  rng : ∀ x ∈ b.links, i64ok x.1
theorem InclsR.keep {ok S : Nat → Prop} {w w' : World} {l : List (Con × Con)} {A : Option Addr} (h : InclsR ok w l A) (hk : Keeps S w w') (hs : ∀ k, ok k → ¬ S k) : InclsR ok w' l A := fun hl => by
  obtain ⟨b, o, e, hb, hc⟩ := h hl
  refine ⟨b, o, e, hb, fun i hi => ?_⟩
  obtain ⟨A1, c1, A2, c2, h0, h1, h2, h3, h4, h5, h6, h7⟩ := hc i hi
  exact ⟨A1, c1, A2, c2, hk.cell h0 (hs b hb), hk.cell h1 (hs b hb), hk.cell h2 (hs b hb), hk.cell h3 (hs b hb), hk.cell h4 (hs b hb), hk.cell h5 (hs b hb), h6.keep hk hs, h7.keep hk hs⟩
theorem RolesR.keep {ok S : Nat → Prop} {w w' : World} {l : List (Int × Int)} {A : Option Addr} (h : RolesR ok w l A) (hk : Keeps S w w') (hs : ∀ k, ok k → ¬ S k) : RolesR ok w' l A := fun hl => by
  obtain ⟨b, o, e, hb, hc⟩ := h hl
  exact ⟨b, o, e, hb, fun i hi => ⟨hk.cell (hc i hi).1 (hs b hb), hk.cell (hc i hi).2 (hs b hb)⟩⟩
theorem FactsR.keep {ok S : Nat → Prop} {w w' : World} {l : List (Int × Con)} {A : Option Addr} (h : FactsR ok w l A) (hk : Keeps S w w') (hs : ∀ k, ok k → ¬ S k) : FactsR ok w' l A := fun hl => by
  obtain ⟨b, o, e, hb, hc⟩ := h hl
  refine ⟨b, o, e, hb, fun i hi => ?_⟩
  obtain ⟨A1, c1, h0, h1, h2, h3, h4⟩ := hc i hi
  exact ⟨A1, c1, hk.cell h0 (hs b hb), hk.cell h1 (hs b hb), hk.cell h2 (hs b hb), hk.cell h3 (hs b hb), h4.keep hk hs⟩
theorem LinksR.keep {ok S : Nat → Prop} {w w' : World} {l : List (Int × Int × Int)} {A : Option Addr} (h : LinksR ok w l A) (hk : Keeps S w w') (hs : ∀ k, ok k → ¬ S k) : LinksR ok w' l A := fun hl => by
  obtain ⟨b, o, e, hb, hc⟩ := h hl
  exact ⟨b, o, e, hb, fun i hi => ⟨hk.cell (hc i hi).1 (hs b hb), hk.cell (hc i hi).2.1 (hs b hb), hk.cell (hc i hi).2.2 (hs b hb)⟩⟩
theorem KbR.keep {ok S : Nat → Prop} {w w' : World} {b : Kb} {p : KbA} (h : KbR ok w b p) (hk : Keeps S w w') (hs : ∀ k, ok k → ¬ S k) : KbR ok w' b p :=
  { h with cs := h.cs.keep hk hs, rs := h.rs.keep hk hs, is := h.is.keep hk hs, incls := h.incls.keep hk hs, roles := h.roles.keep hk hs, facts := h.facts.keep hk hs, links := h.links.keep hk hs }
end Go.Proofs.YthiclhbnggehoaaGreatDoor
/- Closures of a relation on numbers below n, as matrices. -/
namespace Go.Proofs.YthiclhbnggehoaaGreatDoor
set_option linter.unusedVariables false
set_option linter.unusedSimpArgs false
inductive Reach (E : Nat → Nat → Prop) : Nat → Nat → Prop where
  | refl (r : Nat) : Reach E r r
  | step {r m s : Nat} : E r m → Reach E m s → Reach E r s
theorem Reach.trans {E : Nat → Nat → Prop} {a b c : Nat} (h : Reach E a b) (k : Reach E b c) : Reach E a c := by
  induction h with
  | refl => exact k
  | step e _ ih => exact .step e (ih k)
theorem Reach.one {E : Nat → Nat → Prop} {a b : Nat} (h : E a b) : Reach E a b := .step h (.refl _)
/-- What a matrix holds that is on the way to the closure. -/
structure Toward (E : Nat → Nat → Prop) (n : Nat) (M : Nat → Nat → Bool) : Prop where
  refl : ∀ r, r < n → M r r = true
  edge : ∀ r s, r < n → s < n → E r s → M r s = true
  sound : ∀ r s, r < n → s < n → M r s = true → Reach E r s
def updM (M : Nat → Nat → Bool) (i j : Nat) (b : Bool) : Nat → Nat → Bool := fun r s => if r = i ∧ s = j then b else M r s
theorem Toward.set {E : Nat → Nat → Prop} {n : Nat} {M : Nat → Nat → Bool} (h : Toward E n M) {i j : Nat} (hr : Reach E i j) : Toward E n (updM M i j true) where
  refl r hr' := by unfold updM; split; rfl; exact h.refl r hr'
  edge r s h1 h2 h3 := by unfold updM; split; rfl; exact h.edge r s h1 h2 h3
  sound r s h1 h2 h3 := by
    unfold updM at h3
    split at h3
    · rename_i e; rw [e.1, e.2]; exact hr
    · exact h.sound r s h1 h2 h3
/-- Closed: then it is the closure (all edges lie below n). -/
theorem Toward.closed {E : Nat → Nat → Prop} {n : Nat} {M : Nat → Nat → Bool} (h : Toward E n M) (hE : ∀ r s, E r s → r < n ∧ s < n) (hc : ∀ r s t, r < n → s < n → t < n → M r s = true → M s t = true → M r t = true) {r s : Nat} (hr : r < n) (hs : s < n) : M r s = true ↔ Reach E r s := by
  refine ⟨h.sound r s hr hs, fun hp => ?_⟩
  induction hp with
  | refl => exact h.refl _ hr
  | @step r m s e hp ih => exact hc r m s hr (hE _ _ e).2 hs (h.edge _ _ hr (hE _ _ e).2 e) (ih (hE _ _ e).2 hs)
/-- How many places are still empty. -/
def emptyM (n : Nat) (M : Nat → Nat → Bool) : Nat := ((List.range n).map fun r => ((List.range n).filter fun s => !M r s).length).sum
theorem sum_lt {l : List Nat} {f g : Nat → Nat} (hle : ∀ x ∈ l, f x ≤ g x) {i : Nat} (hi : i ∈ l) (hlt : f i < g i) : (l.map f).sum < (l.map g).sum := by
  have le : ∀ l : List Nat, (∀ x ∈ l, f x ≤ g x) → (l.map f).sum ≤ (l.map g).sum := by
    intro l hl
    induction l with
    | nil => simp
    | cons a r ih => simp only [List.map_cons, List.sum_cons]; have := hl a (by simp); have := ih (fun x hx => hl x (by simp [hx])); omega
  induction l with
  | nil => cases hi
  | cons a r ih =>
    simp only [List.map_cons, List.sum_cons]
    have h1 := hle a (by simp)
    have h2 := le r (fun x hx => hle x (by simp [hx]))
    rcases List.mem_cons.1 hi with rfl | h
    · omega
    · have := ih (fun x hx => hle x (by simp [hx])) h; omega
theorem filter_le {l : List Nat} {p q : Nat → Bool} (h : ∀ x, p x = true → q x = true) : (l.filter p).length ≤ (l.filter q).length := by
  induction l with
  | nil => simp
  | cons a r ih =>
    simp only [List.filter_cons]
    split
    · rename_i hp; rw [if_pos (h a hp)]; simp; exact ih
    · split
      · simp only [List.length_cons]; omega
      · exact ih
theorem filter_lt {l : List Nat} {p q : Nat → Bool} (h : ∀ x, p x = true → q x = true) {i : Nat} (hi : i ∈ l) (hp : p i = false) (hq : q i = true) : (l.filter p).length < (l.filter q).length := by
  induction l with
  | nil => cases hi
  | cons a r ih =>
    have hle := filter_le (l := r) h
    simp only [List.filter_cons]
    rcases List.mem_cons.1 hi with rfl | h'
    · rw [hp, hq]; simp; omega
    · have := ih h'
      split
      · rename_i hpa; rw [if_pos (h a hpa)]; simp; exact this
      · split
        · simp only [List.length_cons]; omega
        · exact this
theorem emptyM_set {n : Nat} {M : Nat → Nat → Bool} {i j : Nat} (hi : i < n) (hj : j < n) (h : M i j = false) : emptyM n (updM M i j true) < emptyM n M := by
  unfold emptyM
  have sub : ∀ r x, (!updM M i j true r x) = true → (!M r x) = true := by
    intro r x; unfold updM; split <;> simp
  exact sum_lt (fun r _ => filter_le (sub r)) (List.mem_range.2 hi) (filter_lt (sub i) (List.mem_range.2 hj) (by simp [updM]) (by simp [h]))
/-- Warshall, in place: behind the k-th outer round, M is all that the ways over numbers below k reach, and holds nothing that is not reached. -/
structure Warsh (E : Nat → Nat → Prop) (n k : Nat) (M : Nat → Nat → Bool) : Prop where
  t : Toward E n M
  via : ∀ r m s, r < n → s < n → m < k → m < n → M r m = true → M m s = true → M r s = true
theorem Warsh.next {E : Nat → Nat → Prop} {n k : Nat} {M : Nat → Nat → Bool} (h : Warsh E n k M) (hk : k < n) : Warsh E n (k + 1) (fun r s => M r s || M r k && M k s) where
  t :=
    { refl := fun r hr => by simp [h.t.refl r hr]
      edge := fun r s h1 h2 h3 => by simp [h.t.edge r s h1 h2 h3]
      sound := fun r s h1 h2 h3 => by
        simp only [Bool.or_eq_true, Bool.and_eq_true] at h3
        rcases h3 with h3 | ⟨h3, h4⟩
        · exact h.t.sound r s h1 h2 h3
        · exact (h.t.sound r k h1 hk h3).trans (h.t.sound k s hk h2 h4) }
  via := fun r m s hr hs hm hmn h1 h2 => by
    simp only [Bool.or_eq_true, Bool.and_eq_true] at h1 h2 ⊢
    have hkk := h.t.refl k hk
    by_cases e : m = k
    · subst e
      right
      exact ⟨by rcases h1 with h1 | h1; exact h1; exact h1.1, by rcases h2 with h2 | h2; exact h2; exact h2.2⟩
    · have hmk : m < k := by omega
      rcases h1 with h1 | ⟨h1, h1'⟩ <;> rcases h2 with h2 | ⟨h2, h2'⟩
      · exact .inl (h.via r m s hr hs hmk hmn h1 h2)
      · exact .inr ⟨h.via r m k hr hk hmk hmn h1 h2, h2'⟩
      · exact .inr ⟨h1, h.via k m s hk hs hmk hmn h1' h2⟩
      · exact .inr ⟨h1, h2'⟩
theorem Warsh.done {E : Nat → Nat → Prop} {n : Nat} {M : Nat → Nat → Bool} (h : Warsh E n n M) (hE : ∀ r s, E r s → r < n ∧ s < n) {r s : Nat} (hr : r < n) (hs : s < n) : M r s = true ↔ Reach E r s :=
  h.t.closed hE (fun r s t h1 h2 h3 h4 h5 => h.via r s t h1 h3 h2 h2 h4 h5) hr hs
theorem Toward.warsh {E : Nat → Nat → Prop} {n : Nat} {M : Nat → Nat → Bool} (h : Toward E n M) : Warsh E n 0 M := ⟨h, fun _ _ _ _ _ hm => absurd hm (Nat.not_lt_zero _)⟩
theorem Reach.mono {E E' : Nat → Nat → Prop} (hE : ∀ r s, E r s → E' r s) {a b : Nat} (h : Reach E a b) : Reach E' a b := by
  induction h with
  | refl => exact .refl _
  | step e _ ih => exact .step (hE _ _ e) ih
theorem Toward.add {E E' : Nat → Nat → Prop} {n : Nat} {M : Nat → Nat → Bool} (h : Toward E n M) {a b c d : Nat} (hE : ∀ r s, E' r s ↔ E r s ∨ (r = a ∧ s = b) ∨ (r = c ∧ s = d)) : Toward E' n (updM (updM M a b true) c d true) where
  refl r hr := by simp [updM, h.refl r hr]
  edge r s h1 h2 h3 := by
    rcases (hE r s).1 h3 with h4 | ⟨rfl, rfl⟩ | ⟨rfl, rfl⟩
    · simp [updM, h.edge r s h1 h2 h4]
    · simp [updM]
    · simp [updM]
  sound r s h1 h2 h3 := by
    unfold updM at h3
    split at h3
    · rename_i e; exact .one ((hE r s).2 (.inr (.inr e)))
    · split at h3
      · rename_i e; exact .one ((hE r s).2 (.inr (.inl e)))
      · exact (h.sound r s h1 h2 h3).mono (fun r s h => (hE r s).2 (.inl h))
end Go.Proofs.YthiclhbnggehoaaGreatDoor
