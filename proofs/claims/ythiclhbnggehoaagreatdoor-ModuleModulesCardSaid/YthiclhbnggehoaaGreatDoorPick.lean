/- kb.Of, kb.Pick: a knowledge base with one axiom of another one. -/
import Derived.Test.YthiclhbnggehoaaGreatDoorAdd
import Derived.Test.YthiclhbnggehoaaGreatDoorNamed
import Derived.Test.YthiclhbnggehoaaGreatDoorReads
namespace Go.Proofs.YthiclhbnggehoaaGreatDoor
open Go.RowKit
set_option linter.unusedVariables false
set_option linter.unusedSimpArgs false
theorem m_add_incl (v : Value) (w : World) : (method 319 162 v "isagoge/kb.add").run Tryz.prog w = .ok (166, v) w := by kernel_rfl
theorem a_add_incl (v : Value) (w : World) : (nilAhead 319 162 v "isagoge/kb.add").run Tryz.prog w = .ok (some false) w := by kernel_rfl
theorem m_add_role (v : Value) (w : World) : (method 319 163 v "isagoge/kb.add").run Tryz.prog w = .ok (169, v) w := by kernel_rfl
theorem a_add_role (v : Value) (w : World) : (nilAhead 319 163 v "isagoge/kb.add").run Tryz.prog w = .ok (some false) w := by kernel_rfl
theorem m_add_fact (v : Value) (w : World) : (method 319 164 v "isagoge/kb.add").run Tryz.prog w = .ok (171, v) w := by kernel_rfl
theorem a_add_fact (v : Value) (w : World) : (nilAhead 319 164 v "isagoge/kb.add").run Tryz.prog w = .ok (some false) w := by kernel_rfl
theorem m_add_link (v : Value) (w : World) : (method 319 165 v "isagoge/kb.add").run Tryz.prog w = .ok (173, v) w := by kernel_rfl
theorem a_add_link (v : Value) (w : World) : (nilAhead 319 165 v "isagoge/kb.add").run Tryz.prog w = .ok (some false) w := by kernel_rfl
/-- A knowledge base is returned, in new memory. -/
def RetKb (b : Kb) (w : World) (e : Ending) (w' : World) : Prop :=
  ∃ q : KbA, e = .returned (.agg #[.slice q.a0 b.cs.length q.c0, .slice q.a1 b.rs.length q.c1, .slice q.a2 b.is.length q.c2, .slice q.a3 b.incls.length q.c3, .slice q.a4 b.roles.length q.c4, .slice q.a5 b.facts.length q.c5, .slice q.a6 b.links.length q.c6]) ∧ KbR (fun k => w.heap.size ≤ k) w' b q ∧ Keeps (fun _ => False) w w'
/-- Where its names lie. -/
structure NamR (ok : Nat → Prop) (w : World) (b : Kb) (B0 B1 B2 : Option Addr) (d0 d1 d2 : Nat) : Prop where
  r0 : Row1 ok w Value.string b.cs B0
  r1 : Row1 ok w Value.string b.rs B1
  r2 : Row1 ok w Value.string b.is B2
  l0 : b.cs.length ≤ d0
  l1 : b.rs.length ≤ d1
  l2 : b.is.length ≤ d2
theorem NamR.keep {ok S : Nat → Prop} {w w' : World} {b : Kb} {B0 B1 B2 : Option Addr} {d0 d1 d2 : Nat} (h : NamR ok w b B0 B1 B2 d0 d1 d2) (hk : Keeps S w w') (hs : ∀ k, ok k → ¬ S k) : NamR ok w' b B0 B1 B2 d0 d1 d2 := ⟨h.r0.keep hk hs, h.r1.keep hk hs, h.r2.keep hk hs, h.l0, h.l1, h.l2⟩
theorem InclsR.mono {ok ok' : Nat → Prop} {w : World} {l : List (Con × Con)} {A : Option Addr} (h : InclsR ok w l A) (ho : ∀ k, ok k → ok' k) : InclsR ok' w l A := fun hl => by
  obtain ⟨b, o, e, hb, hc⟩ := h hl
  refine ⟨b, o, e, ho b hb, fun i hi => ?_⟩
  obtain ⟨A1, c1, A2, c2, h0, h1, h2, h3, h4, h5, h6, h7⟩ := hc i hi
  exact ⟨A1, c1, A2, c2, h0, h1, h2, h3, h4, h5, h6.mono ho, h7.mono ho⟩
theorem FactsR.mono {ok ok' : Nat → Prop} {w : World} {l : List (Int × Con)} {A : Option Addr} (h : FactsR ok w l A) (ho : ∀ k, ok k → ok' k) : FactsR ok' w l A := fun hl => by
  obtain ⟨b, o, e, hb, hc⟩ := h hl
  refine ⟨b, o, e, ho b hb, fun i hi => ?_⟩
  obtain ⟨A1, c1, h0, h1, h2, h3, h4⟩ := hc i hi
  exact ⟨A1, c1, h0, h1, h2, h3, h4.mono ho⟩
theorem RolesR.mono {ok ok' : Nat → Prop} {w : World} {l : List (Int × Int)} {A : Option Addr} (h : RolesR ok w l A) (ho : ∀ k, ok k → ok' k) : RolesR ok' w l A := fun hl => by
  obtain ⟨b, o, e, hb, hc⟩ := h hl; exact ⟨b, o, e, ho b hb, hc⟩
theorem LinksR.mono {ok ok' : Nat → Prop} {w : World} {l : List (Int × Int × Int)} {A : Option Addr} (h : LinksR ok w l A) (ho : ∀ k, ok k → ok' k) : LinksR ok' w l A := fun hl => by
  obtain ⟨b, o, e, hb, hc⟩ := h hl; exact ⟨b, o, e, ho b hb, hc⟩
theorem ownAt {w : World} {base e g n cap : Nat} {xs : List Value} (h : w.ownsRow base e 1 (.slice (some ⟨g, 0, none⟩) n cap) n xs) (k : Nat) (hk : k < xs.length) : w.cell? ⟨g, k, none⟩ = some xs[k] := by
  rcases h.2 with ⟨h0, _⟩ | ⟨g', c, cur, e1, hb, hh, hc, _, _, ht⟩
  · cases h0
  · simp only [Value.slice.injEq, Option.some.injEq, Addr.mk.injEq] at e1
    obtain ⟨⟨rfl, _, _⟩, _, rfl⟩ := e1
    rw [blkCell hh]
    have h2 : xs[k]? = cur.toList[k]? := by rw [← ht, List.getElem?_take_of_lt (by have := h.1; omega)]
    rw [List.getElem?_eq_getElem hk] at h2
    simpa using h2.symm
/-- What the walk of Of asks of an axiom. -/
def AxShape : Ax → Prop
  | .incl c d => shapeC c = true ∧ shapeC d = true
  | .role _ _ => True
  | .fact _ c => shapeC c = true
  | .link r _ _ => i64ok r
theorem kbR_one {ok : Nat → Prop} {w : World} {b : Kb} {B0 B1 B2 A3 A4 A5 A6 : Option Addr} {d0 d1 d2 d3 d4 d5 d6 : Nat} {x : Ax} (hn : NamR ok w b B0 B1 B2 d0 d1 d2) (hs : ∀ s ∈ b.cs ++ b.rs ++ b.is, s.size ≤ maxLen) (hx : AxShape x)
    (i : InclsR ok w (kbOf b [x]).incls A3) (r : RolesR ok w (kbOf b [x]).roles A4) (f : FactsR ok w (kbOf b [x]).facts A5) (l : LinksR ok w (kbOf b [x]).links A6) (h3 : (kbOf b [x]).incls.length ≤ d3) (h4 : (kbOf b [x]).roles.length ≤ d4) (h5 : (kbOf b [x]).facts.length ≤ d5) (h6 : (kbOf b [x]).links.length ≤ d6) :
    KbR ok w (kbOf b [x]) ⟨B0, B1, B2, A3, A4, A5, A6, d0, d1, d2, d3, d4, d5, d6⟩ where
  cs := hn.r0
  rs := hn.r1
  is := hn.r2
  incls := i
  roles := r
  facts := f
  links := l
  l0 := hn.l0
  l1 := hn.l1
  l2 := hn.l2
  l3 := h3
  l4 := h4
  l5 := h5
  l6 := h6
  strs := hs
  rng := fun y hy => by
    cases x with
    | link r f t => simp only [kbOf, List.filterMap_cons, Ax.link?, List.filterMap_nil, List.mem_singleton] at hy; subst hy; exact hx
    | incl c d => simp [kbOf, Ax.link?] at hy
    | role r s => simp [kbOf, Ax.link?] at hy
    | fact i c => simp [kbOf, Ax.link?] at hy
/-- The box in Of, ahead of the axiom and behind it. -/
def OfSt (b : Kb) (x : Ax) (base g : Nat) (n0 n1 n2 : Value) (k : Nat) (w0 w : World) : Prop :=
  Keeps (fun i => i = g) w0 w ∧ (k = 0 → w.heap[g]? = some (.cells (noAx n0 n1 n2) 30 (0, 0))) ∧
    (k = 1 → ∃ q : KbA, w.heap[g]? = some (.cells #[.slice q.a0 (kbOf b [x]).cs.length q.c0, .slice q.a1 (kbOf b [x]).rs.length q.c1, .slice q.a2 (kbOf b [x]).is.length q.c2, .slice q.a3 (kbOf b [x]).incls.length q.c3, .slice q.a4 (kbOf b [x]).roles.length q.c4, .slice q.a5 (kbOf b [x]).facts.length q.c5, .slice q.a6 (kbOf b [x]).links.length q.c6] 30 (0, 0)) ∧ KbR (fun i => base ≤ i ∧ i ≠ g) w (kbOf b [x]) q)
/-- Whatever axiom it is, add puts it in. -/
theorem addAx {ok : Nat → Prop} {b : Kb} {x : Ax} {v : Value} {base g : Nat} {B0 B1 B2 : Option Addr} {d0 d1 d2 : Nat} {w0 w : World} (hs : ∀ s ∈ b.cs ++ b.rs ++ b.is, s.size ≤ maxLen) (hx : AxShape x) (hv : AxR ok w x v) (hbg : base ≤ w.heap.size) (hn : NamR (fun i => base ≤ i ∧ i ≠ g) w b B0 B1 B2 d0 d1 d2)
    (ho : OfSt b x base g (.slice B0 b.cs.length d0) (.slice B1 b.rs.length d1) (.slice B2 b.is.length d2) 0 w0 w) :
    ∃ (T f : Nat) (u : Value), v = .iface T u ∧ (∀ W, (method 319 T u "isagoge/kb.add").run Tryz.prog W = .ok (f, u) W) ∧ (∀ W, (nilAhead 319 T u "isagoge/kb.add").run Tryz.prog W = .ok (some false) W) ∧ (∀ args W, (callFunc f args).run Tryz.prog W = .ok (.enter f args) W) ∧
      Calls Tryz.prog f #[u, .pointer (some ⟨g, 0, none⟩)] w fun e w' => (∃ u, e = .returned u) ∧ OfSt b x base g (.slice B0 b.cs.length d0) (.slice B1 b.rs.length d1) (.slice B2 b.is.length d2) 1 w0 w' := by
  obtain ⟨hk0, hz, -⟩ := ho
  have hg := hz rfl
  have hgl := blkLt hg
  cases x with
  | incl c d =>
    obtain ⟨A1, c1, A2, c2, rfl, r1, r2⟩ := hv
    refine ⟨_, _, _, rfl, fun W => m_add_incl _ W, fun W => a_add_incl _ W, enters_of Tryz.func166 (by kernel_rfl) rfl, (add_incl_calls c d A1 A2 c1 c2 ok g _ _ _ w hg hx.1 hx.2 r1 r2).mono ?_⟩
    rintro e w' ⟨he, h, cap, h1, h2, h3, hk⟩
    refine ⟨he, hk0.then_ hk, fun h => absurd h (by decide), fun _ => ⟨⟨B0, B1, B2, some ⟨h, 0, none⟩, none, none, none, d0, d1, d2, cap, 0, 0, 0⟩, h1, kbR_one (hn.keep hk (fun k hk => hk.2)) hs hx (h3.mono (fun k hk => ?_)) (fun h => absurd rfl h) (fun h => absurd rfl h) (fun h => absurd rfl h) h2 (Nat.le_refl _) (Nat.le_refl _) (Nat.le_refl _)⟩⟩
    exact ⟨by omega, by omega⟩
  | role r s =>
    obtain rfl := hv
    refine ⟨_, _, _, rfl, fun W => m_add_role _ W, fun W => a_add_role _ W, enters_of Tryz.func169 (by kernel_rfl) rfl, (add_role_calls r s g _ _ _ w hg).mono ?_⟩
    rintro e w' ⟨he, h, cap, h1, h2, h3, hk⟩
    refine ⟨he, hk0.then_ hk, fun h => absurd h (by decide), fun _ => ⟨⟨B0, B1, B2, none, some ⟨h, 0, none⟩, none, none, d0, d1, d2, 0, cap, 0, 0⟩, h1, kbR_one (hn.keep hk (fun k hk => hk.2)) hs hx (fun h => absurd rfl h) (h3.mono (fun k hk => ?_)) (fun h => absurd rfl h) (fun h => absurd rfl h) (Nat.le_refl _) h2 (Nat.le_refl _) (Nat.le_refl _)⟩⟩
    exact ⟨by omega, by omega⟩
  | fact i c =>
    obtain ⟨A1, c1, rfl, r1⟩ := hv
    refine ⟨_, _, _, rfl, fun W => m_add_fact _ W, fun W => a_add_fact _ W, enters_of Tryz.func171 (by kernel_rfl) rfl, (add_fact_calls i c A1 c1 ok g _ _ _ w hg hx r1).mono ?_⟩
    rintro e w' ⟨he, h, cap, h1, h2, h3, hk⟩
    refine ⟨he, hk0.then_ hk, fun h => absurd h (by decide), fun _ => ⟨⟨B0, B1, B2, none, none, some ⟨h, 0, none⟩, none, d0, d1, d2, 0, 0, cap, 0⟩, h1, kbR_one (hn.keep hk (fun k hk => hk.2)) hs hx (fun h => absurd rfl h) (fun h => absurd rfl h) (h3.mono (fun k hk => ?_)) (fun h => absurd rfl h) (Nat.le_refl _) (Nat.le_refl _) h2 (Nat.le_refl _)⟩⟩
    exact ⟨by omega, by omega⟩
  | link r f t =>
    obtain rfl := hv
    refine ⟨_, _, _, rfl, fun W => m_add_link _ W, fun W => a_add_link _ W, enters_of Tryz.func173 (by kernel_rfl) rfl, (add_link_calls r f t g _ _ _ w hg).mono ?_⟩
    rintro e w' ⟨he, h, cap, h1, h2, h3, hk⟩
    refine ⟨he, hk0.then_ hk, fun h => absurd h (by decide), fun _ => ⟨⟨B0, B1, B2, none, none, none, some ⟨h, 0, none⟩, d0, d1, d2, 0, 0, 0, cap⟩, h1, kbR_one (hn.keep hk (fun k hk => hk.2)) hs hx (fun h => absurd rfl h) (fun h => absurd rfl h) (fun h => absurd rfl h) (h3.mono (fun k hk => ?_)) (Nat.le_refl _) (Nat.le_refl _) (Nat.le_refl _) h2⟩⟩
    exact ⟨by omega, by omega⟩
set_option maxRecDepth 100000 in
set_option maxHeartbeats 4000000 in
theorem of1_calls (b : Kb) (x : Ax) (v : Value) (A0 A1 A2 : Option Addr) (c0 c1 c2 : Nat) (ok : Nat → Prop) (gl ol cl : Nat) (w : World) (hs : ∀ s ∈ b.cs ++ b.rs ++ b.is, s.size ≤ maxLen) (hn : NamR ok w b A0 A1 A2 c0 c1 c2) (hx : AxShape x) (hv : AxR ok w x v) (hok : ∀ k, ok k → k < w.heap.size) (hl : w.cell? ⟨gl, ol, none⟩ = some v) (n0 : b.cs.length ≤ 100000) (n1 : b.rs.length ≤ 100000) (n2 : b.is.length ≤ 100000) :
    Calls Tryz.prog 96 #[.agg #[.slice A0 b.cs.length c0, .slice A1 b.rs.length c1, .slice A2 b.is.length c2], .slice (some ⟨gl, ol, none⟩) 1 cl] w (RetKb (kbOf b [x]) w) := by
  have hgl := World.block_lt_of_cell? w _ hl
  have HNC := Lib.hid (fun W (hk : Keeps (fun _ => False) w W) => named_calls b.cs b.rs b.is ok A0 A1 A2 c0 c1 c2 W (hn.r0.keep hk (fun _ _ h => h)) (hn.r1.keep hk (fun _ _ h => h)) (hn.r2.keep hk (fun _ _ h => h)) n0 n1 n2)
  have HL := Lib.hid hl
  have HV := Lib.hid hv
  have HSS := Lib.hid hs
  have HX := Lib.hid hx
  clear hn hl hv hs hx n0 n1 n2
  have one1 : (0 : Int) < 1 := by decide
  go_enter Tryz.func96, Tryz.ntmps96
  go_wp2_with (go_at_call 105; refine (HNC.out _ (by repeat (first | exact Keeps.refl _ _ | refine Keeps.drewN ?_ _ | refine Keeps.drew ?_ | refine Keeps.alloc ?_ _ | refine Keeps.set ?_ (Or.inl (by rfl)) _))).mono ?_; clear HNC; rintro e w2 ⟨B0, B1, B2, d0, d1, d2, rfl, ⟨hd0, hd1, hd2⟩, q0, q1, q2, hk2⟩; have HK2 := Lib.hid (Keeps.then_ (a := w) (by repeat (first | exact Keeps.refl _ _ | refine Keeps.drewN ?_ _ | refine Keeps.drew ?_ | refine Keeps.alloc ?_ _ | refine Keeps.set ?_ (Or.inl (by rfl)) _)) hk2); have HQ := Lib.hid (And.intro q0 (And.intro q1 q2)); have hb2 := hk2.blk (blkNew (w := w.alloc _) rfl) (fun h => h); have HB2 := Lib.hid hb2; have hlt2 := blkLt hb2; have hz2 := hk2.size; clear q0 q1 q2 hk2 hb2)
  have hz2' : w.heap.size + 2 ≤ w2.heap.size := by simpa using hz2
  generalize hW3 : World.alloc _ _ = W3
  have hb3 : W3.heap[w2.heap.size]? = some (.cells (noAx (.slice B0 b.cs.length d0) (.slice B1 b.rs.length d1) (.slice B2 b.is.length d2)) 30 (0, 0)) := by rw [← hW3]; exact blkNew rfl
  have hk3 : Keeps (fun _ => False) w2 W3 := by rw [← hW3]; repeat (first | exact Keeps.refl _ _ | refine Keeps.drewN ?_ _ | refine Keeps.drew ?_ | refine Keeps.alloc ?_ _ | refine Keeps.set ?_ (Or.inl (by rfl)) _)
  have hz3 : W3.heap.size = w2.heap.size + 1 := by rw [← hW3]; simp
  clear hW3 hz2 hlt2
  have hnam : NamR (fun i => w.heap.size + 2 ≤ i ∧ i ≠ w2.heap.size) W3 b B0 B1 B2 d0 d1 d2 :=
    { r0 := (HQ.out.1.lim.mono (fun k hk => by have h1 := hk.1; have h2 := hk.2; simp at h1; omega)).keep hk3 (fun _ _ h => h)
      r1 := (HQ.out.2.1.lim.mono (fun k hk => by have h1 := hk.1; have h2 := hk.2; simp at h1; omega)).keep hk3 (fun _ _ h => h)
      r2 := (HQ.out.2.2.lim.mono (fun k hk => by have h1 := hk.1; have h2 := hk.2; simp at h1; omega)).keep hk3 (fun _ _ h => h)
      l0 := hd0, l1 := hd1, l2 := hd2 }
  have HNM := Lib.hid hnam
  have HB3 := Lib.hid hb3
  have HK3 := Lib.hid (HK2.out.then_ hk3)
  have hbt : W3.heap[w.heap.size + 1]? = some (.cells #[.slice none 0 0, .slice none 0 0, .slice none 0 0, .slice none 0 0, .slice none 0 0, .slice none 0 0, .slice none 0 0] 30 (0, 0)) := hk3.blk (by have h := HB2.out; simp at h; exact h) (fun h => h)
  have HBT := Lib.hid hbt
  clear hb3 hk3 hnam hbt HQ HB2
  go_loopw [12] (fun i wr => ∃ k : Nat, k ≤ 1 ∧ i = .int .i64 k ∧ Hid (OfSt b x (w.heap.size + 2) w2.heap.size (.slice B0 b.cs.length d0) (.slice B1 b.rs.length d1) (.slice B2 b.is.length d2) k W3 wr)) (fun i _ => 1 - (intOf i).toNat)
  case atStart => exact ⟨0, by omega, rfl, ⟨Keeps.refl _ _, fun _ => HB3.out, fun h => absurd h (by decide)⟩⟩
  case round =>
    obtain ⟨k, hk, rfl, HS⟩ := hrel
    have hks := HS.out.1
    by_cases hlt : k < 1
    · obtain rfl : k = 0 := by omega
      obtain ⟨T, f, u, rfl, m1, m2, eg, hc⟩ := addAx (ok := ok) HSS.out HX.out (HV.out.keep (HK3.out.of0.then_ hks) (fun k hk e => by have := hok k hk; omega)) (by have := hks.size; omega) (HNM.out.keep hks (fun k hk => hk.2)) HS.out
      have l1 : wr.cell? ⟨gl, ol, none⟩ = some (.iface T u) := hks.cell (HK3.out.cell HL.out (fun h => h)) (by omega)
      have HC := Lib.hid hc
      clear hc hks
      go_wp2_with (go_at_fn f; refine HC.out.mono ?_; rintro e w5 ⟨⟨z, rfl⟩, hst⟩)
      go_roundw
      case rel => exact ⟨1, by omega, by go_num, hst⟩
      case measure => simp [intOf]
    · obtain rfl : k = 1 := by omega
      obtain ⟨q, hb, hkb⟩ := HS.out.2.2 rfl
      obtain ⟨x0, x1, x2, x3, x4, x5, x6⟩ := cells7 hb
      have hbt := hks.blk HBT.out (by omega)
      obtain ⟨k0, k1, k2, k3, k4, k5, k6⟩ := cells7 hbt
      have f0 := blkFree hbt 0
      have f1 := blkFree hbt 1
      have f2 := blkFree hbt 2
      have f3 := blkFree hbt 3
      have f4 := blkFree hbt 4
      have f5 := blkFree hbt 5
      have f6 := blkFree hbt 6
      have hbl := blkLt hbt
      have HBX := Lib.hid hbt
      have HKB := Lib.hid hkb
      have HKS := Lib.hid hks
      have hgl2 := blkLt hb
      clear hbt hkb hks hb
      go_wp2_with fail
      generalize hW8 : World.setCell _ _ _ = W8
      have hK8 : Keeps (fun i => i = w.heap.size + 1) wr W8 := by rw [← hW8]; exact keeps7s (Keeps.refl _ _) _ _ _ _ _ _ _
      have hb8 := blkSet7 HBX.out (.slice q.a0 (kbOf b [x]).cs.length q.c0) (.slice q.a1 (kbOf b [x]).rs.length q.c1) (.slice q.a2 (kbOf b [x]).is.length q.c2) (.slice q.a3 (kbOf b [x]).incls.length q.c3) (.slice q.a4 (kbOf b [x]).roles.length q.c4) (.slice q.a5 (kbOf b [x]).facts.length q.c5) (.slice q.a6 (kbOf b [x]).links.length q.c6)
      rw [hW8] at hb8
      clear hW8 k0 k1 k2 k3 k4 k5 k6
      have HF := Lib.hid (And.intro ((HKB.out.keep hK8 (fun k hk e => by have := hk.1; omega)).mono (ok' := fun k => w.heap.size ≤ k) (fun k hk => by have := hk.1; omega)) ((HK3.out.trans HKS.out (fun i hi => .inr (by omega))).trans hK8 (fun i hi => .inr (by omega))))
      · obtain ⟨t0, t1, t2, t3, t4, t5, t6⟩ := cells7 hb8
        refine bodyPost_ret (v := .agg #[.slice q.a0 (kbOf b [x]).cs.length q.c0, .slice q.a1 (kbOf b [x]).rs.length q.c1, .slice q.a2 (kbOf b [x]).is.length q.c2, .slice q.a3 (kbOf b [x]).incls.length q.c3, .slice q.a4 (kbOf b [x]).roles.length q.c4, .slice q.a5 (kbOf b [x]).facts.length q.c5, .slice q.a6 (kbOf b [x]).links.length q.c6]) (by simp [results, Tryz.results96, go_sem, t0, t1, t2, t3, t4, t5, t6]) rfl ?_
        exact ⟨q, rfl, HF.out.1, HF.out.2⟩
set_option maxRecDepth 100000 in
set_option maxHeartbeats 4000000 in
theorem pick1_calls (b : Kb) (p : KbA) (k : Nat) (A : Option Addr) (cl : Nat) (ok : Nat → Prop) (w : World) (hb : KbR ok w b p) (hok : ∀ k, ok k → k < w.heap.size) (hk : k < kbCount b) (hx : AxShape (axAt b k)) (hl : Row1 ok w (Value.int .i64) [(k : Int)] A) (hl1 : b.incls.length ≤ 100000) (hl2 : b.roles.length ≤ 100000) (hl3 : b.facts.length ≤ 100000) (hl4 : b.links.length ≤ 100000) (n0 : b.cs.length ≤ 100000) (n1 : b.rs.length ≤ 100000) (n2 : b.is.length ≤ 100000) :
    Calls Tryz.prog 74 #[.agg #[.slice p.a0 b.cs.length p.c0, .slice p.a1 b.rs.length p.c1, .slice p.a2 b.is.length p.c2, .slice p.a3 b.incls.length p.c3, .slice p.a4 b.roles.length p.c4, .slice p.a5 b.facts.length p.c5, .slice p.a6 b.links.length p.c6], .slice A 1 cl] w (RetKb (kbOf b [axAt b k]) w) := by
  obtain ⟨ga, oa, rfl, hga, hca⟩ := hl (by simp)
  have hc0 : w.cell? ⟨ga, oa, none⟩ = some (.int .i64 k) := by have := hca 0 (by simp); simpa using this
  clear hca hl
  have HB := Lib.hid hb
  have HALL : Hid (∀ W, Keeps (fun _ => False) w W → Calls Tryz.prog 95 #[.agg #[.slice p.a0 b.cs.length p.c0, .slice p.a1 b.rs.length p.c1, .slice p.a2 b.is.length p.c2, .slice p.a3 b.incls.length p.c3, .slice p.a4 b.roles.length p.c4, .slice p.a5 b.facts.length p.c5, .slice p.a6 b.links.length p.c6]] W fun e w' => ∃ v, e = .returned v ∧ OwnAx ok w' W.heap.size v (axs b) ∧ Keeps (fun _ => False) W w') :=
    fun W h => all_calls b p ok W (hb.keep h (fun _ _ h => h)) (fun k hk => Nat.lt_of_lt_of_le (hok k hk) h.size) hl1 hl2 hl3 hl4
  have hlen := axs_len b
  have hkk : k < (axs b).length := by rw [hlen]; exact hk
  have hat : axAt b k = (axs b)[k] := by unfold axAt; simp [List.getD, hkk]
  have hbig : (axs b).length ≤ 400000 := by rw [hlen]; unfold kbCount; omega
  clear hb hlen
  have HX := Lib.hid hx
  have HAT := Lib.hid hat
  have HOF : Hid (∀ W v gl ol cl, Keeps (fun _ => False) w W → AxR ok W (axAt b k) v → W.cell? ⟨gl, ol, none⟩ = some v → Calls Tryz.prog 96 #[.agg #[.slice p.a0 b.cs.length p.c0, .slice p.a1 b.rs.length p.c1, .slice p.a2 b.is.length p.c2], .slice (some ⟨gl, ol, none⟩) 1 cl] W (RetKb (kbOf b [axAt b k]) W)) :=
    fun W v gl ol cl h hv hc => of1_calls b (axAt b k) v p.a0 p.a1 p.a2 p.c0 p.c1 p.c2 ok gl ol cl W HB.out.strs ⟨HB.out.cs.keep h (fun _ _ h => h), HB.out.rs.keep h (fun _ _ h => h), HB.out.is.keep h (fun _ _ h => h), HB.out.l0, HB.out.l1, HB.out.l2⟩ hx hv (fun k hk => Nat.lt_of_lt_of_le (hok k hk) h.size) hc n0 n1 n2
  clear hx hat n0 n1 n2 hl1 hl2 hl3 hl4
  generalize axAt b k = x at *
  have hgal : ga < w.heap.size := hok ga hga
  obtain ⟨a0, a1, a2, a3, a4, a5, a6, c0, c1, c2, c3, c4, c5, c6⟩ := p
  simp only at HALL HOF ⊢
  have k0 : (0 : Int) ≤ (k : Int) := by omega
  have k1 : (k : Int) < (axs b).length := by omega
  generalize axs b = L at *
  go_enter Tryz.func74, Tryz.ntmps74
  go_wp2_with (go_at_call 95; refine (HALL.out _ (by repeat (first | exact Keeps.refl _ _ | refine Keeps.drewN ?_ _ | refine Keeps.drew ?_ | refine Keeps.alloc ?_ _ | refine Keeps.set ?_ (Or.inl (by rfl)) _))).mono ?_; clear HALL; rintro e w2 ⟨v, rfl, ⟨vals, ho, hxs⟩, hk2⟩; have HK2 := Lib.hid (Keeps.then_ (a := w) (by repeat (first | exact Keeps.refl _ _ | refine Keeps.drewN ?_ _ | refine Keeps.drew ?_ | refine Keeps.alloc ?_ _ | refine Keeps.set ?_ (Or.inl (by rfl)) _)) hk2); have hb2 := hk2.blk (blkNew (w := w.alloc _) rfl) (fun h => h); have HB2 := Lib.hid hb2; have hb1 := hk2.blk (blkAlloc (blkNew (w := w) rfl) _) (fun h => h); have HB1 := Lib.hid hb1; have hz2 := hk2.size; have HO := Lib.hid ho; have HXS := Lib.hid hxs; clear hk2 hb2 hb1 ho hxs)
  have hz2' : w.heap.size + 2 ≤ w2.heap.size := by simpa using hz2
  obtain ⟨gA, capA, rfl, hcA, hgA, hgAl⟩ := ownSlice HO.out (by omega)
  have hvl := HXS.out.1
  have hcK := ownAt HO.out k (by omega)
  have haK := HXS.out.2 k (by omega) (by omega)
  rw [← HAT.out] at haK
  have HAK := Lib.hid haK
  generalize vals[k] = vk at *
  obtain ⟨T, uk, rfl⟩ : ∃ T u, vk = .iface T u := by
    have h := HAK.out
    cases x with
    | incl c d => obtain ⟨_, _, _, _, rfl, _⟩ := h; exact ⟨_, _, rfl⟩
    | role r s => obtain rfl := h; exact ⟨_, _, rfl⟩
    | fact i c => obtain ⟨_, _, rfl, _⟩ := h; exact ⟨_, _, rfl⟩
    | link r f t => obtain rfl := h; exact ⟨_, _, rfl⟩
  have HCK := Lib.hid hcK
  have HB2' : Hid (w2.heap[w.heap.size + 1]? = some (.cells #[.slice none 0 0, .slice none 0 0, .slice none 0 0, .slice none 0 0, .slice none 0 0, .slice none 0 0, .slice none 0 0] 30 (0, 0))) := Lib.hid (by have h := HB2.out; simp at h; exact h)
  clear HB2
  have HB2 := HB2'
  clear HB2' haK hcK hz2 HO HXS HAT
  go_loopw [6, 13] (fun v i wr => ∃ j : Nat, j ≤ 1 ∧ i = .int .i64 j ∧ Hid (OwnAx ok wr w2.heap.size v ([x].take j)) ∧ Hid (Keeps (fun _ => False) w2 wr)) (fun _ i _ => 1 - (intOf i).toNat)
  case atStart => exact ⟨0, by omega, rfl, OwnAx.nil _ _ _, Keeps.refl _ _⟩
  case round =>
    obtain ⟨j, hj, rfl, HO3, HK⟩ := hrel
    have hzr := HK.out.size
    by_cases hlt : j < 1
    · obtain rfl : j = 0 := by omega
      have l0 : wr.cell? ⟨ga, oa, none⟩ = some (.int .i64 k) := HK.out.cell (HK2.out.cell hc0 (fun h => h)) (fun h => h)
      have l1 : wr.cell? ⟨gA, k, none⟩ = some (.iface T uk) := HK.out.cell HCK.out (fun h => h)
      obtain ⟨vs, ho, hx⟩ := HO3.out
      have HVL := Lib.hid ho.lt
      have HOW := Lib.hid ho
      have HXR := Lib.hid hx
      clear ho hx HO3
      go_wp2_with (at_builtin; refine wp_app1 rfl _ _ 146 146 rfl w2.heap.size 149 .nilIface 1 16 Tryz.underlying146 infoAx rfl (by decide) (by decide) u6 ([x].take 0).length vs (ownsKeep (S := fun _ => False) HOW.out (by repeat (first | exact Keeps.refl _ _ | refine Keeps.drewN ?_ _ | refine Keeps.drew ?_ | refine Keeps.alloc ?_ _ | refine Keeps.set ?_ (Or.inl (by rfl)) _)) (fun _ _ h => h)) rfl _ 1 [.iface T uk] (Src.ofBlock Tryz.underlying146 (cs := #[.iface T uk]) (blkNew (by first | rfl | simp)) rfl (by simp [Value.oneCell'])) rfl (by decide) (by simp) (by simp; omega) ?_; intro g cap w5 ho hk5 hat hcap hlt5)
      go_roundw
      case rel =>
        have hkk := hk5.upto (a := wr) (by repeat (first | exact Keeps.refl _ _ | refine Keeps.drewN ?_ _ | refine Keeps.drew ?_ | refine Keeps.alloc ?_ _ | refine Keeps.set ?_ (Or.inl (by rfl)) _))
        have hoa := OwnAx.app (ok := ok) (HXR.out.keep hkk (fun _ _ h => h)) (fun k hk => by have := hok k hk; omega) (fun k hk => (HVL.out k hk).1) (x := x) ((HAK.out.keep HK.out (fun _ _ h => h)).keep hkk (fun _ _ h => h)) ho hk5
        exact ⟨1, by omega, by go_num, hoa, (HK.out.then_ hkk).trans hk5 (fun i hi => .inr (by have := (HVL.out i hi).1; omega))⟩
      case measure => simp [intOf]
    · obtain rfl : j = 1 := by omega
      obtain ⟨x0, x1, x2, x3, x4, x5, x6⟩ := cells7 (HK.out.blk HB1.out (fun h => h))
      obtain ⟨vs, ho, hxs⟩ := HO3.out
      obtain ⟨h, cap, rfl, hcap, hge, hhl⟩ := ownSlice ho (by simp)
      have hv1 := hxs.1
      obtain ⟨u, rfl⟩ := List.length_eq_one_iff.1 (by simpa using hv1 : vs.length = 1)
      have hc1 : wr.cell? ⟨h, 0, none⟩ = some u := ownAt ho 0 (by simp)
      have hax : AxR ok wr x u := hxs.2 0 (by simp) (by simp)
      have HU := Lib.hid hax
      have HC := Lib.hid hc1
      have HKK := Lib.hid (HK2.out.then_ HK.out)
      have hbt := HK.out.blk HB2.out (fun h => h)
      have HBX := Lib.hid hbt
      have HKR := Lib.hid HK.out
      clear hax hc1 hxs ho hbt HO3
      go_wp2_with (go_at_call 96; refine (HOF.out _ u h 0 cap HKK.out HU.out HC.out).mono ?_; clear HOF; rintro e w5 ⟨q, rfl, hkb, hk5⟩; have hbt := hk5.blk HBX.out (fun h => h); have f0 := blkFree hbt 0; have f1 := blkFree hbt 1; have f2 := blkFree hbt 2; have f3 := blkFree hbt 3; have f4 := blkFree hbt 4; have f5 := blkFree hbt 5; have f6 := blkFree hbt 6; obtain ⟨k0, k1, k2, k3, k4, k5, k6⟩ := cells7 hbt; have hbl := blkLt hbt; have HBX5 := Lib.hid hbt; have HKB := Lib.hid hkb; have HK5 := Lib.hid hk5; clear hbt hkb hk5 x0 x1 x2 x3 x4 x5 x6)
      generalize hW8 : World.setCell _ _ _ = W8
      have hK8 : Keeps (fun i => i = w.heap.size + 1) w5 W8 := by rw [← hW8]; exact keeps7s (Keeps.refl _ _) _ _ _ _ _ _ _
      have hb8 := blkSet7 HBX5.out (.slice q.a0 (kbOf b [x]).cs.length q.c0) (.slice q.a1 (kbOf b [x]).rs.length q.c1) (.slice q.a2 (kbOf b [x]).is.length q.c2) (.slice q.a3 (kbOf b [x]).incls.length q.c3) (.slice q.a4 (kbOf b [x]).roles.length q.c4) (.slice q.a5 (kbOf b [x]).facts.length q.c5) (.slice q.a6 (kbOf b [x]).links.length q.c6)
      rw [hW8] at hb8
      clear hW8 k0 k1 k2 k3 k4 k5 k6
      have hzr := HKK.out.size
      have hzq := HKR.out.size
      have HF := Lib.hid (And.intro ((HKB.out.keep hK8 (fun k hk e => by omega)).mono (ok' := fun k => w.heap.size ≤ k) (fun k hk => by omega)) ((HKK.out.then_ HK5.out).trans hK8 (fun i hi => .inr (by omega))))
      obtain ⟨t0, t1, t2, t3, t4, t5, t6⟩ := cells7 hb8
      refine bodyPost_ret (v := .agg #[.slice q.a0 (kbOf b [x]).cs.length q.c0, .slice q.a1 (kbOf b [x]).rs.length q.c1, .slice q.a2 (kbOf b [x]).is.length q.c2, .slice q.a3 (kbOf b [x]).incls.length q.c3, .slice q.a4 (kbOf b [x]).roles.length q.c4, .slice q.a5 (kbOf b [x]).facts.length q.c5, .slice q.a6 (kbOf b [x]).links.length q.c6]) (by simp [results, Tryz.results74, go_sem, t0, t1, t2, t3, t4, t5, t6]) rfl ?_
      exact ⟨q, rfl, HF.out.1, HF.out.2⟩
end Go.Proofs.YthiclhbnggehoaaGreatDoor
