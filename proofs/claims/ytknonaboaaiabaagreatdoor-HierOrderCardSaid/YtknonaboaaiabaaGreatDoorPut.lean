/- What the closure in hier.NewSpace computes: a mark is laid behind the others, unless its text is there. -/
import Derived.Test.YtknonaboaaiabaaGreatDoorTrue
import Derived.Test.YtknonaboaaiabaaGreatDoorCopied
import Derived.Test.YtknonaboaaiabaaGreatDoorMark
namespace Go.Proofs.YtknonaboaaiabaaGreatDoor
open Go.RowKit
set_option linter.unusedVariables false
set_option linter.unusedSimpArgs false
/-- The strings of some marks, with their numbers. -/
def plOf (cs rs : List ByteArray) (ms : List Con) : List (ByteArray × Int) := ms.zipIdx.map fun x => (textC cs rs x.1, (x.2 : Int))
theorem plOf_snoc (cs rs : List ByteArray) (ms : List Con) (c : Con) : plOf cs rs (ms ++ [c]) = plOf cs rs ms ++ [(textC cs rs c, (ms.length : Int))] := by
  simp [plOf, List.zipIdx_append]
def putM (cs rs : List ByteArray) (ms : List Con) (c : Con) : List Con := if seenP (plOf cs rs ms) (textC cs rs c) then ms else ms ++ [c]
theorem ownsSet3 {w : World} {base e g n cap : Nat} {cells : List Value} {z0 z1 z2 : Value} (v0 v1 v2 : Value) (h : w.ownsRow base e 3 (.slice (some ⟨g, 0, none⟩) (n + 1) cap) (n + 1) (cells ++ [z0, z1, z2])) (hl : cells.length = n * 3) :
    (((w.setCell ⟨g, n * 3, none⟩ v0).setCell ⟨g, n * 3 + 1, none⟩ v1).setCell ⟨g, n * 3 + 2, none⟩ v2).ownsRow base e 3 (.slice (some ⟨g, 0, none⟩) (n + 1) cap) (n + 1) (cells ++ [v0, v1, v2]) := by
  rcases h.2 with ⟨h, _⟩ | ⟨g', cap', cur, e1, hb, hg, h1, h2, h3, h4⟩
  · cases h
  · simp only [Value.slice.injEq, Option.some.injEq, Addr.mk.injEq, and_true, true_and] at e1
    obtain ⟨rfl, rfl⟩ := e1
    obtain ⟨cur', k1, k2, k3⟩ := setMany [v0, v1, v2] (n * 3) w cur hg (by rw [h3]; simp; omega)
    refine ⟨by simp [hl, Nat.add_mul], .inr ⟨g, cap, cur', rfl, hb, k1, h1, h2, by rw [k2]; exact h3, ?_⟩⟩
    have h5 : cur.toList.take (n * 3) = cells := by
      have := congrArg (List.take (n * 3)) h4
      rw [List.take_take, Nat.min_eq_left (by omega), List.take_left' hl] at this
      exact this
    rw [show (n + 1) * 3 = n * 3 + [v0, v1, v2].length by simp; omega, k3, h5]
theorem OwnCons.slice {w : World} {base : Nat} {v : Value} {l : List Con} (h : OwnCons w base v l) : ∃ A cap, v = .slice A l.length cap ∧ l.length ≤ cap := by
  obtain ⟨cells, h1, _⟩ := h
  rcases h1.2 with ⟨rfl, h0⟩ | ⟨g, cap, cur, rfl, _, _, hc, _⟩
  · exact ⟨none, 0, by rw [h0], by omega⟩
  · exact ⟨_, cap, rfl, hc⟩
/-- The marks so far: the Space in block g, what leads to it, and the row of its marks. -/
structure MarkR (w : World) (base B S g m : Nat) (b : Kb) (p : KbA) (ms : List Con) (mv : Value) : Prop where
  bbox : w.heap[B]? = some (.cells #[.slice p.a0 b.cs.length p.c0, .slice p.a1 b.rs.length p.c1, .slice p.a2 b.is.length p.c2, .slice p.a3 b.incls.length p.c3, .slice p.a4 b.roles.length p.c4, .slice p.a5 b.facts.length p.c5, .slice p.a6 b.links.length p.c6] 30 (0, 0))
  sbox : w.heap[S]? = some (.cells #[.pointer (some ⟨g, 0, none⟩)] 191 (0, 0))
  sp : SpaceR w g b p mv m (plOf b.cs b.rs ms)
  row : OwnCons w base mv ms
theorem MarkR.keep {Z : Nat → Prop} {w w' : World} {base B S g m : Nat} {b : Kb} {p : KbA} {ms : List Con} {mv : Value} (h : MarkR w base B S g m b p ms mv) (hk : Keeps Z w w') (h1 : ¬ Z B) (h2 : ¬ Z S) (h3 : ¬ Z g) (h4 : ¬ Z m) (h5 : ∀ k, base ≤ k → ¬ Z k) : MarkR w' base B S g m b p ms mv :=
  ⟨hk.blk h.bbox h1, hk.blk h.sbox h2, h.sp.keep hk h3 h4, h.row.keep hk h5⟩
theorem OwnCons.appS {w w' : World} {base : Nat} {v : Value} {l : List Con} {cells : List Value} (h : OwnCons w base v l) {c : Con} {v0 v1 v2 : Value} (hcells : w.ownsRow base 94 3 v l.length cells) {Z : Nat → Prop}
    (hc : ConR (fun b => base ≤ b ∧ v.ownBlock ≠ some b) w c [v0, v1, v2]) {g cap : Nat} (ho : w'.ownsRow base 94 3 (.slice (some ⟨g, 0, none⟩) (l.length + 1) cap) (l.length + 1) (cells ++ [v0, v1, v2])) (hk : Keeps Z w w') (hZ : ∀ k, base ≤ k → Z k → v.ownBlock = some k)
    (hat : v.ownBlock = some g ∨ g = w.heap.size) : OwnCons w' base (.slice (some ⟨g, 0, none⟩) (l.length + 1) cap) (l ++ [c]) := by
  obtain ⟨cells', h1, h2⟩ := h
  have e : cells' = cells := by
    rcases h1.2 with ⟨rfl, h0⟩ | ⟨g1, cap1, cur1, rfl, _, hh1, _, _, _, ht1⟩
    · have a1 := h1.1; have a2 := hcells.1; rw [h0] at a1 a2; simp at a1 a2; rw [a1, a2]
    · rcases hcells.2 with ⟨h, _⟩ | ⟨g2, cap2, cur2, e2, _, hh2, _, _, _, ht2⟩
      · cases h
      · simp only [Value.slice.injEq, Option.some.injEq, Addr.mk.injEq] at e2
        obtain ⟨⟨rfl, _, _⟩, _, _⟩ := e2
        rw [hh1] at hh2; cases hh2; rw [← ht1, ← ht2]
  subst e
  have hlen := h1.1
  have move : ∀ {c : Con} {cs : List Value}, ConR (fun b => base ≤ b ∧ v.ownBlock ≠ some b) w c cs → ConR (fun b => base ≤ b ∧ (Value.slice (some ⟨g, 0, none⟩) (l.length + 1) cap).ownBlock ≠ some b) w' c cs := fun hc =>
    (hc.lim.keep hk (fun k hk1 hZk => hk1.1.2 (hZ k hk1.1.1 hZk))).mono (fun k hk => ⟨hk.1.1, fun e => by
      simp only [Value.ownBlock, Option.some.injEq] at e
      rcases hat with h | h
      · exact hk.1.2 (by rw [h, e])
      · have := hk.2; omega⟩)
  refine ⟨cells' ++ [v0, v1, v2], by simpa using ho, fun i hi => ?_⟩
  by_cases hl : i < l.length
  · obtain ⟨u0, u1, u2, e0, e1, e2, hc⟩ := h2 i hl
    refine ⟨u0, u1, u2, ?_, ?_, ?_, ?_⟩
    · rw [List.getElem?_append_left (by omega)]; exact e0
    · rw [List.getElem?_append_left (by omega)]; exact e1
    · rw [List.getElem?_append_left (by omega)]; exact e2
    · rw [List.getElem_append_left hl]; exact move hc
  · simp only [List.length_append, List.length_singleton] at hi
    obtain rfl : i = l.length := by omega
    refine ⟨v0, v1, v2, ?_, ?_, ?_, ?_⟩
    · rw [List.getElem?_append_right (by omega)]; simp [hlen]
    · rw [List.getElem?_append_right (by omega)]; simp [hlen]
    · rw [List.getElem?_append_right (by omega)]; simp [hlen]
    · rw [List.getElem_append_right (by omega)]; simpa using move hc
theorem put_done {base B S g m : Nat} {b : Kb} {p : KbA} {ms : List Con} {c : Con} {A7 : Option Addr} {cap7 : Nat} {w1 Wa W7 : World} {cells : List Value} {v0 v1 v2 : Value} {g5 cap5 : Nat} (hm : MarkR w1 base B S g m b p ms (.slice A7 ms.length cap7))
    (hlt : B < base ∧ S < base ∧ g < base ∧ m < base) (hne : g ≠ m ∧ B ≠ g ∧ B ≠ m ∧ S ≠ g ∧ S ≠ m) (hbase : base ≤ w1.heap.size) (hka : Keeps (fun k => k = m) w1 Wa) (hma : MapL Wa m Value.string (Value.int .i64) (plOf b.cs b.rs (ms ++ [c])))
    (how : Wa.ownsRow base 94 3 (.slice A7 ms.length cap7) ms.length cells) (hc : ConR (fun k => base ≤ k ∧ (Value.slice A7 ms.length cap7).ownBlock ≠ some k) w1 c [v0, v1, v2])
    (hk7 : Keeps (fun k => k = g ∨ (Value.slice A7 ms.length cap7).ownBlock = some k) Wa W7) (ho7 : W7.ownsRow base 94 3 (.slice (some ⟨g5, 0, none⟩) (ms.length + 1) cap5) (ms.length + 1) (cells ++ [v0, v1, v2])) (hat : (Value.slice A7 ms.length cap7).ownBlock = some g5 ∨ g5 = Wa.heap.size)
    (hg7 : W7.heap[g]? = some (.cells #[.slice p.a0 b.cs.length p.c0, .slice p.a1 b.rs.length p.c1, .slice p.a2 b.is.length p.c2, .slice p.a3 b.incls.length p.c3, .slice p.a4 b.roles.length p.c4, .slice p.a5 b.facts.length p.c5, .slice p.a6 b.links.length p.c6, .slice (some ⟨g5, 0, none⟩) (ms.length + 1) cap5, .map (some m)] 196 (0, 0))) :
    ∃ mv', MarkR W7 base B S g m b p (ms ++ [c]) mv' ∧ Keeps (fun k => k = g ∨ k = m ∨ (Value.slice A7 ms.length cap7).ownBlock = some k) w1 W7 ∧ (∀ k, mv'.ownBlock = some k → (Value.slice A7 ms.length cap7).ownBlock = some k ∨ w1.heap.size ≤ k) := by
  obtain ⟨l1, l2, l3, l4⟩ := hlt
  obtain ⟨n1, n2, n3, n4, n5⟩ := hne
  have hown : ∀ k, (Value.slice A7 ms.length cap7).ownBlock = some k → base ≤ k := fun k hk => (how.lt k hk).1
  have hKT : Keeps (fun k => k = g ∨ k = m ∨ (Value.slice A7 ms.length cap7).ownBlock = some k) w1 W7 :=
    (hka.sub (fun i hi => .inr (.inl hi))).trans hk7 (fun i hi => .inl (by rcases hi with h | h; exact .inl h; exact .inr (.inr h)))
  have hz : ∀ k, k < base → k ≠ g → k ≠ m → ¬ (k = g ∨ k = m ∨ (Value.slice A7 ms.length cap7).ownBlock = some k) := fun k h1 h2 h3 h => by
    rcases h with h | h | h
    · exact h2 h
    · exact h3 h
    · have := hown k h; omega
  refine ⟨.slice (some ⟨g5, 0, none⟩) (ms.length + 1) cap5, ⟨hKT.blk hm.bbox (hz B l1 n2 n3), hKT.blk hm.sbox (hz S l2 n4 n5), ⟨hg7, hma.keep hk7 (fun h => by rcases h with h | h; exact n1 h.symm; have := hown m h; omega)⟩, ?_⟩, hKT, fun k hk => ?_⟩
  · exact ((hm.row.keep hka (fun k hk e => by omega))).appS how (hc.keep hka (fun k hk e => by omega)) ho7 hk7 (fun k hk hz => by rcases hz with h | h; omega; exact h) hat
  · simp only [Value.ownBlock, Option.some.injEq] at hk
    rcases hat with h | h
    · exact .inl (by rw [h, hk])
    · exact .inr (by have := hka.size; omega)
set_option maxRecDepth 100000 in
set_option maxHeartbeats 4000000 in
theorem put_calls (b : Kb) (p : KbA) (mv : Value) (B S m g base : Nat) (ms : List Con) (c : Con) (A : Option Addr) (cap : Nat) (ok2 : Nat → Prop) (w : World) (hm : MarkR w base B S g m b p ms mv) (hlt : B < base ∧ S < base ∧ g < base ∧ m < base) (hne : g ≠ m ∧ B ≠ g ∧ B ≠ m ∧ S ≠ g ∧ S ≠ m) (hbase : base ≤ w.heap.size)
    (h0 : Row1 ok2 w Value.string b.cs p.a0) (h1 : Row1 ok2 w Value.string b.rs p.a1) (hcs : ∀ s ∈ b.cs, s.size ≤ 12) (hrs : ∀ s ∈ b.rs, s.size ≤ 12) (hcl : b.cs.length ≤ 1000000) (hrl : b.rs.length ≤ 1000000) (hz : c.size ≤ 1000000) (hf : fitC b.cs.length b.rs.length c = true)
    (hc : ConR (fun k => base ≤ k ∧ mv.ownBlock ≠ some k) w c [.int .i64 c.op, .int .i64 c.n, .slice A c.args.length cap]) (hml : ms.length ≤ 1000000) :
    Calls Tryz.prog 221 #[.agg #[.int .i64 c.op, .int .i64 c.n, .slice A c.args.length cap], .pointer (some ⟨B, 0, none⟩), .pointer (some ⟨S, 0, none⟩)] w fun e w' =>
      (∃ v, e = .returned v) ∧ ∃ mv', MarkR w' base B S g m b p (putM b.cs b.rs ms c) mv' ∧ Keeps (fun k => k = g ∨ k = m ∨ mv.ownBlock = some k) w w' ∧ (∀ k, mv'.ownBlock = some k → mv.ownBlock = some k ∨ w.heap.size ≤ k) := by
  obtain ⟨l1, l2, l3, l4⟩ := hlt
  obtain ⟨n1, n2, n3, n4, n5⟩ := hne
  obtain ⟨a0, a1, a2, a3, a4, a5, a6, c0, c1, c2, c3, c4, c5, c6⟩ := p
  dsimp only at h0 h1
  have hcall : ∀ W, Keeps (fun _ => False) w W → Calls Tryz.prog 222 #[.agg #[.slice a0 b.cs.length c0, .slice a1 b.rs.length c1, .slice a2 b.is.length c2], .agg #[.int .i64 c.op, .int .i64 c.n, .slice A c.args.length cap]] W fun e w' => e = .returned (.string (textC b.cs b.rs c)) ∧ Keeps (fun _ => False) W w' :=
    fun W hk => text_calls b.cs b.rs hcl hrl hcs hrs a0 a1 c0 c1 _ (c.size + 1) c A cap (fun k => (base ≤ k ∧ mv.ownBlock ≠ some k) ∨ ok2 k) W (by omega) hz hf ((hc.mono (fun _ h => .inl h)).keep hk (fun _ _ h => h)) ((h0.mono (fun _ h => .inr h)).keep hk (fun _ _ h => h)) ((h1.mono (fun _ h => .inr h)).keep hk (fun _ _ h => h))
  have HCALL := Lib.hid hcall
  have HPM : Hid (putM b.cs b.rs ms c = if seenP (plOf b.cs b.rs ms) (textC b.cs b.rs c) then ms else ms ++ [c]) := rfl
  have HSN := Lib.hid (plOf_snoc b.cs b.rs ms c)
  generalize textC b.cs b.rs c = tx at *
  have HM := Lib.hid hm
  obtain ⟨A7, cap7, rfl, hcap7⟩ := hm.row.slice
  obtain ⟨q0, q1, q2, _⟩ := cells7 (HM.out.bbox)
  have HC := Lib.hid hc
  have hbl := blkLt HM.out.bbox
  have hsl := blkLt HM.out.sbox
  have hgl := blkLt HM.out.sp.box
  have hmpl := HM.out.sp.map.lt
  clear hcall hm h0 h1 hc hcs hrs
  go_enter Tryz.func221, Tryz.ntmps221
  go_wp2_with fail
  generalize hW0 : World.alloc _ _ = W0
  have hK0 : Keeps (fun _ => False) w W0 := by rw [← hW0]; repeat (first | exact Keeps.refl _ _ | refine Keeps.drewN ?_ _ | refine Keeps.drew ?_ | refine Keeps.alloc ?_ _ | refine Keeps.set ?_ (Or.inl (by rfl)) _)
  have hb0 : W0.heap[w.heap.size]? = some (.cells #[.int .i64 c.op, .int .i64 c.n, .slice A c.args.length cap] 94 (0, 0)) := by rw [← hW0]; exact blkNew rfl
  clear hW0 q0 q1 q2
  refine (HCALL.out W0 hK0).mono ?_
  clear HCALL
  rintro e w1 ⟨rfl, hk1⟩
  have hK1 := hK0.then_ hk1
  have hb1 := hk1.blk hb0 (fun h => h)
  have HM1 := Lib.hid (HM.out.keep hK1 (fun h => h) (fun h => h) (fun h => h) (fun h => h) (fun _ _ h => h))
  have hs0 := cells1 HM1.out.sbox
  have hg7 : w1.cell? ⟨g, 7, none⟩ = some (.slice A7 ms.length cap7) := by rw [blkCell HM1.out.sp.box]; rfl
  have hg8 : w1.cell? ⟨g, 8, none⟩ = some (.map (some m)) := by rw [blkCell HM1.out.sp.box]; rfl
  have hgf := blkFree HM1.out.sp.box 7
  have HMP := Lib.hid HM1.out.sp.map
  have hs1 := hK1.size
  clear hk1 hb0 hK0
  cases hfd : findL (plOf b.cs b.rs ms) tx with
  | some v =>
    go_wp2_with (at_lookup; refine wp_look rfl _ _ 194 true rfl 3 (keyStr Tryz.underlying9) Tryz.underlying194 m (plOf b.cs b.rs ms) HMP.out rfl (.int .i64 0) (zeroInt _) tx rfl ?_; simp only [hfd, Option.map_some, Option.getD_some, Option.isSome_some, if_true])
    go_end0
    exact ⟨⟨_, rfl⟩, _, by rw [HPM.out, if_pos (by simp [seenP, hfd])]; exact HM1.out, hK1.of0, fun k hk => .inl hk⟩
  | none =>
    obtain ⟨w2, hrun, hm2, hk2, hz2⟩ := (HMP.out.keep (S := fun _ => False) (w' := w1.drew) (Keeps.refl _ _).drew (fun h => h)).put (keyStr Tryz.underlying9) Tryz.underlying194 tx (ms.length : Int)
    go_wp2_with (at_lookup; refine wp_look rfl _ _ 194 true rfl 3 (keyStr Tryz.underlying9) Tryz.underlying194 m (plOf b.cs b.rs ms) HMP.out rfl (.int .i64 0) (zeroInt _) tx rfl ?_; simp only [hfd, Option.map_none, Option.getD_none, Option.isSome_none, if_true])
    replace hk2 : Keeps (fun i => i = m) w1 w2 := (Keeps.refl (fun i => i = m) w1).drew.then_ hk2
    have hg2 := hk2.blk (g := g) HM1.out.sp.box n1
    have hs2 := hk2.blk (g := S) HM1.out.sbox n5
    have HM2 := Lib.hid hm2
    have HK2 := Lib.hid hk2
    have HC1 := Lib.hid hb1
    have HG2 := Lib.hid hg2
    have HS2 := Lib.hid hs2
    clear hm2 hk2 hg2 hs2 hb1
    have HCO : ¬ (Value.slice A7 ms.length cap7).ownBlock = some w.heap.size := fun h => by
      obtain ⟨_, ho, _⟩ := HM.out.row
      have := (ho.lt _ h).2
      omega
    go_region
    all_goals go_wp2_with fail
    go_region
    all_goals go_wp2_with fail
    · -- append(s.Marks, c)
      generalize hW5 : World.drew _ = W5
      have hK5 : Keeps (fun _ => False) w2 W5 := by rw [← hW5]; repeat (first | exact Keeps.refl _ _ | refine Keeps.drewN ?_ _ | refine Keeps.drew ?_ | refine Keeps.alloc ?_ _ | refine Keeps.set ?_ (Or.inl (by rfl)) _)
      clear hW5
      have hG5 := hK5.blk HG2.out (fun h => h)
      have HSB5 := Lib.hid (hK5.blk HS2.out (fun h => h))
      have hS5 := cells1 (hK5.blk HS2.out (fun h => h))
      have hC5 := hK5.blk (HK2.out.blk (g := w.heap.size) HC1.out (by omega)) (fun h => h)
      obtain ⟨x0, x1, x2⟩ := cells3 hC5
      have hg5 : W5.cell? ⟨g, 7, none⟩ = some (.slice A7 ms.length cap7) := by rw [blkCell hG5]; rfl
      have gf5 := blkFree hG5 7
      have hgl5 := blkLt hG5
      have hcl5 := blkLt hC5
      have hsl5 := blkLt (hK5.blk HS2.out (fun h => h))
      have HO5 := Lib.hid ((HM1.out.row.keep HK2.out (fun k hk e => by omega)).keep hK5 (fun _ _ h => h))
      obtain ⟨cells, ho, _⟩ := HO5.out
      have HOW := Lib.hid ho
      have hs5 : base ≤ W5.heap.size := by have := hK5.size; have := HK2.out.size; omega
      have hcc := (HC.out.keep hK1 (fun _ _ h => h)).keep HK2.out (fun k hk e => by omega)
      have HCC := Lib.hid (hcc.keep hK5 (fun _ _ h => h))
      have HG5 := Lib.hid hG5
      have HCB5 := Lib.hid hC5
      have HK5 := Lib.hid hK5
      clear hcc ho hG5 hC5 hK5
      have hma : MapL W5 m Value.string (Value.int .i64) (plOf b.cs b.rs (ms ++ [c])) := by
        rw [HSN.out, ← put_new _ _ _ hfd]; exact HM2.out.keep HK5.out (fun h => h)
      have HDONE := Lib.hid (fun (Wa W7 : World) (g5 cap5 : Nat) (hka : Keeps (fun _ => False) W5 Wa) (hk7 : Keeps (fun k => k = g ∨ (Value.slice A7 ms.length cap7).ownBlock = some k) Wa W7) ho7 hat hg7 =>
        put_done (g5 := g5) (cap5 := cap5) HM1.out ⟨l1, l2, l3, l4⟩ ⟨n1, n2, n3, n4, n5⟩ (by omega) ((HK2.out.then_ HK5.out.of0).then_ hka.of0) (hma.keep hka (fun h => h)) (ownsKeep HOW.out hka (fun _ _ h => h)) (HC.out.keep hK1 (fun _ _ h => h)) hk7 ho7 hat hg7)
      have HPN : Hid (putM b.cs b.rs ms c = ms ++ [c]) := by unfold Hid; rw [HPM.out, if_neg (by simp [seenP, hfd])]
      clear hma
      go_region_law
        (refine step_app rfl _ _ 91 91 (by rfl) base 94 _ 3 40 Tryz.underlying91 infoCon rfl (by decide) (by decide) (.slice A7 ms.length cap7) ms.length cells (by refine ownsKeep (S := fun _ => False) HOW.out ?_ (fun _ _ h => h); repeat (first | exact Keeps.refl _ _ | refine Keeps.drewN ?_ _ | refine Keeps.drew ?_ | refine Keeps.alloc ?_ _ | refine Keeps.set ?_ (Or.inl (by rfl)) _)) (by rfl) (.slice (some ⟨W5.heap.size, 0, none⟩) 1 1) 1 [.int .i64 c.op, .int .i64 c.n, .slice A c.args.length cap] (by exact Src.ofBlock Tryz.underlying91 (cs := #[.int .i64 c.op, .int .i64 c.n, .slice A c.args.length cap]) (blkNew (by first | rfl | simp)) (by rfl) (by simp [Value.oneCell'])) (by rfl) (by decide) (by omega) (by simp; omega) ?_; intro g5 cap5 w6 ho6 hk6 hat hcap6 hlt6; have hb6 := hk6.blk (g := g) (by exact blkAlloc HG5.out _) (fun h => by have := HOW.out.lt _ h; omega); have gf6 := blkFree hb6 7; have gv6 := blkCell hb6 7; simp only [List.getElem?_toArray, List.getElem?_cons_zero, List.getElem?_cons_succ] at gv6; have hgl6 := blkLt hb6; have HB6 := Lib.hid hb6; have hs6 := cells1 (hk6.blk (g := S) (by exact blkAlloc HSB5.out _) (fun h => by have := HOW.out.lt _ h; omega)); clear hb6)
      all_goals go_wp2_with fail
      all_goals go_end0
      all_goals
        have hKS : Keeps (fun k => k = g ∨ (Value.slice A7 ms.length cap7).ownBlock = some k) _ (w6.setCell ⟨g, 7, none⟩ (Value.slice (some ⟨g5, 0, none⟩) (ms.length + 1) cap5)) := Keeps.set (g := g) (hk6.sub (fun i hi => .inr hi)) (.inl (.inl rfl)) _
        obtain ⟨mv', d1, d2, d3⟩ := HDONE.out _ _ g5 cap5 (by repeat (first | exact Keeps.refl _ _ | refine Keeps.drewN ?_ _ | refine Keeps.drew ?_ | refine Keeps.alloc ?_ _ | refine Keeps.set ?_ (Or.inl (by rfl)) _)) hKS (ownsKeep ho6 (Keeps.set1 _ g 7 _) (fun k hk e => by have := (ho6.lt k hk).1; omega)) hat (blkSet HB6.out 7 _)
        exact ⟨⟨_, rfl⟩, mv', by rw [HPN.out]; exact d1, hK1.of0.then_ d2, fun k hk => by rcases d3 k hk with h | h; exact .inl h; exact .inr (by omega)⟩
    · -- append(s.Marks, zero), then the store
      generalize hW5 : World.drew _ = W5
      have hK5 : Keeps (fun _ => False) w2 W5 := by rw [← hW5]; repeat (first | exact Keeps.refl _ _ | refine Keeps.drewN ?_ _ | refine Keeps.drew ?_ | refine Keeps.alloc ?_ _ | refine Keeps.set ?_ (Or.inl (by rfl)) _)
      clear hW5
      have hG5 := hK5.blk HG2.out (fun h => h)
      have HSB5 := Lib.hid (hK5.blk HS2.out (fun h => h))
      have hS5 := cells1 (hK5.blk HS2.out (fun h => h))
      have hC5 := hK5.blk (HK2.out.blk (g := w.heap.size) HC1.out (by omega)) (fun h => h)
      obtain ⟨x0, x1, x2⟩ := cells3 hC5
      have hg5 : W5.cell? ⟨g, 7, none⟩ = some (.slice A7 ms.length cap7) := by rw [blkCell hG5]; rfl
      have gf5 := blkFree hG5 7
      have hgl5 := blkLt hG5
      have hcl5 := blkLt hC5
      have hsl5 := blkLt (hK5.blk HS2.out (fun h => h))
      have HO5 := Lib.hid ((HM1.out.row.keep HK2.out (fun k hk e => by omega)).keep hK5 (fun _ _ h => h))
      obtain ⟨cells, ho, _⟩ := HO5.out
      have HOW := Lib.hid ho
      have hs5 : base ≤ W5.heap.size := by have := hK5.size; have := HK2.out.size; omega
      have hcc := (HC.out.keep hK1 (fun _ _ h => h)).keep HK2.out (fun k hk e => by omega)
      have HCC := Lib.hid (hcc.keep hK5 (fun _ _ h => h))
      have HG5 := Lib.hid hG5
      have HCB5 := Lib.hid hC5
      have HK5 := Lib.hid hK5
      clear hcc ho hG5 hC5 hK5
      have hma : MapL W5 m Value.string (Value.int .i64) (plOf b.cs b.rs (ms ++ [c])) := by
        rw [HSN.out, ← put_new _ _ _ hfd]; exact HM2.out.keep HK5.out (fun h => h)
      have HDONE := Lib.hid (fun (Wa W7 : World) (g5 cap5 : Nat) (hka : Keeps (fun _ => False) W5 Wa) (hk7 : Keeps (fun k => k = g ∨ (Value.slice A7 ms.length cap7).ownBlock = some k) Wa W7) ho7 hat hg7 =>
        put_done (g5 := g5) (cap5 := cap5) HM1.out ⟨l1, l2, l3, l4⟩ ⟨n1, n2, n3, n4, n5⟩ (by omega) ((HK2.out.then_ HK5.out.of0).then_ hka.of0) (hma.keep hka (fun h => h)) (ownsKeep HOW.out hka (fun _ _ h => h)) (HC.out.keep hK1 (fun _ _ h => h)) hk7 ho7 hat hg7)
      have HPN : Hid (putM b.cs b.rs ms c = ms ++ [c]) := by unfold Hid; rw [HPM.out, if_neg (by simp [seenP, hfd])]
      clear hma
      go_region_law
        (refine step_app rfl _ _ 91 91 (by rfl) base 94 _ 3 40 Tryz.underlying91 infoCon rfl (by decide) (by decide) (.slice A7 ms.length cap7) ms.length cells (by refine ownsKeep (S := fun _ => False) HOW.out ?_ (fun _ _ h => h); repeat (first | exact Keeps.refl _ _ | refine Keeps.drewN ?_ _ | refine Keeps.drew ?_ | refine Keeps.alloc ?_ _ | refine Keeps.set ?_ (Or.inl (by rfl)) _)) (by rfl) (.slice (some ⟨W5.heap.size, 0, none⟩) 1 1) 1 [.int .i64 0, .int .i64 0, .slice none 0 0] (by exact Src.ofBlock Tryz.underlying91 (cs := #[.int .i64 0, .int .i64 0, .slice none 0 0]) (blkNew (by first | rfl | simp)) (by rfl) (by simp [Value.oneCell'])) (by rfl) (by decide) (by omega) (by simp; omega) ?_; intro g5 cap5 w6 ho6 hk6 hat hcap6 hlt6; have hb6 := hk6.blk (g := g) (by exact blkAlloc HG5.out _) (fun h => by have := HOW.out.lt _ h; omega); have gf6 := blkFree hb6 7; have gv6 := blkCell hb6 7; simp only [List.getElem?_toArray, List.getElem?_cons_zero, List.getElem?_cons_succ] at gv6; have hgl6 := blkLt hb6; have HB6 := Lib.hid hb6; have hs6 := cells1 (hk6.blk (g := S) (by exact blkAlloc HSB5.out _) (fun h => by have := HOW.out.lt _ h; omega)); obtain ⟨xx0, xx1, xx2⟩ := cells3 (hk6.blk (g := w.heap.size) (by exact blkAlloc HCB5.out _) (fun h => HCO h)); clear hb6)
      all_goals
        have hKS : Keeps (fun k => k = g ∨ (Value.slice A7 ms.length cap7).ownBlock = some k) _ (w6.setCell ⟨g, 7, none⟩ (Value.slice (some ⟨g5, 0, none⟩) (ms.length + 1) cap5)) := Keeps.set (g := g) (hk6.sub (fun i hi => .inr hi)) (.inl (.inl rfl)) _
        have ho7 := ownsKeep ho6 (Keeps.set1 _ g 7 (Value.slice (some ⟨g5, 0, none⟩) (ms.length + 1) cap5)) (fun k hk e => by have := (ho6.lt k hk).1; omega)
        have hb7 := blkSet HB6.out 7 (Value.slice (some ⟨g5, 0, none⟩) (ms.length + 1) cap5)
        have hlen := HOW.out.1
        have hq : ∀ j u, (cells ++ [.int .i64 0, .int .i64 0, .slice none 0 0])[j]? = some u → (w6.setCell ⟨g, 7, none⟩ (Value.slice (some ⟨g5, 0, none⟩) (ms.length + 1) cap5)).cell? ⟨g5, j, none⟩ = some u := fun j u hu => by
          have := ho7.cells (g := g5) rfl j u hu
          rwa [addPlain] at this
        have q0 := hq (ms.length * 3) (.int .i64 0) (by rw [List.getElem?_append_right (by omega)]; simp [hlen])
        have q1 := hq (ms.length * 3 + 1) (.int .i64 0) (by rw [List.getElem?_append_right (by omega)]; simp [hlen])
        have q2 := hq (ms.length * 3 + 2) (.slice none 0 0) (by rw [List.getElem?_append_right (by omega)]; simp [hlen])
        have hfr : ∀ j, (w6.setCell ⟨g, 7, none⟩ (Value.slice (some ⟨g5, 0, none⟩) (ms.length + 1) cap5)).frozen? ⟨g5, j, none⟩ = false := fun j => by
          rcases ho7.2 with ⟨h, _⟩ | ⟨gq, cq, cur, e1, _, hh, _⟩
          · cases h
          · simp only [Value.slice.injEq, Option.some.injEq, Addr.mk.injEq, and_true, true_and] at e1
            obtain ⟨rfl, rfl⟩ := e1
            exact blkFree hh j
        have q3 := hfr (ms.length * 3)
        have q4 := hfr (ms.length * 3 + 1)
        have q5 := hfr (ms.length * 3 + 2)
        have HO7 := Lib.hid ho7
        have HB7 := Lib.hid hb7
        have HKS := Lib.hid hKS
        have HAT := Lib.hid hat
        have hgb : base ≤ g5 := (ho7.lt g5 rfl).1
        clear ho7 hb7 hKS hq hfr hat ho6 hk6 gf6 gv6 hs6 xx0 xx1 xx2
        generalize World.setCell _ _ _ = W7 at *
        go_wp2_with fail
        go_end0
        generalize hW8 : World.setCell _ _ _ = W8
        have hset : Keeps (fun k => k = g5) W7 W8 := by rw [← hW8]; repeat (first | exact Keeps.refl _ _ | refine Keeps.drewN ?_ _ | refine Keeps.drew ?_ | refine Keeps.alloc ?_ _ | refine Keeps.set ?_ (Or.inl (by rfl)) _)
        have ho8 := ownsSet3 (.int .i64 c.op) (.int .i64 c.n) (.slice A c.args.length cap) HO7.out hlen
        rw [hW8] at ho8
        clear hW8
        obtain ⟨mv', d1, d2, d3⟩ := HDONE.out _ W8 g5 cap5 (by repeat (first | exact Keeps.refl _ _ | refine Keeps.drewN ?_ _ | refine Keeps.drew ?_ | refine Keeps.alloc ?_ _ | refine Keeps.set ?_ (Or.inl (by rfl)) _)) (HKS.out.trans hset (fun i hi => by subst hi; rcases HAT.out with h | h; exact .inl (.inr h); exact .inr (by rw [h]; exact Nat.le_refl _))) ho8 HAT.out (hset.blk HB7.out (by omega))
        exact ⟨⟨_, rfl⟩, mv', by rw [HPN.out]; exact d1, hK1.of0.then_ d2, fun k hk => by rcases d3 k hk with h | h; exact .inl h; exact .inr (by omega)⟩
end Go.Proofs.YtknonaboaaiabaaGreatDoor
