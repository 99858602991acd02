/- Slices of concepts of the call's own, and what becomes of them at an append. -/
import Derived.Test.YthiclhbnggehoaaGreatDoorMap
import Derived.Test.YthiclhbnggehoaaGreatDoorKbValid
import Derived.Deep.RegionHeld3
namespace Go.Proofs.YthiclhbnggehoaaGreatDoor
open Go.RowKit
set_option linter.unusedVariables false
set_option linter.unusedSimpArgs false
section
variable {P : Program} {ops : Array Oper} {rest : List Oper} {o : Oper} {a : Act} {Q : Exit → Act → World → Prop} {K : Act → World → Prop} {E : Prop}
theorem ownSlice {w : World} {base e size : Nat} {v : Value} {n : Nat} {xs : List Value} (h : w.ownsRow base e size v n xs) (hn : 0 < n) : ∃ g cap, v = .slice (some ⟨g, 0, none⟩) n cap ∧ n ≤ cap ∧ base ≤ g ∧ g < w.heap.size := by
  rcases h.2 with ⟨_, h0⟩ | ⟨g, cap, cur, rfl, hg, hh, hc, _⟩
  · omega
  · exact ⟨g, cap, rfl, hc, hg, blkLt hh⟩
/-- A call of a Go function, as a step of a region in whatever order. -/
theorem step_call {w : World} (hgd : Region.wanted o (yielded ops a.tmps) = true) (f : FuncId) (vals : Array Value) (hrun : (execOp a.eval o).run P w = .ok (.enter f vals) w)
    (h : Calls P f vals w fun e w' => ∃ v, e = .returned v ∧ K (a.put o.dst v) w') : if Region.wanted o (yielded ops a.tmps) = true then Oper.wp P o a w K Q else E := by
  rw [if_pos hgd]
  unfold Oper.wp
  rw [hrun, Oper.upon_enter]
  refine h.mono fun e w' ⟨v, hv, hk⟩ => ?_
  subst hv
  exact hk
/-- append(v, x) of at least one element, as a step of a region in whatever order. -/
theorem step_app {w : World} (hgd : Region.wanted o (yielded ops a.tmps) = true) (s x : Operand) (t tx : TypeId) (ho : o.op = .call { callee := .builtin .append, args := #[s, x], argTypes := #[t, tx] })
    (base e : Nat) (z : Value) (size bytes : Nat) (ht : P.underlying t = some (.slice e)) (hinfo : (P.info? e).map (fun i => (i.zero, i.size, i.bytes)) = some (some z, size, bytes))
    (hzs : z.cells.size = size) (hsz : 0 < size) (hb0 : 0 < bytes) (v : Value) (n : Nat) (xs : List Value) (hown : w.ownsRow base e size v n xs) (hs : a.eval s = v) (xv : Value) (m : Nat) (news : List Value)
    (hsrc : Src P size tx xv m news w) (hx : a.eval x = xv) (hm : 0 < m) (hbytes : (n + m) * bytes ≤ 140737488355328) (hbase : base ≤ w.heap.size)
    (h : ∀ g cap w', w'.ownsRow base e size (.slice (some ⟨g, 0, none⟩) (n + m) cap) (n + m) (xs ++ news) → Keeps (fun k => v.ownBlock = some k) w w' → (v.ownBlock = some g ∨ g = w.heap.size) → n + m ≤ cap → g < w'.heap.size → K (a.put o.dst (.slice (some ⟨g, 0, none⟩) (n + m) cap)) w') :
    if Region.wanted o (yielded ops a.tmps) = true then Oper.wp P o a w K Q else E := by
  obtain ⟨i, hi, hz, hsize, hby⟩ := info_parts hinfo
  subst hsize; subst hby
  obtain ⟨v1, w1, hr1, h1, hg, hat⟩ := run_app (P := P) w base t tx o.type e i z ht hi hz hzs hsz hb0 v n xs hown xv m news hsrc hbytes hbase
  obtain ⟨g, cap, rfl, hcap, _, hlt⟩ := ownSlice h1 (by omega)
  rw [if_pos hgd]
  unfold Oper.wp execOp
  simp only [ho, resolve, invoke, builtin, Sem.run_bind, Sem.run_pure, Result.andThen_ok, List.map_toArray, List.map_cons, List.map_nil, hs, hx, hr1]
  exact h g cap w1 h1 ⟨hg.os, hg.tape, hg.output, hg.size, fun k hk hn => hg.block k hk (fun e => hn e.symm)⟩ (by simpa [Value.ownBlock, eq_comm] using hat) hcap hlt
/-- .. in the order of the text. -/
theorem wp_app1 {w : World} (hgd : Region.wanted o (yielded ops a.tmps) = true) (s x : Operand) (t tx : TypeId) (ho : o.op = .call { callee := .builtin .append, args := #[s, x], argTypes := #[t, tx] })
    (base e : Nat) (z : Value) (size bytes : Nat) (ht : P.underlying t = some (.slice e)) (hinfo : (P.info? e).map (fun i => (i.zero, i.size, i.bytes)) = some (some z, size, bytes))
    (hzs : z.cells.size = size) (hsz : 0 < size) (hb0 : 0 < bytes) (v : Value) (n : Nat) (xs : List Value) (hown : w.ownsRow base e size v n xs) (hs : a.eval s = v) (xv : Value) (m : Nat) (news : List Value)
    (hsrc : Src P size tx xv m news w) (hx : a.eval x = xv) (hm : 0 < m) (hbytes : (n + m) * bytes ≤ 140737488355328) (hbase : base ≤ w.heap.size)
    (h : ∀ g cap w', w'.ownsRow base e size (.slice (some ⟨g, 0, none⟩) (n + m) cap) (n + m) (xs ++ news) → Keeps (fun k => v.ownBlock = some k) w w' → (v.ownBlock = some g ∨ g = w.heap.size) → n + m ≤ cap → g < w'.heap.size → wpList P ops Q rest (a.put o.dst (.slice (some ⟨g, 0, none⟩) (n + m) cap)) w') : wpList P ops Q (o :: rest) a w := by
  refine wpList_step fun K hK => ?_
  exact step_app hgd s x t tx ho base e z size bytes ht hinfo hzs hsz hb0 v n xs hown hs xv m news hsrc hx hm hbytes hbase (fun g cap w' h1 h2 h3 h4 h5 => hK _ _ (h g cap w' h1 h2 h3 h4 h5))
/-- What a block that is known whole yields to an append. -/
theorem Src.ofBlock {w : World} {size : Nat} {tx e' : TypeId} (hk : P.underlying tx = some (.slice e')) {g n c : Nat} {cs : Array Value} {t : TypeId} {fz : Nat × Nat} (hb : w.heap[g]? = some (.cells cs t fz)) (hl : cs.size = n * size) (h1 : ∀ u ∈ cs.toList, u.oneCell' = true) : Src P size tx (.slice (some ⟨g, 0, none⟩) n c) n cs.toList w :=
  Src.ofSlice w hk _ _ _ _ (by simpa using hl) (fun j u hu => by rw [addPlain, blkCell hb]; simpa using hu) h1
end
/-- A row of concepts of the call's own. What they lead to is the call's own too, and none of it is the row. -/
def OwnCons (w : World) (base : Nat) (v : Value) (l : List Con) : Prop :=
  ∃ cells, w.ownsRow base 37 3 v l.length cells ∧ ∀ i (h : i < l.length), ∃ v0 v1 v2, cells[i * 3]? = some v0 ∧ cells[i * 3 + 1]? = some v1 ∧ cells[i * 3 + 2]? = some v2 ∧ ConR (fun b => base ≤ b ∧ v.ownBlock ≠ some b) w l[i] [v0, v1, v2]
theorem OwnCons.nil (w : World) (base : Nat) : OwnCons w base (.slice none 0 0) [] := ⟨[], World.ownsRow_nil _ _ _ _, fun i h => absurd h (Nat.not_lt_zero _)⟩
theorem ownsKeep {S : Nat → Prop} {w w' : World} {base e size : Nat} {v : Value} {n : Nat} {xs : List Value} (h : w.ownsRow base e size v n xs) (hk : Keeps S w w') (hs : ∀ b, v.ownBlock = some b → ¬ S b) : w'.ownsRow base e size v n xs := by
  refine ⟨h.1, ?_⟩
  rcases h.2 with hn | ⟨g, cap, cur, rfl, hb, hg, hr⟩
  · exact .inl hn
  · exact .inr ⟨g, cap, cur, rfl, hb, hk.blk hg (hs g (by simp [Value.ownBlock])), hr⟩
theorem OwnCons.keep {S : Nat → Prop} {w w' : World} {base : Nat} {v : Value} {l : List Con} (h : OwnCons w base v l) (hk : Keeps S w w') (hs : ∀ b, base ≤ b → ¬ S b) : OwnCons w' base v l := by
  obtain ⟨cells, h1, h2⟩ := h
  refine ⟨cells, ownsKeep h1 hk (fun b hb => hs b (h1.lt b hb).1), fun i hi => ?_⟩
  obtain ⟨v0, v1, v2, e0, e1, e2, hc⟩ := h2 i hi
  exact ⟨v0, v1, v2, e0, e1, e2, hc.keep hk (fun k hk => hs k hk.1)⟩
mutual
theorem ConR.mono {ok ok' : Nat → Prop} {w : World} (ho : ∀ k, ok k → ok' k) : ∀ {c : Con} {cs : List Value}, ConR ok w c cs → ConR ok' w c cs
  | ⟨op, n, args⟩, cs, h => by
    simp only [ConR] at h ⊢
    obtain ⟨A, cap, h1, h2, h3⟩ := h
    exact ⟨A, cap, h1, h2, fun ha => by obtain ⟨b, o, e, hb, hr⟩ := h3 ha; exact ⟨b, o, e, ho b hb, ConsR.mono ho hr⟩⟩
theorem ConsR.mono {ok ok' : Nat → Prop} {w : World} (ho : ∀ k, ok k → ok' k) : ∀ {l : List Con} {b o : Nat}, ConsR ok w l b o → ConsR ok' w l b o
  | [], _, _, h => by simp only [ConsR] at h ⊢; exact fun hn => h (fun h0 => hn (ho 0 h0))
  | c :: r, b, o, h => by
    simp only [ConsR] at h ⊢
    obtain ⟨⟨v0, v1, v2, h0, h1, h2, hc⟩, hr⟩ := h
    exact ⟨⟨v0, v1, v2, h0, h1, h2, ConR.mono ho hc⟩, ConsR.mono ho hr⟩
end
theorem OwnCons.app {w w' : World} {base : Nat} {v : Value} {l : List Con} {cells : List Value} (h : OwnCons w base v l) {c : Con} {v0 v1 v2 : Value} (hcells : w.ownsRow base 37 3 v l.length cells)
    (hc : ConR (fun b => base ≤ b ∧ v.ownBlock ≠ some b) w c [v0, v1, v2]) {g cap : Nat} (ho : w'.ownsRow base 37 3 (.slice (some ⟨g, 0, none⟩) (l.length + 1) cap) (l.length + 1) (cells ++ [v0, v1, v2])) (hk : Keeps (fun k => v.ownBlock = some k) w w')
    (hat : v.ownBlock = some g ∨ g = w.heap.size) : OwnCons w' base (.slice (some ⟨g, 0, none⟩) (l.length + 1) cap) (l ++ [c]) := by
  obtain ⟨cells', h1, h2⟩ := h
  have e : cells' = cells := by
    rcases h1.2 with ⟨rfl, h0⟩ | ⟨g1, cap1, cur1, rfl, _, hh1, _, _, _, ht1⟩
    · have a1 := h1.1; have a2 := hcells.1; rw [h0] at a1 a2; simp at a1 a2; rw [a1, a2]
    · rcases hcells.2 with ⟨h, _⟩ | ⟨g2, cap2, cur2, e2, _, hh2, _, _, _, ht2⟩
      · cases h
      · simp only [Value.slice.injEq, Option.some.injEq, Addr.mk.injEq] at e2
        obtain ⟨⟨rfl, _, _⟩, _, _⟩ := e2
        rw [hh1] at hh2; cases hh2; rw [← ht1, ← ht2]
  subst e
  have hlen := h1.1
  have move : ∀ {c : Con} {cs : List Value}, ConR (fun b => base ≤ b ∧ v.ownBlock ≠ some b) w c cs → ConR (fun b => base ≤ b ∧ (Value.slice (some ⟨g, 0, none⟩) (l.length + 1) cap).ownBlock ≠ some b) w' c cs := fun hc =>
    (hc.lim.keep hk (fun k hk => hk.1.2)).mono (fun k hk => ⟨hk.1.1, fun e => by
      simp only [Value.ownBlock, Option.some.injEq] at e
      rcases hat with h | h
      · exact hk.1.2 (by rw [h, e])
      · have := hk.2; omega⟩)
  refine ⟨cells' ++ [v0, v1, v2], by simpa using ho, fun i hi => ?_⟩
  by_cases hl : i < l.length
  · obtain ⟨u0, u1, u2, e0, e1, e2, hc⟩ := h2 i hl
    refine ⟨u0, u1, u2, ?_, ?_, ?_, ?_⟩
    · rw [List.getElem?_append_left (by omega)]; exact e0
    · rw [List.getElem?_append_left (by omega)]; exact e1
    · rw [List.getElem?_append_left (by omega)]; exact e2
    · rw [List.getElem_append_left hl]; exact move hc
  · simp only [List.length_append, List.length_singleton] at hi
    obtain rfl : i = l.length := by omega
    refine ⟨v0, v1, v2, ?_, ?_, ?_, ?_⟩
    · rw [List.getElem?_append_right (by omega)]; simp [hlen]
    · rw [List.getElem?_append_right (by omega)]; simp [hlen]
    · rw [List.getElem?_append_right (by omega)]; simp [hlen]
    · rw [List.getElem_append_right (by omega)]; simpa using move hc
theorem ConsR.of_all {ok : Nat → Prop} {w : World} : ∀ {l : List Con} {b o : Nat}, (¬ ok 0 → ∃ cs t, w.heap[b]? = some (.cells cs t (0, 0))) → (∀ i (h : i < l.length), ∃ v0 v1 v2, w.cell? ⟨b, o + i * 3, none⟩ = some v0 ∧ w.cell? ⟨b, o + i * 3 + 1, none⟩ = some v1 ∧ w.cell? ⟨b, o + i * 3 + 2, none⟩ = some v2 ∧ ConR ok w l[i] [v0, v1, v2]) → ConsR ok w l b o
  | [], _, _, ht, _ => by simp only [ConsR]; exact ht
  | c :: r, b, o, ht, h => by
    simp only [ConsR]
    refine ⟨by obtain ⟨v0, v1, v2, h0, h1, h2, hc⟩ := h 0 (by simp); exact ⟨v0, v1, v2, by simpa using h0, by simpa using h1, by simpa using h2, hc⟩, ConsR.of_all ht (fun i hi => ?_)⟩
    have := h (i + 1) (by simpa using hi)
    simpa [Nat.add_mul, Nat.add_assoc, Nat.add_comm, Nat.add_left_comm] using this
/-- The row as the arguments of a node. -/
theorem OwnCons.node {w : World} {base : Nat} {v : Value} {l : List Con} (h : OwnCons w base v l) (op n : Int) : ∃ A cap, v = .slice A l.length cap ∧ ConR (fun b => base ≤ b) w ⟨op, n, l⟩ [.int .i64 op, .int .i64 n, .slice A l.length cap] := by
  obtain ⟨cells, h1, h2⟩ := h
  rcases h1.2 with ⟨rfl, h0⟩ | ⟨g, cap, cur, rfl, hg, hh, hc, _, _, ht⟩
  · have : l = [] := List.eq_nil_of_length_eq_zero h0
    subst this
    exact ⟨none, 0, rfl, by simp only [ConR]; exact ⟨none, 0, rfl, Nat.le_refl _, fun h => absurd rfl h⟩⟩
  · refine ⟨_, cap, rfl, ?_⟩
    simp only [ConR]
    refine ⟨_, cap, rfl, hc, fun _ => ⟨g, 0, rfl, hg, ConsR.of_all (fun _ => ⟨_, _, hh⟩) (fun i hi => ?_)⟩⟩
    obtain ⟨v0, v1, v2, e0, e1, e2, hcc⟩ := h2 i hi
    have at_ : ∀ j u, cells[j]? = some u → w.cell? ⟨g, 0 + j, none⟩ = some u := fun j u hu => by
      rw [blkCell hh, Nat.zero_add]
      have hj : j < cells.length := (List.getElem?_eq_some_iff.1 hu).1
      rw [← ht, List.getElem?_take_of_lt (by rw [← h1.1]; exact hj)] at hu
      simpa using hu
    exact ⟨v0, v1, v2, at_ _ _ e0, at_ _ _ e1, at_ _ _ e2, hcc.mono (fun _ h => h.1)⟩
end Go.Proofs.YthiclhbnggehoaaGreatDoor
