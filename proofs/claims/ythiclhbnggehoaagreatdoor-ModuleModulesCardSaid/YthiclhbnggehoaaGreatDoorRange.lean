/- A range over a map of the call's own: each key once, in some order. -/
import Derived.Test.YthiclhbnggehoaaGreatDoorMap
import Derived.Maps.RangeRun
namespace Go.Proofs.YthiclhbnggehoaaGreatDoor
open Go.RowKit Go.ChangeMaps
set_option linter.unusedVariables false
set_option linter.unusedSimpArgs false
set_option linter.unusedSectionVars false
variable {κ ν : Type} [DecidableEq κ]
theorem nodup_inj {α : Type} {l : List α} (h : l.Nodup) {i j : Nat} (hi : i < l.length) (hj : j < l.length) (e : l[i] = l[j]) : i = j := by
  rw [List.nodup_iff_pairwise_ne, List.pairwise_iff_getElem] at h
  rcases Nat.lt_trichotomy i j with hl | hl | hl
  · exact absurd e (h i j hi hj hl)
  · exact hl
  · exact absurd e.symm (h j i hj hi hl)
/-- Block r is a walk over the map in block b; the keys of 'done' have come. -/
def RangeM (w : World) (b r : Nat) (ek : κ → Value) (ev : ν → Value) (l : List (κ × ν)) (done : List κ) : Prop :=
  ∃ es clock since seen c0, w.heap[b]? = some (.map es clock) ∧ es.toList.map (fun e => (e.key, e.val)) = l.map (fun p => (ek p.1, ev p.2)) ∧ (es.toList.map (·.born)).Nodup ∧ (l.map (·.1)).Nodup ∧
    w.heap[r]? = some (.mapIter (some b) since seen c0) ∧ (∀ e ∈ es.toList, e.born < since) ∧ since ≤ c0 ∧ since ≤ clock ∧ done.Nodup ∧ (∀ k ∈ done, k ∈ l.map (·.1)) ∧
    ∀ i (h : i < es.size) (h' : i < l.length), seen.contains es[i].born = decide (l[i].1 ∈ done)
variable {P : Program} {k : TypeId} {ek : κ → Value} {ev : ν → Value}
theorem RangeM.keep {S : Nat → Prop} {w w' : World} {b r : Nat} {l : List (κ × ν)} {done : List κ} (h : RangeM w b r ek ev l done) (hk : Keeps S w w') (hb : ¬ S b) (hr : ¬ S r) : RangeM w' b r ek ev l done := by
  obtain ⟨es, clock, since, seen, c0, h1, h2, h3, h4, h5, h6⟩ := h
  exact ⟨es, clock, since, seen, c0, hk.blk h1 hb, h2, h3, h4, hk.blk h5 hr, h6⟩
theorem RangeM.len {w : World} {b r : Nat} {l : List (κ × ν)} {done : List κ} (h : RangeM w b r ek ev l done) : done.length ≤ l.length := by
  obtain ⟨es, clock, since, seen, c0, h1, h2, h3, h4, h5, h6, h7, h8, h9, h10, _⟩ := h
  have := h9.length_le_of_subset (l₂ := l.map (·.1)) (fun k hk => h10 k hk)
  simpa using this
theorem MapL.range {w : World} {b : Nat} {l : List (κ × ν)} {t e : TypeId} (h : MapL w b ek ev l) (ht : P.underlying t = some (.map k e)) :
    ∃ w', (Instr.range t (.map (some b))).run P w = .ok (.pointer (some ⟨w.heap.size, 0, none⟩)) w' ∧ RangeM w' b w.heap.size ek ev l [] ∧ Keeps (fun _ => False) w w' := by
  obtain ⟨es, clock, h1, h2, h3, h4, h5⟩ := h
  exact ⟨_, run_range_map w t k e b es clock ht h1, ⟨es, clock, clock, #[], clock, blkAlloc h1 _, h2, h3, h5, heap_alloc_new w _, h4, Nat.le_refl _, Nat.le_refl _, by simp, by simp, by simp⟩, (Keeps.refl _ _).alloc _⟩
theorem RangeM.next {w : World} {b r : Nat} {l : List (κ × ν)} {done : List κ} (h : RangeM w b r ek ev l done) (ty : TypeId) :
    ((∀ x ∈ l.map (·.1), x ∈ done) ∧ (Instr.next (.pointer (some ⟨r, 0, none⟩)) false ty).run P w = .ok (.tuple #[.bool false]) w) ∨
    ∃ x v w', x ∈ l.map (·.1) ∧ x ∉ done ∧ (Instr.next (.pointer (some ⟨r, 0, none⟩)) false ty).run P w = .ok (.tuple #[.bool true, ek x, ev v]) w' ∧ RangeM w' b r ek ev l (done ++ [x]) ∧ Keeps (fun i => i = r) w w' ∧ w'.heap.size = w.heap.size ∧
      (Instr.entry (.pointer (some ⟨r, 0, none⟩))).run P w' = .ok (.tuple #[ek x, ev v]) w' := by
  obtain ⟨es, clock, since, seen, c0, h1, h2, h3, h4, h5, h6, h7, h8, h9, h10, h11⟩ := h
  have hlen : es.size = l.length := by have := congrArg List.length h2; simpa using this
  have hpair : ∀ i (hi : i < es.size) (hl : i < l.length), es[i].key = ek l[i].1 ∧ es[i].val = ev l[i].2 := fun i hi hl => by
    have e1 : (es.toList.map (fun e => (e.key, e.val)))[i]? = (l.map (fun p => (ek p.1, ev p.2)))[i]? := by rw [h2]
    simpa [hi, hl] using e1
  have hne : b ≠ r := fun e => by rw [e, h5] at h1; cases h1
  rcases run_next_at (P := P) w ty r b since c0 seen es clock h5 h1 h6 h7 with ⟨h0, hrun⟩ | ⟨e, he, w1, hal, hrun⟩
  · refine .inl ⟨fun x hx => ?_, hrun⟩
    obtain ⟨p, hp, rfl⟩ := List.mem_map.1 hx
    obtain ⟨i, hi, rfl⟩ := List.getElem_of_mem hp
    have hi' : i < es.size := by omega
    have := h11 i hi' hi
    rw [all_seen es seen h0 es[i] (by simp)] at this
    simpa using this.symm
  · obtain ⟨hem, hes⟩ := mem_left he
    obtain ⟨i, hi, rfl⟩ := List.getElem_of_mem hem
    simp only [Array.length_toList] at hi
    simp only [Array.getElem_toList] at hes hrun he hem
    have hil : i < l.length := by omega
    obtain ⟨hk, hv⟩ := hpair i hi hil
    have hnd : l[i].1 ∉ done := by have := h11 i hi hil; rw [hes] at this; simpa using this.symm
    have hr1 : w1.heap[r]? = some (.mapIter (some b) since seen c0) := by rcases hal with rfl | rfl <;> exact h5
    have hb1 : w1.heap[b]? = some (.map es clock) := by rcases hal with rfl | rfl <;> exact h1
    have hset := MapKept.heap_set (o' := .mapIter (some b) since (seen.push es[i].born) clock) hr1
    have hbb : (setBlock w1 r (.mapIter (some b) since (seen.push es[i].born) clock)).heap[b]? = some (.map es clock) := (hset.2 b hne).trans hb1
    have hent := run_entry_at (P := P) _ r b since seen es clock es[i] hset.1 hbb hem h3
    rw [hk, hv] at hrun hent
    refine .inr ⟨l[i].1, l[i].2, _, List.mem_map.2 ⟨_, List.getElem_mem hil, rfl⟩, hnd, hrun, ⟨es, clock, since, seen.push es[i].born, clock, hbb, h2, h3, h4, hset.1, h6, h8, h8, ?_, ?_, ?_⟩, ?_, ?_, hent⟩
    · rw [List.nodup_append]; exact ⟨h9, by simp, fun a ha b hb => by simp at hb; subst hb; exact fun e => hnd (e ▸ ha)⟩
    · intro x hx
      rcases List.mem_append.1 hx with h | h
      · exact h10 x h
      · simp at h; subst h; exact List.mem_map.2 ⟨_, List.getElem_mem hil, rfl⟩
    · intro j hj hjl
      rw [contains_push, h11 j hj hjl]
      have hb : (es[j].born == es[i].born) = decide (l[j].1 = l[i].1) := by
        by_cases e : j = i
        · subst e; simp
        · have n1 : es[j].born ≠ es[i].born := fun hh => e (nodup_inj h3 (i := j) (j := i) (by simpa using hj) (by simpa using hi) (by simpa using hh))
          have n2 : l[j].1 ≠ l[i].1 := fun hh => e (nodup_inj h4 (i := j) (j := i) (by simpa using hjl) (by simpa using hil) (by simpa using hh))
          simp [n1, n2]
      rw [hb]; simp
    · rcases hal with rfl | rfl <;> exact ⟨rfl, rfl, rfl, by simp [setBlock], fun i _ hi => hset.2 i hi⟩
    · rcases hal with rfl | rfl <;> simp [setBlock]
/-- Nothing is left. -/
def AllCame (l : List (κ × ν)) (done : List κ) : Prop := ∀ x ∈ l.map (·.1), x ∈ done
/-- The key x has come. -/
structure Comes (P : Program) (w w' : World) (b r : Nat) (ek : κ → Value) (ev : ν → Value) (l : List (κ × ν)) (done : List κ) (x : κ) (v : ν) : Prop where
  mem : x ∈ l.map (·.1)
  new : x ∉ done
  range : RangeM w' b r ek ev l (done ++ [x])
  keeps : Keeps (fun i => i = r) w w'
  size : w'.heap.size = w.heap.size
  entry : (Instr.entry (.pointer (some ⟨r, 0, none⟩))).run P w' = .ok (.tuple #[ek x, ev v]) w'
variable {ops : Array Oper} {rest : List Oper} {o : Oper} {a : Act} {Q : Exit → Act → World → Prop}
theorem wp_range {w : World} (hg : o.guard = none) (m : Operand) (t : TypeId) (hop : o.op = Op.range t m) (e : TypeId) (ht : P.underlying t = some (.map k e)) (b : Nat) (l : List (κ × ν)) (hm : a.eval m = .map (some b)) (hown : MapL w b ek ev l)
    (hK : ∀ w', RangeM w' b w.heap.size ek ev l [] → Keeps (fun _ => False) w w' → wpList P ops Q rest (a.put o.dst (.pointer (some ⟨w.heap.size, 0, none⟩))) w') : wpList P ops Q (o :: rest) a w := by
  refine wpList_plain hg fun K' hK' => ?_
  obtain ⟨w', hrun, r1, r2⟩ := hown.range (P := P) ht
  unfold Oper.wp
  simp [execOp, hop, hm, hrun, Result.andThen]
  exact hK' _ _ (hK w' r1 r2)
theorem wp_next {w : World} (hg : o.guard = none) (it : Operand) (hop : o.op = Op.next it false) (b r : Nat) (l : List (κ × ν)) (done : List κ) (hit : a.eval it = .pointer (some ⟨r, 0, none⟩)) (h : RangeM w b r ek ev l done)
    (hDone : AllCame l done → wpList P ops Q rest (a.put o.dst (.tuple #[.bool false])) w)
    (hMore : ∀ x v w', Comes P w w' b r ek ev l done x v → wpList P ops Q rest (a.put o.dst (.tuple #[.bool true, ek x, ev v])) w') : wpList P ops Q (o :: rest) a w := by
  refine wpList_plain hg fun K' hK' => ?_
  unfold Oper.wp
  rcases h.next (P := P) o.type with ⟨hd, hrun⟩ | ⟨x, v, w', hx, hn, hrun, hrg, hk, hsz, hen⟩
  · simp [execOp, hop, hit, hrun, Result.andThen]
    exact hK' _ _ (hDone hd)
  · simp [execOp, hop, hit, hrun, Result.andThen]
    exact hK' _ _ (hMore x v w' ⟨hx, hn, hrg, hk, hsz, hen⟩)
end Go.Proofs.YthiclhbnggehoaaGreatDoor
