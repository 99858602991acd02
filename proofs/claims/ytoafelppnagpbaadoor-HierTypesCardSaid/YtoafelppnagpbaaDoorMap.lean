/- Maps of the call's own, as lists of pairs in the order in which the keys came. -/
import Derived.Test.YtoafelppnagpbaaDoorMem
import Derived.Maps.OwnOps
namespace Go.Proofs.YtoafelppnagpbaaDoor
open Go.RowKit
set_option linter.unusedVariables false
set_option linter.unusedSimpArgs false
set_option linter.unusedSectionVars false
/-- How keys of a kind are written, and that the model tells them apart. -/
structure KeyTy (P : Program) (k : TypeId) {κ : Type} [DecidableEq κ] (ek : κ → Value) : Prop where
  same : ∃ d, P.underlying k = some d ∧ ∀ a b, Instr.sameNow d (ek a) (ek b) = some (decide (a = b))
  check : ∀ (e : Bool) (a : κ) (w : World), (Instr.checkKey e 10000 k (ek a)).run P w = .ok () w
  bits : ∀ a, Instr.sameBits 10000 (ek a) (ek a) = true
theorem beqBytes (a b : ByteArray) : (a == b) = decide (a = b) := by
  have h : (a == b) = (a.data == b.data) := rfl
  rw [h, Bool.eq_iff_iff, decide_eq_true_iff, beq_iff_eq]
  exact ⟨ByteArray.ext, fun h => by rw [h]⟩
theorem keyStr {P : Program} {k : TypeId} (h : P.underlying k = some .string) : KeyTy P k Value.string :=
  ⟨⟨_, h, fun a b => by simp only [Instr.sameNow, beqBytes]⟩, fun e a w => MapKept.run_checkKey (k := .string a) h trivial e 9999, fun a => by show (a == a) = true; rw [beqBytes]; simp⟩
theorem keyInt {P : Program} {k : TypeId} (h : P.underlying k = some (.int .i64)) : KeyTy P k (Value.int .i64) :=
  ⟨⟨_, h, fun a b => by simp only [Instr.sameNow, if_true]; congr 1⟩, fun e a w => MapKept.run_checkKey (k := .int .i64 a) h rfl e 9999, fun a => by simp [Instr.sameBits]⟩
variable {κ ν : Type} [DecidableEq κ]
/-- What a list of pairs holds for a key. -/
def findL (l : List (κ × ν)) (k : κ) : Option ν := (l.find? fun p => decide (p.1 = k)).map (·.2)
/-- A store: in place, or behind all others. -/
def putL : List (κ × ν) → κ → ν → List (κ × ν)
  | [], k, v => [(k, v)]
  | p :: r, k, v => if p.1 = k then (k, v) :: r else p :: putL r k v
def MapL (w : World) (b : Nat) (ek : κ → Value) (ev : ν → Value) (l : List (κ × ν)) : Prop :=
  ∃ es clock, w.heap[b]? = some (.map es clock) ∧ es.toList.map (fun e => (e.key, e.val)) = l.map (fun p => (ek p.1, ev p.2)) ∧ (es.toList.map (·.born)).Pairwise (· ≠ ·) ∧ (∀ e ∈ es.toList, e.born < clock) ∧ (l.map (·.1)).Nodup
variable {P : Program} {k : TypeId} {ek : κ → Value} {ev : ν → Value}
theorem MapL.keep {S : Nat → Prop} {w w' : World} {b : Nat} {l : List (κ × ν)} (h : MapL w b ek ev l) (hk : Keeps S w w') (hs : ¬ S b) : MapL w' b ek ev l := by
  obtain ⟨es, c, h1, h2⟩ := h; exact ⟨es, c, hk.blk h1 hs, h2⟩
theorem MapL.lt {w : World} {b : Nat} {l : List (κ × ν)} (h : MapL w b ek ev l) : b < w.heap.size := by
  obtain ⟨es, c, h1, h2⟩ := h; exact blkLt h1
theorem MapL.made (w : World) : MapL (w.alloc (.map #[] 0)) w.heap.size ek ev ([] : List (κ × ν)) :=
  ⟨#[], 0, heap_alloc_new w _, by simp, by simp, by simp, by simp⟩
theorem findNow_eq {d : TypeDesc} (hd : ∀ a b, Instr.sameNow d (ek a) (ek b) = some (decide (a = b))) (x : κ) : ∀ (es : List MapEntry) (l : List (κ × ν)) (i : Nat), es.map (fun e => (e.key, e.val)) = l.map (fun p => (ek p.1, ev p.2)) →
    (∃ v j, findL l x = some v ∧ Instr.findNow d (ek x) es i = some (some (i + j, ev v)) ∧ (∀ w, (es.set j w).map (fun e => (e.key, e.val)) = (l.map (fun p => (ek p.1, ev p.2))).set j (w.key, w.val)) ∧ (∀ u, putL l x u = l.set j (x, u)) ∧ (l[j]?).map (·.1) = some x ∧ j < es.length) ∨
    (findL l x = none ∧ Instr.findNow d (ek x) es i = some none ∧ (∀ u, putL l x u = l ++ [(x, u)]) ∧ x ∉ l.map (·.1))
  | [], [], i, _ => .inr ⟨rfl, rfl, fun _ => rfl, by simp⟩
  | [], _ :: _, _, h => by simp at h
  | _ :: _, [], _, h => by simp at h
  | e :: es, p :: l, i, h => by
    simp only [List.map_cons, List.cons.injEq, Prod.mk.injEq] at h
    obtain ⟨⟨h1, h2⟩, h3⟩ := h
    simp only [Instr.findNow, h1, hd]
    by_cases hx : x = p.1
    · left
      refine ⟨p.2, 0, by simp [findL, hx], by simp [hx, h2], fun w => by simp [h3], fun u => by simp [putL, hx], by simp [hx], by simp⟩
    · have hx' : ¬ p.1 = x := fun e => hx e.symm
      simp only [hx, decide_false]
      rcases findNow_eq hd x es l (i + 1) h3 with ⟨v, j, g1, g2, g3, g4, g5, g6⟩ | ⟨g1, g2, g3, g4⟩
      · left
        refine ⟨v, j + 1, by simpa [findL, hx'] using g1, by rw [g2]; congr 3; omega, fun w => by simp [h1, h2, g3], fun u => by simp [putL, hx', g4], by simpa using g5, by simpa using g6⟩
      · right
        exact ⟨by simpa [findL, hx'] using g1, g2, fun u => by simp [putL, hx', g3], by simpa [hx] using g4⟩
/-- 'm[x]': the world stays. -/
theorem MapL.look {w : World} {b : Nat} {l : List (κ × ν)} {t e : TypeId} (h : MapL w b ek ev l) (K : KeyTy P k ek) (ht : P.underlying t = some (.map k e)) {z : Value} (hz : (zeroValue e).run P w = .ok z w) (x : κ) (ok : Bool) :
    (Instr.lookup t (.map (some b)) (ek x) ok).run P w = .ok (if ok then .tuple #[((findL l x).map ev).getD z, .bool (findL l x).isSome] else ((findL l x).map ev).getD z) w := by
  obtain ⟨es, c, h1, h2, _⟩ := h
  obtain ⟨d, hd, hs⟩ := K.same
  rcases findNow_eq hs x es.toList l 0 h2 with ⟨v, j, g1, g2, _⟩ | ⟨g1, g2, _⟩ <;>
    cases ok <;> simp [Instr.lookup, run_underlying ht, MapKept.run_getObj_map h1, K.check, Instr.findKey, run_underlying hd, g2, g1, hz]
theorem setL_map {α β : Type} (f : α → β) (l : List α) (j : Nat) (x : α) : (l.set j x).map f = (l.map f).set j (f x) := List.map_set
theorem putL_nodup {l : List (κ × ν)} {x : κ} {u : ν} (h : (l.map (·.1)).Nodup) : ((putL l x u).map (·.1)).Nodup ∧ ∀ y, y ∈ (putL l x u).map (·.1) ↔ y = x ∨ y ∈ l.map (·.1) := by
  induction l with
  | nil => simp [putL]
  | cons p r ih =>
    simp only [List.map_cons, List.nodup_cons] at h
    obtain ⟨h1, h2⟩ := ih h.2
    unfold putL
    split
    · rename_i e
      subst e
      exact ⟨by simpa using h, by simp⟩
    · rename_i e
      refine ⟨?_, fun y => ?_⟩
      · simp only [List.map_cons, List.nodup_cons]
        exact ⟨fun hm => by rcases (h2 _).1 hm with h | h' <;> simp_all, h1⟩
      · simp only [List.map_cons, List.mem_cons, h2]
        constructor
        · rintro (h | h | h) <;> simp [h]
        · rintro (h | h | h) <;> simp [h]
/-- 'm[x] = v' -/
theorem MapL.put {w : World} {b : Nat} {l : List (κ × ν)} {t e : TypeId} (h : MapL w b ek ev l) (K : KeyTy P k ek) (ht : P.underlying t = some (.map k e)) (x : κ) (v : ν) :
    ∃ w', (Instr.mapUpdate t (.map (some b)) (ek x) (ev v)).run P w = .ok () w' ∧ MapL w' b ek ev (putL l x v) ∧ Keeps (fun i => i = b) w w' ∧ w'.heap.size = w.heap.size := by
  obtain ⟨es, c, h1, h2, h3, h4, h5⟩ := h
  obtain ⟨d, hd, hs⟩ := K.same
  have hb := blkLt h1
  have keeps : ∀ o, Keeps (fun i => i = b) w { w with heap := w.heap.setIfInBounds b o } := fun o => ⟨rfl, rfl, rfl, by simp, fun i hi hn => by have : ¬ b = i := fun e => hn e.symm; simp [Array.getElem?_setIfInBounds, this]⟩
  have at_ : ∀ o, ({ w with heap := w.heap.setIfInBounds b o } : World).heap[b]? = some o := fun o => by simp [hb]
  rcases findNow_eq hs x es.toList l 0 h2 with ⟨u, j, g1, g2, g3, g4, g5, g6⟩ | ⟨g1, g2, g3, g4⟩
  · have hj : j < es.size := by simpa using g6
    have hkey : es[j].key = ek x := by
      have e1 : (es.toList.map (fun e => (e.key, e.val)))[j]? = (l.map (fun p => (ek p.1, ev p.2)))[j]? := by rw [h2]
      simp only [List.getElem?_map, Array.getElem?_toList, Array.getElem?_eq_getElem hj, Option.map_some] at e1
      cases hl : l[j]? with
      | none => rw [hl] at g5; simp at g5
      | some p => rw [hl] at g5 e1; simp at g5 e1; rw [e1.1, g5]
    have hmod : (es.modify j fun e => { e with key := ek x, val := ev v }).toList = es.toList.set j { es[j] with key := ek x, val := ev v } := by
      rw [Array.toList_modify]
      have : Inhabited MapEntry := ⟨es[j]⟩
      rw [List.modify_eq_set]
      simp [hj]
    refine ⟨{ w with heap := w.heap.setIfInBounds b (.map (es.modify j fun e => { e with key := ek x, val := ev v }) c) }, ?_, ⟨_, _, at_ _, ?_, ?_, ?_, (putL_nodup h5).1⟩, keeps _, by simp⟩
    · simp [Instr.mapUpdate, run_underlying ht, MapKept.run_getObj_map h1, K.check, Instr.findKey, run_underlying hd, g2, hj, hkey, Instr.keyThatStays, K.bits, MapKept.run_setObj_map _ h1]
    · rw [hmod, g3, g4, setL_map]
    · rw [hmod, setL_map]
      have : (es.toList.map (·.born)).set j es[j].born = es.toList.map (·.born) := by
        have hj' : j < (es.toList.map (·.born)).length := by simpa using hj
        have := List.set_getElem_self hj'
        simpa using this
      rw [this]; exact h3
    · intro e he
      rw [hmod] at he
      rcases List.mem_or_eq_of_mem_set he with h | rfl
      · exact h4 e h
      · exact h4 es[j] (by simp)
  · refine ⟨{ w with heap := w.heap.setIfInBounds b (.map (es.push { key := ek x, val := ev v, born := c }) (c + 1)) }, ?_, ⟨_, _, at_ _, ?_, ?_, ?_, (putL_nodup h5).1⟩, keeps _, by simp⟩
    · simp [Instr.mapUpdate, run_underlying ht, MapKept.run_getObj_map h1, K.check, Instr.findKey, run_underlying hd, g2, MapKept.run_setObj_map _ h1]
    · simp [h2, g3]
    · simp only [Array.toList_push, List.map_append, List.map_cons, List.map_nil]
      rw [List.pairwise_append]
      refine ⟨h3, by simp, fun a ha b' hb' => ?_⟩
      simp only [List.mem_singleton] at hb'
      obtain ⟨e, he, rfl⟩ := List.mem_map.1 ha
      have := h4 e he
      omega
    · intro e he
      simp only [Array.toList_push, List.mem_append, List.mem_singleton] at he
      rcases he with h | rfl
      · have := h4 e h; omega
      · simp
variable {ops : Array Oper} {rest : List Oper} {o : Oper} {a : Act} {Q : Exit → Act → World → Prop}
theorem wp_look {w : World} (hg : Region.wanted o (yielded ops a.tmps) = true) (m x : Operand) (t : TypeId) (ok : Bool) (hop : o.op = Op.lookup t m x ok) (e : TypeId) (K : KeyTy P k ek) (ht : P.underlying t = some (.map k e)) (b : Nat) (l : List (κ × ν)) (hown : MapL w b ek ev l) (hm : a.eval m = .map (some b))
    (z : Value) (hz : (zeroValue e).run P w = .ok z w) (key : κ) (hx : a.eval x = ek key) (h : wpList P ops Q rest (a.put o.dst (if ok then .tuple #[((findL l key).map ev).getD z, .bool (findL l key).isSome] else ((findL l key).map ev).getD z)) w) : wpList P ops Q (o :: rest) a w := by
  refine wpList_step fun K' hK' => ?_
  rw [if_pos hg]
  have hrun := hown.look K ht hz key ok
  unfold Oper.wp
  simp only [execOp, hop, hm, hx, Sem.run_bind, hrun, Result.andThen_ok, Sem.run_pure]
  exact hK' _ _ h
theorem wp_put {w : World} (hg : Region.wanted o (yielded ops a.tmps) = true) (m x v : Operand) (t : TypeId) (hop : o.op = Op.mapUpdate t m x v) (e : TypeId) (K : KeyTy P k ek) (ht : P.underlying t = some (.map k e)) (b : Nat) (l : List (κ × ν)) (hown : MapL w b ek ev l) (hm : a.eval m = .map (some b))
    (key : κ) (hx : a.eval x = ek key) (u : ν) (hv : a.eval v = ev u) (h : ∀ w', MapL w' b ek ev (putL l key u) → Keeps (fun i => i = b) w w' → wpList P ops Q rest (a.put o.dst undef) w') : wpList P ops Q (o :: rest) a w := by
  refine wpList_step fun K' hK' => ?_
  rw [if_pos hg]
  obtain ⟨w', hrun, r1, r2, _⟩ := hown.put K ht key u
  unfold Oper.wp
  simp [execOp, hop, hm, hx, hv, hrun, Result.andThen]
  exact hK' _ _ (h w' r1 r2)
end Go.Proofs.YtoafelppnagpbaaDoor
