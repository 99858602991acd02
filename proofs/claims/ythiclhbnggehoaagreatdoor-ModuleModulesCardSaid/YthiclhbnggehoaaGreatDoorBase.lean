/- What the walks share that no package names: shapes, rows of concepts and ints, sizes of what is valid. -/
import Derived.Test.YthiclhbnggehoaaGreatDoorCons
import Derived.Deep.Onto
namespace Go.Proofs.YthiclhbnggehoaaGreatDoor
open Go.RowKit
theorem infoInt : (Tryz.prog.info? 3).map (fun i => (i.zero, i.size, i.bytes)) = some (some (.int .i64 0), 1, 8) := by kernel_rfl
/-- A row of ints of the call's own. -/
def OwnInts (w : World) (base : Nat) (v : Value) (l : List Int) : Prop := w.ownsRow base 3 1 v l.length (l.map (Value.int .i64))
theorem OwnInts.nil (w : World) (base : Nat) : OwnInts w base (.slice none 0 0) [] := World.ownsRow_nil _ _ _ _
theorem filter_range_succ (p : Nat → Bool) (k : Nat) : (List.range (k + 1)).filter p = (List.range k).filter p ++ (if p k then [k] else []) := by
  rw [List.range_succ, List.filter_append]; cases h : p k <;> simp [h]
mutual
/-- Operators in range, and as many arguments as they take. -/
def shapeC : Con → Bool
  | ⟨op, _, args⟩ => decide (0 ≤ op ∧ op ≤ 7) && decide ((args.length : Int) = arityZ op) && shapeL args
def shapeL : List Con → Bool
  | [] => true
  | c :: r => shapeC c && shapeL r
end
theorem shapeL_at : ∀ {l : List Con}, shapeL l = true → ∀ i (h : i < l.length), shapeC l[i] = true
  | c :: r, h, 0, _ => by simp only [shapeL, Bool.and_eq_true] at h; simpa using h.1
  | c :: r, h, i + 1, hi => by simp only [shapeL, Bool.and_eq_true] at h; simpa using shapeL_at h.2 i (by simpa using hi)
mutual
theorem shape_of_valid {nc nr : Nat} : ∀ {c : Con} {x y : Int}, (validC nc nr c x y).1 = true → shapeC c = true
  | ⟨op, n, args⟩, x, y, h => by
    simp only [validC] at h
    split at h
    · simp at h
    · rename_i hb
      split at h
      · simp only [shapeC, Bool.and_eq_true, decide_eq_true_eq]
        exact ⟨⟨by omega, by omega⟩, shapeL_of_valid h⟩
      · simp at h
theorem shapeL_of_valid {nc nr : Nat} : ∀ {l : List Con} {x y : Int}, (validL nc nr l x y).1 = true → shapeL l = true
  | [], _, _, _ => rfl
  | c :: r, x, y, h => by
    simp only [validL] at h
    split at h
    · rename_i hc
      simp only [shapeL, Bool.and_eq_true]
      exact ⟨shape_of_valid hc, shapeL_of_valid h⟩
    · rename_i hc; exact absurd h hc
end
theorem infoCon : (Tryz.prog.info? 37).map (fun i => (i.zero, i.size, i.bytes)) = some (some (.agg #[.int .i64 0, .int .i64 0, .slice none 0 0]), 3, 40) := by kernel_rfl
theorem Keeps.free {S : Nat → Prop} {w w' : World} (h : Keeps S w w') {b o : Nat} (hb : b < w.heap.size) (hs : ¬ S b) : w'.frozen? ⟨b, o, none⟩ = w.frozen? ⟨b, o, none⟩ := World.frozen?_of_block (w := w) (h.block b hb hs)
theorem Keeps.set1 (w : World) (g o : Nat) (u : Value) : Keeps (fun i => i = g) w (w.setCell ⟨g, o, none⟩ u) := Keeps.set (g := g) (Keeps.refl (fun i => i = g) w) (Or.inl (by rfl)) u
/-- A concept is returned, in new memory. -/
def RetCon (r : Con) (w : World) (e : Ending) (w' : World) : Prop :=
  ∃ A cap, e = .returned (.agg #[.int .i64 r.op, .int .i64 r.n, .slice A r.args.length cap]) ∧ ConR (fun b => w.heap.size ≤ b) w' r [.int .i64 r.op, .int .i64 r.n, .slice A r.args.length cap] ∧ Keeps (fun _ => False) w w'
theorem conR_leaf (ok : Nat → Prop) (w : World) (op n : Int) : ConR ok w ⟨op, n, []⟩ [.int .i64 op, .int .i64 n, .slice none 0 0] := by
  simp only [ConR]; exact ⟨none, 0, rfl, Nat.le_refl _, fun h => absurd rfl h⟩
theorem RetCon.of {r : Con} {w w' : World} {A : Option Addr} {cap : Nat} (h : ConR (fun b => w.heap.size ≤ b) w' r [.int .i64 r.op, .int .i64 r.n, .slice A r.args.length cap]) (hk : Keeps (fun _ => False) w w') : RetCon r w (.returned (.agg #[.int .i64 r.op, .int .i64 r.n, .slice A r.args.length cap])) w' := ⟨A, cap, rfl, h, hk⟩
mutual
/-- Valid over so many names, of whatever size. -/
def fitC (nc nr : Nat) : Con → Bool
  | ⟨op, n, args⟩ => decide (0 ≤ op ∧ op ≤ 7) && decide ((args.length : Int) = arityZ op) && nodeOk nc nr op n && fitL nc nr args
def fitL (nc nr : Nat) : List Con → Bool
  | [] => true
  | c :: r => fitC nc nr c && fitL nc nr r
end
theorem fitL_at {nc nr : Nat} : ∀ {l : List Con}, fitL nc nr l = true → ∀ i (h : i < l.length), fitC nc nr l[i] = true
  | c :: r, h, 0, _ => by simp only [fitL, Bool.and_eq_true] at h; simpa using h.1
  | c :: r, h, i + 1, hi => by simp only [fitL, Bool.and_eq_true] at h; simpa using fitL_at h.2 i (by simpa using hi)
mutual
theorem fit_of_valid {nc nr : Nat} : ∀ {c : Con} {x y : Int}, (validC nc nr c x y).1 = true → fitC nc nr c = true
  | ⟨op, n, args⟩, x, y, h => by
    simp only [validC] at h
    split at h
    · simp at h
    · rename_i hb
      split at h
      · rename_i hn
        simp only [fitC, Bool.and_eq_true, decide_eq_true_eq]
        exact ⟨⟨⟨by omega, by omega⟩, hn⟩, fitL_of_valid h⟩
      · simp at h
theorem fitL_of_valid {nc nr : Nat} : ∀ {l : List Con} {x y : Int}, (validL nc nr l x y).1 = true → fitL nc nr l = true
  | [], _, _, _ => rfl
  | c :: r, x, y, h => by
    simp only [validL] at h
    split at h
    · rename_i hc
      simp only [fitL, Bool.and_eq_true]
      exact ⟨fit_of_valid hc, fitL_of_valid h⟩
    · rename_i hc; exact absurd h hc
end
mutual
theorem shape_of_fit {nc nr : Nat} : ∀ {c : Con}, fitC nc nr c = true → shapeC c = true
  | ⟨op, n, args⟩, h => by
    simp only [fitC, Bool.and_eq_true] at h
    simp only [shapeC, Bool.and_eq_true]
    exact ⟨h.1.1, shapeL_of_fit h.2⟩
theorem shapeL_of_fit {nc nr : Nat} : ∀ {l : List Con}, fitL nc nr l = true → shapeL l = true
  | [], _ => rfl
  | c :: r, h => by
    simp only [fitL, Bool.and_eq_true] at h
    simp only [shapeL, Bool.and_eq_true]
    exact ⟨shape_of_fit h.1, shapeL_of_fit h.2⟩
end
/-- A slice of concepts. -/
def ConsAt (ok : Nat → Prop) (w : World) (l : List Con) (A : Option Addr) : Prop := l ≠ [] → ∃ b o, A = some ⟨b, o, none⟩ ∧ ok b ∧ ConsR ok w l b o
theorem ConsAt.keep {ok S : Nat → Prop} {w w' : World} {l : List Con} {A : Option Addr} (h : ConsAt ok w l A) (hk : Keeps S w w') (hs : ∀ k, ok k → ¬ S k) : ConsAt ok w' l A := fun hl => by
  obtain ⟨b, o, e, hb, hr⟩ := h hl
  exact ⟨b, o, e, hb, hr.keep hk hs hb⟩
theorem ConsAt.lim {ok : Nat → Prop} {w : World} {l : List Con} {A : Option Addr} (h : ConsAt ok w l A) : ConsAt (fun k => ok k ∧ k < w.heap.size) w l A := fun hl => by
  obtain ⟨b, o, e, hb, hr⟩ := h hl
  refine ⟨b, o, e, ⟨hb, ?_⟩, hr.lim (hr.pos (List.length_pos_iff.2 hl))⟩
  obtain ⟨_, _, e0, _⟩ := hr.at_ 0 (List.length_pos_iff.2 hl)
  exact World.block_lt_of_cell? w _ e0
def okC (nc nr : Nat) (c : Con) : Bool := (validC nc nr c 400 1).1
def allOk (nc nr : Nat) (l : List Con) : Bool := l.all (okC nc nr)
def fineE (valid : Bool) (nc nr : Nat) (l : List Con) : Int := if valid then if allOk nc nr l then 0 else 10 else 20
theorem allOk_drop (nc nr : Nat) (l : List Con) (k : Nat) (h : k < l.length) : allOk nc nr (l.drop k) = (okC nc nr l[k] && allOk nc nr (l.drop (k + 1))) := by
  unfold allOk; rw [List.drop_eq_getElem_cons h]; rfl
theorem fit_parts {nc nr : Nat} {op n : Int} {args : List Con} (h : fitC nc nr ⟨op, n, args⟩ = true) : (0 ≤ op ∧ op ≤ 7) ∧ (args.length : Int) = arityZ op ∧ nodeOk nc nr op n = true ∧ fitL nc nr args = true := by
  simp only [fitC, Bool.and_eq_true, decide_eq_true_eq] at h
  exact ⟨h.1.1.1, h.1.1.2, h.1.2, h.2⟩
theorem fit_mk {nc nr : Nat} {op n : Int} {args : List Con} (h1 : 0 ≤ op ∧ op ≤ 7) (h2 : (args.length : Int) = arityZ op) (h3 : nodeOk nc nr op n = true) (h4 : fitL nc nr args = true) : fitC nc nr ⟨op, n, args⟩ = true := by
  simp only [fitC, Bool.and_eq_true, decide_eq_true_eq]
  exact ⟨⟨⟨h1, h2⟩, h3⟩, h4⟩
theorem fit_atom {nc nr : Nat} {n : Int} (h0 : 0 ≤ n) (h1 : n < nc) : fitC nc nr ⟨0, n, []⟩ = true := fit_mk (by omega) (by decide) (by simp [nodeOk]; omega) rfl
set_option linter.unusedVariables false
set_option linter.unusedSimpArgs false
mutual
theorem validC_size {nc nr : Nat} : ∀ {c : Con} {x y : Int}, (validC nc nr c x y).1 = true → (validC nc nr c x y).2 = x - c.size ∧ 0 ≤ x - c.size
  | ⟨op, n, args⟩, x, y, h => by
    simp only [validC] at h ⊢
    split at h
    · simp at h
    · rename_i hb
      rw [if_neg hb]
      split at h
      · rename_i hn
        rw [if_pos hn]
        have := validL_size h
        simp only [Con.size]
        push_cast
        constructor
        · rw [this.1]; omega
        · have := this.2 (by omega); omega
      · simp at h
theorem validL_size {nc nr : Nat} : ∀ {l : List Con} {x y : Int}, (validL nc nr l x y).1 = true → (validL nc nr l x y).2 = x - Con.sizes l ∧ (0 ≤ x → 0 ≤ x - Con.sizes l)
  | [], x, y, _ => by simp [validL, Con.sizes]
  | c :: r, x, y, h => by
    simp only [validL] at h ⊢
    split at h
    · rename_i hc
      rw [if_pos hc]
      have h1 := validC_size hc
      have h2 := validL_size h
      simp only [Con.sizes]
      push_cast
      rw [h2.1]
      constructor
      · rw [h1.1]; omega
      · intro _; have := h2.2 (by rw [h1.1]; exact h1.2); rw [h1.1] at this; omega
    · rename_i hc; exact absurd h hc
end
def inclsSz (l : List (Con × Con)) : Nat := (l.map fun p => p.1.size + p.2.size).sum
def factsSz (l : List (Int × Con)) : Nat := (l.map fun p => p.2.size).sum
theorem inclsV_facts {nc nr : Nat} : ∀ {l : List (Con × Con)} {x : Int}, (inclsV nc nr l x).1 = true → (inclsV nc nr l x).2 = x - inclsSz l ∧ (0 ≤ x → 0 ≤ x - inclsSz l) ∧ ∀ p ∈ l, fitC nc nr p.1 = true ∧ fitC nc nr p.2 = true
  | [], x, _ => by simp [inclsV, inclsSz]
  | p :: r, x, h => by
    simp only [inclsV] at h ⊢
    split at h
    · rename_i h1
      split at h
      · rename_i h2
        rw [if_pos h1, if_pos h2]
        have a1 := validC_size h1
        have a2 := validC_size h2
        obtain ⟨a3, a4, a5⟩ := inclsV_facts h
        simp only [inclsSz, List.map_cons, List.sum_cons] at a3 a4 ⊢
        push_cast
        rw [a3]
        refine ⟨by rw [a2.1, a1.1]; omega, fun h0 => ?_, fun q hq => ?_⟩
        · have := a4 (by rw [a2.1]; exact a2.2); rw [a2.1, a1.1] at this; omega
        · rcases List.mem_cons.1 hq with rfl | hq
          · exact ⟨fit_of_valid h1, fit_of_valid h2⟩
          · exact a5 q hq
      · rename_i h2; exact absurd h h2
    · rename_i h1; exact absurd h h1
theorem factsV_facts {nc nr ni : Nat} : ∀ {l : List (Int × Con)} {x : Int}, (factsV nc nr ni l x).1 = true → (factsV nc nr ni l x).2 = x - factsSz l ∧ (0 ≤ x → 0 ≤ x - factsSz l) ∧ ∀ p ∈ l, fitC nc nr p.2 = true
  | [], x, _ => by simp [factsV, factsSz]
  | p :: r, x, h => by
    simp only [factsV] at h ⊢
    split at h
    · rename_i h0
      rw [if_pos h0]
      split at h
      · rename_i h1
        rw [if_pos h1]
        have a1 := validC_size h1
        obtain ⟨a3, a4, a5⟩ := factsV_facts h
        simp only [factsSz, List.map_cons, List.sum_cons] at a3 a4 ⊢
        push_cast
        rw [a3]
        refine ⟨by rw [a1.1]; omega, fun h0 => ?_, fun q hq => ?_⟩
        · have := a4 (by rw [a1.1]; exact a1.2); rw [a1.1] at this; omega
        · rcases List.mem_cons.1 hq with rfl | hq
          · exact fit_of_valid h1
          · exact a5 q hq
      · rename_i h1; exact absurd h h1
    · simp at h
theorem names_small {cs rs is : List ByteArray} (h : validNamesB cs rs is = true) : cs.length ≤ 16 ∧ rs.length ≤ 6 ∧ is.length ≤ 10 ∧ ∀ s ∈ cs ++ rs ++ is, s.size ≤ 12 := by
  simp only [validNamesB, Bool.and_eq_true, decide_eq_true_eq] at h
  obtain ⟨⟨⟨h1, h2⟩, h3⟩, h4⟩ := h
  refine ⟨h1, h2, h3, fun s hs => ?_⟩
  obtain ⟨i, hi, rfl⟩ := List.getElem_of_mem hs
  unfold namesFrom at h4
  rw [List.all_eq_true] at h4
  have := h4 i (by rw [List.mem_range']; exact ⟨i, by omega, by omega⟩)
  simp only [Bool.and_eq_true, List.getD, List.getElem?_eq_getElem hi, Option.getD_some, nameB, decide_eq_true_eq] at this
  exact this.1.1.1.1.2
theorem sizes_append (a b : List Con) : Con.sizes (a ++ b) = Con.sizes a + Con.sizes b := by
  induction a with
  | nil => simp [Con.sizes]
  | cons c r ih => simp only [List.cons_append, Con.sizes, ih]; omega
theorem okC_facts {nc nr : Nat} {c : Con} (h : okC nc nr c = true) : fitC nc nr c = true ∧ c.size ≤ 400 := ⟨fit_of_valid h, by have := validC_size h; omega⟩
theorem fine_zero {v : Bool} {nc nr : Nat} {l : List Con} (h : fineE v nc nr l = 0) : v = true ∧ allOk nc nr l = true := by
  unfold fineE at h
  split at h
  · rename_i hv
    split at h
    · rename_i ha; exact ⟨hv, ha⟩
    · cases h
  · cases h
mutual
/-- The parts of a concept, itself first. -/
def preC : Con → List Con
  | ⟨op, n, args⟩ => ⟨op, n, args⟩ :: preL args
def preL : List Con → List Con
  | [] => []
  | c :: r => preC c ++ preL r
end
theorem preL_take (l : List Con) (k : Nat) (h : k < l.length) : preL (l.take (k + 1)) = preL (l.take k) ++ preC l[k] := by
  induction l generalizing k with
  | nil => simp at h
  | cons c r ih => cases k with
    | zero => simp [preL]
    | succ k => simp only [List.take_succ_cons, preL, List.getElem_cons_succ, ih k (by simpa using h), List.append_assoc]
theorem preL_append (a b : List Con) : preL (a ++ b) = preL a ++ preL b := by
  induction a with
  | nil => simp [preL]
  | cons c r ih => simp only [List.cons_append, preL, ih, List.append_assoc]
theorem foldl_take {α β : Type} (f : β → α → β) (x : β) (l : List α) (k : Nat) (h : k < l.length) : (l.take (k + 1)).foldl f x = f ((l.take k).foldl f x) l[k] := by
  rw [List.take_succ_eq_append_getElem h, List.foldl_append]; rfl
theorem OwnCons.row {w : World} {base : Nat} {v : Value} {l : List Con} (h : OwnCons w base v l) : ∃ cells, w.ownsRow base 37 3 v l.length cells := by obtain ⟨c, h1, _⟩ := h; exact ⟨c, h1⟩
theorem OwnCons.consAt {w : World} {base : Nat} {v : Value} {l : List Con} (h : OwnCons w base v l) : ∃ A cap, v = .slice A l.length cap ∧ l.length ≤ cap ∧ ConsAt (fun k => base ≤ k) w l A := by
  obtain ⟨A, cap, hv, hc⟩ := h.node 0 0
  simp only [ConR] at hc
  obtain ⟨A1, cap1, e, hcap, hr⟩ := hc
  simp only [List.cons.injEq, Value.slice.injEq, and_true, true_and] at e
  obtain ⟨rfl, rfl⟩ := e
  exact ⟨A, cap, hv, hcap, hr⟩
theorem ConsAt.get {ok : Nat → Prop} {w : World} {l : List Con} {A : Option Addr} (h : ConsAt ok w l A) (k : Nat) (hk : k < l.length) : ∃ b o A' cap', A = some ⟨b, o, none⟩ ∧ ok b ∧ b < w.heap.size ∧ w.cell? ⟨b, o + k * 3, none⟩ = some (.int .i64 l[k].op) ∧ w.cell? ⟨b, o + k * 3 + 1, none⟩ = some (.int .i64 l[k].n) ∧ w.cell? ⟨b, o + k * 3 + 2, none⟩ = some (.slice A' l[k].args.length cap') ∧ ConR ok w l[k] [.int .i64 l[k].op, .int .i64 l[k].n, .slice A' l[k].args.length cap'] := by
  obtain ⟨b, o, e, hb, hr⟩ := h (by intro h; subst h; simp at hk)
  obtain ⟨A', cap', e0, e1, e2, hc⟩ := hr.at_ k hk
  exact ⟨b, o, A', cap', e, hb, World.block_lt_of_cell? w _ e0, e0, e1, e2, hc⟩
mutual
theorem preC_size : ∀ c : Con, (preC c).length = c.size
  | ⟨op, n, args⟩ => by simp only [preC, Con.size, List.length_cons, preL_size args]
theorem preL_size : ∀ l : List Con, (preL l).length = Con.sizes l
  | [] => rfl
  | c :: r => by simp only [preL, Con.sizes, List.length_append, preC_size c, preL_size r]
end
mutual
theorem pre_fit {nc nr : Nat} : ∀ {c : Con}, fitC nc nr c = true → ∀ d ∈ preC c, fitC nc nr d = true ∧ d.size ≤ c.size
  | ⟨op, n, args⟩, h, d, hd => by
    simp only [preC, List.mem_cons] at hd
    rcases hd with rfl | hd
    · exact ⟨h, Nat.le_refl _⟩
    · have := preL_fit (fit_parts h).2.2.2 d hd
      exact ⟨this.1, by simp only [Con.size]; omega⟩
theorem preL_fit {nc nr : Nat} : ∀ {l : List Con}, fitL nc nr l = true → ∀ d ∈ preL l, fitC nc nr d = true ∧ d.size ≤ Con.sizes l
  | [], _, d, hd => by simp [preL] at hd
  | c :: r, h, d, hd => by
    simp only [fitL, Bool.and_eq_true] at h
    simp only [preL, List.mem_append] at hd
    rcases hd with hd | hd
    · have := pre_fit h.1 d hd; exact ⟨this.1, by simp only [Con.sizes]; omega⟩
    · have := preL_fit h.2 d hd; exact ⟨this.1, by simp only [Con.sizes]; omega⟩
end
theorem putL_len {κ ν : Type} [DecidableEq κ] (l : List (κ × ν)) (x : κ) (u : ν) : (putL l x u).length ≤ l.length + 1 := by
  induction l with
  | nil => simp [putL]
  | cons p r ih => unfold putL; split <;> simp <;> omega
theorem putL_key {κ ν : Type} [DecidableEq κ] {l : List (κ × ν)} {x : κ} {u : ν} {y : κ} (h : y ∈ (putL l x u).map (·.1)) : y = x ∨ y ∈ l.map (·.1) := by
  induction l with
  | nil => simpa [putL] using h
  | cons p r ih =>
    unfold putL at h
    split at h
    · simp only [List.map_cons, List.mem_cons] at h ⊢
      rcases h with h | h
      · exact .inl h
      · exact .inr (.inr h)
    · simp only [List.map_cons, List.mem_cons] at h ⊢
      rcases h with h | h
      · exact .inr (.inl h)
      · rcases ih h with h | h
        · exact .inl h
        · exact .inr (.inr h)
theorem sizes_take (l : List Con) (k : Nat) : Con.sizes (l.take k) ≤ Con.sizes l := by
  induction l generalizing k with
  | nil => simp
  | cons c r ih =>
    cases k with
    | zero => simp [Con.sizes]
    | succ k => have := ih k; simp only [List.take_succ_cons, Con.sizes]; omega
theorem map_take_succ {α β : Type} (f : α → β) (l : List α) (k : Nat) (h : k < l.length) : (l.take (k + 1)).map f = (l.take k).map f ++ [f l[k]] := by rw [List.take_succ_eq_append_getElem h, List.map_append]; rfl
theorem len_sizes (l : List Con) : l.length ≤ Con.sizes l := by
  induction l with
  | nil => simp [Con.sizes]
  | cons c r ih => obtain ⟨op, n, args⟩ := c; simp only [List.length_cons, Con.sizes, Con.size]; omega
theorem sizes_at (l : List Con) (k : Nat) (h : k < l.length) : Con.sizes (l.take k) + l[k].size ≤ Con.sizes l := by
  induction l generalizing k with
  | nil => simp at h
  | cons c r ih =>
    cases k with
    | zero => simp [Con.sizes]
    | succ k => have := ih k (by simpa using h); simp only [List.take_succ_cons, List.getElem_cons_succ, Con.sizes]; omega
theorem OwnCons.lower {w : World} {base base' : Nat} {v : Value} {l : List Con} (h : OwnCons w base v l) (hb : base' ≤ base) : OwnCons w base' v l := by
  obtain ⟨cells, h1, h2⟩ := h
  exact ⟨cells, World.ownsRow.mono h1 hb, fun i hi => by obtain ⟨v0, v1, v2, e0, e1, e2, hc⟩ := h2 i hi; exact ⟨v0, v1, v2, e0, e1, e2, hc.mono (fun k hk => ⟨by omega, hk.2⟩)⟩⟩
theorem ownsSet3 {w : World} {base e g n cap : Nat} {cells : List Value} {z0 z1 z2 : Value} (v0 v1 v2 : Value) (h : w.ownsRow base e 3 (.slice (some ⟨g, 0, none⟩) (n + 1) cap) (n + 1) (cells ++ [z0, z1, z2])) (hl : cells.length = n * 3) :
    (((w.setCell ⟨g, n * 3, none⟩ v0).setCell ⟨g, n * 3 + 1, none⟩ v1).setCell ⟨g, n * 3 + 2, none⟩ v2).ownsRow base e 3 (.slice (some ⟨g, 0, none⟩) (n + 1) cap) (n + 1) (cells ++ [v0, v1, v2]) := by
  rcases h.2 with ⟨h, _⟩ | ⟨g', cap', cur, e1, hb, hg, h1, h2, h3, h4⟩
  · cases h
  · simp only [Value.slice.injEq, Option.some.injEq, Addr.mk.injEq, and_true, true_and] at e1
    obtain ⟨rfl, rfl⟩ := e1
    obtain ⟨cur', k1, k2, k3⟩ := setMany [v0, v1, v2] (n * 3) w cur hg (by rw [h3]; simp; omega)
    refine ⟨by simp [hl, Nat.add_mul], .inr ⟨g, cap, cur', rfl, hb, k1, h1, h2, by rw [k2]; exact h3, ?_⟩⟩
    have h5 : cur.toList.take (n * 3) = cells := by
      have := congrArg (List.take (n * 3)) h4
      rw [List.take_take, Nat.min_eq_left (by omega), List.take_left' hl] at this
      exact this
    rw [show (n + 1) * 3 = n * 3 + [v0, v1, v2].length by simp; omega, k3, h5]
theorem OwnCons.slice {w : World} {base : Nat} {v : Value} {l : List Con} (h : OwnCons w base v l) : ∃ A cap, v = .slice A l.length cap ∧ l.length ≤ cap := by
  obtain ⟨cells, h1, _⟩ := h
  rcases h1.2 with ⟨rfl, h0⟩ | ⟨g, cap, cur, rfl, _, _, hc, _⟩
  · exact ⟨none, 0, by rw [h0], by omega⟩
  · exact ⟨_, cap, rfl, hc⟩
theorem OwnCons.appS {w w' : World} {base : Nat} {v : Value} {l : List Con} {cells : List Value} (h : OwnCons w base v l) {c : Con} {v0 v1 v2 : Value} (hcells : w.ownsRow base 37 3 v l.length cells) {Z : Nat → Prop}
    (hc : ConR (fun b => base ≤ b ∧ v.ownBlock ≠ some b) w c [v0, v1, v2]) {g cap : Nat} (ho : w'.ownsRow base 37 3 (.slice (some ⟨g, 0, none⟩) (l.length + 1) cap) (l.length + 1) (cells ++ [v0, v1, v2])) (hk : Keeps Z w w') (hZ : ∀ k, base ≤ k → Z k → v.ownBlock = some k)
    (hat : v.ownBlock = some g ∨ g = w.heap.size) : OwnCons w' base (.slice (some ⟨g, 0, none⟩) (l.length + 1) cap) (l ++ [c]) := by
  obtain ⟨cells', h1, h2⟩ := h
  have e : cells' = cells := by
    rcases h1.2 with ⟨rfl, h0⟩ | ⟨g1, cap1, cur1, rfl, _, hh1, _, _, _, ht1⟩
    · have a1 := h1.1; have a2 := hcells.1; rw [h0] at a1 a2; simp at a1 a2; rw [a1, a2]
    · rcases hcells.2 with ⟨h, _⟩ | ⟨g2, cap2, cur2, e2, _, hh2, _, _, _, ht2⟩
      · cases h
      · simp only [Value.slice.injEq, Option.some.injEq, Addr.mk.injEq] at e2
        obtain ⟨⟨rfl, _, _⟩, _, _⟩ := e2
        rw [hh1] at hh2; cases hh2; rw [← ht1, ← ht2]
  subst e
  have hlen := h1.1
  have move : ∀ {c : Con} {cs : List Value}, ConR (fun b => base ≤ b ∧ v.ownBlock ≠ some b) w c cs → ConR (fun b => base ≤ b ∧ (Value.slice (some ⟨g, 0, none⟩) (l.length + 1) cap).ownBlock ≠ some b) w' c cs := fun hc =>
    (hc.lim.keep hk (fun k hk1 hZk => hk1.1.2 (hZ k hk1.1.1 hZk))).mono (fun k hk => ⟨hk.1.1, fun e => by
      simp only [Value.ownBlock, Option.some.injEq] at e
      rcases hat with h | h
      · exact hk.1.2 (by rw [h, e])
      · have := hk.2; omega⟩)
  refine ⟨cells' ++ [v0, v1, v2], by simpa using ho, fun i hi => ?_⟩
  by_cases hl : i < l.length
  · obtain ⟨u0, u1, u2, e0, e1, e2, hc⟩ := h2 i hl
    refine ⟨u0, u1, u2, ?_, ?_, ?_, ?_⟩
    · rw [List.getElem?_append_left (by omega)]; exact e0
    · rw [List.getElem?_append_left (by omega)]; exact e1
    · rw [List.getElem?_append_left (by omega)]; exact e2
    · rw [List.getElem_append_left hl]; exact move hc
  · simp only [List.length_append, List.length_singleton] at hi
    obtain rfl : i = l.length := by omega
    refine ⟨v0, v1, v2, ?_, ?_, ?_, ?_⟩
    · rw [List.getElem?_append_right (by omega)]; simp [hlen]
    · rw [List.getElem?_append_right (by omega)]; simp [hlen]
    · rw [List.getElem?_append_right (by omega)]; simp [hlen]
    · rw [List.getElem_append_right (by omega)]; simpa using move hc
section
variable {κ : Type} [DecidableEq κ]
theorem findL_put {ν : Type} (l : List (κ × ν)) (x y : κ) (v : ν) : findL (putL l x v) y = if x = y then some v else findL l y := by
  induction l with
  | nil => unfold putL findL; by_cases h : x = y <;> simp [h]
  | cons p r ih =>
    unfold putL
    by_cases hp : p.1 = x
    · rw [if_pos hp]
      subst hp
      by_cases h : p.1 = y <;> simp [findL, h]
    · rw [if_neg hp]
      by_cases h : p.1 = y
      · have : ¬ x = y := fun e => hp (h.trans e.symm)
        simp [findL, h, this]
      · have e1 : findL (p :: putL r x v) y = findL (putL r x v) y := by simp [findL, h]
        have e2 : findL (p :: r) y = findL r y := by simp [findL, h]
        rw [e1, e2, ih]
/-- A map that holds true at the elements of l, and nothing else. -/
def SetM (L : List (κ × Bool)) (l : List κ) : Prop := ∀ y, findL L y = if y ∈ l then some true else none
theorem SetM.nil : SetM ([] : List (κ × Bool)) [] := fun y => by simp [findL]
theorem SetM.put {L : List (κ × Bool)} {l : List κ} (h : SetM L l) (x : κ) : SetM (putL L x true) (l ++ [x]) := fun y => by
  rw [findL_put, h y]
  by_cases e : x = y
  · subst e; simp
  · have e2 : ¬ y = x := fun h => e h.symm
    simp [e, e2]
theorem SetM.look {L : List (κ × Bool)} {l : List κ} (h : SetM L l) (y : κ) : ((findL L y).map Value.bool).getD (.bool false) = .bool (decide (y ∈ l)) := by
  rw [h y]; by_cases e : y ∈ l <;> simp [e]
end
set_option linter.unusedVariables false
set_option linter.unusedSimpArgs false
theorem ConsAt.nth {ok : Nat → Prop} {w : World} {l : List Con} {A : Option Addr} (h : ConsAt ok w l A) (k : Nat) (hk : k < l.length) : ∃ b o A' cap', A = some ⟨b, o, none⟩ ∧ ok b ∧ b < w.heap.size ∧ w.cell? ⟨b, o + k * 3, none⟩ = some (.int .i64 l[k].op) ∧ w.cell? ⟨b, o + k * 3 + 1, none⟩ = some (.int .i64 l[k].n) ∧ w.cell? ⟨b, o + k * 3 + 2, none⟩ = some (.slice A' l[k].args.length cap') ∧ ConR ok w l[k] [.int .i64 l[k].op, .int .i64 l[k].n, .slice A' l[k].args.length cap'] := by
  obtain ⟨b, o, e, hb, hr⟩ := h (by intro h; subst h; simp at hk)
  obtain ⟨A', cap', e0, e1, e2, hc⟩ := hr.at_ k hk
  exact ⟨b, o, A', cap', e, hb, World.block_lt_of_cell? w _ e0, e0, e1, e2, hc⟩
theorem conArgs {ok : Nat → Prop} {w : World} {op n : Int} {args : List Con} {A : Option Addr} {cap : Nat} (hc : ConR ok w ⟨op, n, args⟩ [.int .i64 op, .int .i64 n, .slice A args.length cap]) : ConsAt ok w args A := by
  simp only [ConR] at hc
  obtain ⟨A1, cap1, e1, hcap, hr⟩ := hc
  simp only [List.cons.injEq, Value.slice.injEq, and_true, true_and] at e1
  obtain ⟨rfl, rfl⟩ := e1
  exact hr
/-- What a cell holds, whatever it is. -/
def cellAt (w : World) (g k : Nat) : Value := (w.cell? ⟨g, k, none⟩).getD undef
theorem cellAt_eq {w : World} {g k : Nat} {v : Value} (h : w.cell? ⟨g, k, none⟩ = some v) : w.cell? ⟨g, k, none⟩ = some (cellAt w g k) := by rw [cellAt, h]; rfl
end Go.Proofs.YthiclhbnggehoaaGreatDoor
