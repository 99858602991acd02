/- Rows of the call's own, of elements of whatever kind; what such a row yields to an append. -/
import Derived.Test.YthiclhbnggehoaaGreatDoorCons
import Derived.Deep.AppendSrc
namespace Go.Proofs.YthiclhbnggehoaaGreatDoor
open Go.RowKit
set_option linter.unusedVariables false
set_option linter.unusedSimpArgs false
/-- What is asked of an element's reading. -/
structure RowRd {α : Type} (R : (Nat → Prop) → World → α → List Value → Prop) : Prop where
  keep : ∀ {ok S : Nat → Prop} {w w' : World} {x : α} {vs : List Value}, R ok w x vs → Keeps S w w' → (∀ k, ok k → ¬ S k) → R ok w' x vs
  mono : ∀ {ok ok' : Nat → Prop} {w : World} {x : α} {vs : List Value}, R ok w x vs → (∀ k, ok k → ok' k) → R ok' w x vs
  lim : ∀ {ok : Nat → Prop} {w : World} {x : α} {vs : List Value}, R ok w x vs → R (fun k => ok k ∧ k < w.heap.size) w x vs
/-- A row of the call's own. What its elements lead to is the call's own too, and none of it is the row. -/
def OwnRow {α : Type} (e k : Nat) (R : (Nat → Prop) → World → α → List Value → Prop) (w : World) (base : Nat) (v : Value) (l : List α) : Prop :=
  ∃ cells, w.ownsRow base e k v l.length cells ∧ ∀ i (h : i < l.length), ∃ vs, vs.length = k ∧ (∀ j, j < k → cells[i * k + j]? = vs[j]?) ∧ R (fun b => base ≤ b ∧ v.ownBlock ≠ some b) w l[i] vs
section
variable {α : Type} {e k : Nat} {R : (Nat → Prop) → World → α → List Value → Prop} {w w' : World} {base : Nat} {v : Value} {l : List α}
theorem OwnRow.nil (e k : Nat) (R : (Nat → Prop) → World → α → List Value → Prop) (w : World) (base : Nat) : OwnRow e k R w base (.slice none 0 0) [] := ⟨[], World.ownsRow_nil _ _ _ _, fun i h => absurd h (Nat.not_lt_zero _)⟩
theorem OwnRow.keep {S : Nat → Prop} (h : OwnRow e k R w base v l) (hR : RowRd R) (hk : Keeps S w w') (hs : ∀ b, base ≤ b → ¬ S b) : OwnRow e k R w' base v l := by
  obtain ⟨cells, h1, h2⟩ := h
  refine ⟨cells, ownsKeep h1 hk (fun b hb => hs b (h1.lt b hb).1), fun i hi => ?_⟩
  obtain ⟨vs, e0, e1, hc⟩ := h2 i hi
  exact ⟨vs, e0, e1, hR.keep hc hk (fun k hk => hs k hk.1)⟩
theorem OwnRow.row (h : OwnRow e k R w base v l) : ∃ cells, w.ownsRow base e k v l.length cells := by obtain ⟨c, h1, _⟩ := h; exact ⟨c, h1⟩
theorem owns_unique {n : Nat} {xs ys : List Value} (h1 : w.ownsRow base e k v n xs) (h2 : w.ownsRow base e k v n ys) : xs = ys := by
  rcases h1.2 with ⟨rfl, h0⟩ | ⟨g1, cap1, cur1, rfl, _, hh1, _, _, _, ht1⟩
  · have a1 := h1.1; have a2 := h2.1; rw [h0] at a1 a2; simp at a1 a2; rw [a1, a2]
  · rcases h2.2 with ⟨h, _⟩ | ⟨g2, cap2, cur2, e2, _, hh2, _, _, _, ht2⟩
    · cases h
    · simp only [Value.slice.injEq, Option.some.injEq, Addr.mk.injEq] at e2
      obtain ⟨⟨rfl, _, _⟩, _, _⟩ := e2
      rw [hh1] at hh2; cases hh2; rw [← ht1, ← ht2]
theorem OwnRow.app (h : OwnRow e k R w base v l) (hR : RowRd R) {cells : List Value} {x : α} {vs : List Value} (hcells : w.ownsRow base e k v l.length cells) (hvs : vs.length = k)
    (hc : R (fun b => base ≤ b ∧ v.ownBlock ≠ some b) w x vs) {g cap : Nat} (ho : w'.ownsRow base e k (.slice (some ⟨g, 0, none⟩) (l.length + 1) cap) (l.length + 1) (cells ++ vs)) (hk : Keeps (fun k => v.ownBlock = some k) w w')
    (hat : v.ownBlock = some g ∨ g = w.heap.size) : OwnRow e k R w' base (.slice (some ⟨g, 0, none⟩) (l.length + 1) cap) (l ++ [x]) := by
  obtain ⟨cells', h1, h2⟩ := h
  obtain rfl := owns_unique h1 hcells
  have hlen := h1.1
  have move : ∀ {x : α} {vs : List Value}, R (fun b => base ≤ b ∧ v.ownBlock ≠ some b) w x vs → R (fun b => base ≤ b ∧ (Value.slice (some ⟨g, 0, none⟩) (l.length + 1) cap).ownBlock ≠ some b) w' x vs := fun hc =>
    hR.mono (hR.keep (hR.lim hc) hk (fun k hk => hk.1.2)) (fun k hk => ⟨hk.1.1, fun e => by
      simp only [Value.ownBlock, Option.some.injEq] at e
      rcases hat with h | h
      · exact hk.1.2 (by rw [h, e])
      · have := hk.2; omega⟩)
  refine ⟨cells' ++ vs, by simpa using ho, fun i hi => ?_⟩
  by_cases hl : i < l.length
  · obtain ⟨us, e0, e1, hc⟩ := h2 i hl
    refine ⟨us, e0, fun j hj => ?_, by rw [List.getElem_append_left hl]; exact move hc⟩
    have hb : i * k + j < cells'.length := by
      rw [hlen]
      have := Nat.mul_le_mul_right k (show i + 1 ≤ l.length by omega)
      rw [Nat.add_mul] at this
      omega
    rw [List.getElem?_append_left hb]; exact e1 j hj
  · simp only [List.length_append, List.length_singleton] at hi
    obtain rfl : i = l.length := by omega
    refine ⟨vs, hvs, fun j hj => ?_, by rw [List.getElem_append_right (by omega)]; simpa using move hc⟩
    rw [List.getElem?_append_right (by rw [hlen]; omega), hlen]
    congr 1
    omega
/-- Where its cells lie. -/
theorem OwnRow.at_ (h : OwnRow e k R w base v l) (hR : RowRd R) : ∃ A cap, v = .slice A l.length cap ∧ l.length ≤ cap ∧ (l ≠ [] → ∃ b, A = some ⟨b, 0, none⟩ ∧ base ≤ b ∧ ∀ i (h : i < l.length), ∃ vs, vs.length = k ∧ (∀ j, j < k → w.cell? ⟨b, 0 + i * k + j, none⟩ = vs[j]?) ∧ R (fun b => base ≤ b) w l[i] vs) := by
  obtain ⟨cells, h1, h2⟩ := h
  rcases h1.2 with ⟨rfl, h0⟩ | ⟨g, cap, cur, rfl, hg, hh, hc, _, _, ht⟩
  · exact ⟨none, 0, by rw [h0], by omega, fun hl => absurd (List.eq_nil_of_length_eq_zero h0) hl⟩
  · refine ⟨_, cap, rfl, hc, fun _ => ⟨g, rfl, hg, fun i hi => ?_⟩⟩
    obtain ⟨vs, e0, e1, hcc⟩ := h2 i hi
    refine ⟨vs, e0, fun j hj => ?_, hR.mono hcc (fun _ h => h.1)⟩
    have hb : i * k + j < cells.length := by
      rw [h1.1]
      have := Nat.mul_le_mul_right k (show i + 1 ≤ l.length by omega)
      rw [Nat.add_mul] at this
      omega
    rw [← e1 j hj, blkCell hh, Nat.zero_add]
    rw [← ht, List.getElem?_take_of_lt (by rw [← h1.1]; exact hb)]
    simp
end
/-- Elements of k cells each, one behind the other. -/
theorem flatE_at {α : Type} {k : Nat} {enc : α → List Value} (hk : ∀ x, (enc x).length = k) : ∀ (l : List α) (i : Nat) (h : i < l.length) (j : Nat), j < k → (l.flatMap enc)[i * k + j]? = (enc l[i])[j]?
  | x :: l, 0, _, j, hj => by rw [List.flatMap_cons, List.getElem?_append_left (by rw [hk]; omega)]; simp
  | x :: l, i + 1, h, j, hj => by
    rw [List.flatMap_cons, List.getElem?_append_right (by rw [hk, Nat.add_mul]; omega), hk, show (i + 1) * k + j - k = i * k + j by rw [Nat.add_mul]; omega, flatE_at hk l i (by simpa using h) j hj]
    simp
theorem flat_len {α : Type} {k : Nat} {enc : α → List Value} (hk : ∀ x, (enc x).length = k) (l : List α) : (l.flatMap enc).length = l.length * k := by
  induction l with
  | nil => simp
  | cons x l ih => rw [List.flatMap_cons, List.length_append, hk, ih, List.length_cons, Nat.add_mul]; omega
/-- What a slice of such elements yields to an append. -/
theorem rowSrc {α : Type} {k : Nat} {enc : α → List Value} {ok : Nat → Prop} {w : World} {l : List α} {A : Option Addr} {cap : Nat} {tx e' : TypeId} (hk : ∀ x, (enc x).length = k) (hk0 : 0 < k) (h1 : ∀ x, ∀ u ∈ enc x, u.oneCell' = true)
    (ht : Tryz.prog.underlying tx = some (.slice e')) (h : l ≠ [] → ∃ b o, A = some ⟨b, o, none⟩ ∧ ok b ∧ ∀ i (h : i < l.length) j, j < k → w.cell? ⟨b, o + i * k + j, none⟩ = (enc l[i])[j]?) :
    ∀ w', Keeps (fun _ => False) w w' → Src Tryz.prog k tx (.slice A l.length cap) l.length (l.flatMap enc) w' := by
  intro w' hkp
  by_cases hl : l = []
  · subst hl
    cases A with
    | none => exact Src.ofNil w' ht cap
    | some a => exact Src.ofSlice w' ht a 0 cap [] (by simp) (fun j u h => by simp at h) (by simp)
  · obtain ⟨b, o, rfl, hb, hr⟩ := h hl
    refine Src.ofSlice w' ht _ _ _ _ (flat_len hk l) (fun j u hu => ?_) (fun u hu => ?_)
    · have hj : j < l.length * k := by rw [← flat_len hk l]; exact (List.getElem?_eq_some_iff.1 hu).1
      have hi : j / k < l.length := Nat.div_lt_of_lt_mul (by rw [Nat.mul_comm]; exact hj)
      have hm : j % k < k := Nat.mod_lt _ hk0
      have e : j / k * k + j % k = j := Nat.div_add_mod' j k
      have hx := flatE_at hk l (j / k) hi (j % k) hm
      rw [e, hu] at hx
      have hc := hr (j / k) hi (j % k) hm
      rw [← hx, Nat.add_assoc, e] at hc
      have : (⟨b, o, none⟩ : Addr).add j = ⟨b, o + j, none⟩ := by unfold Addr.add; split <;> simp_all
      rw [this]
      exact hkp.cell hc (fun h => h)
    · obtain ⟨x, _, hx⟩ := List.mem_flatMap.1 hu
      exact h1 x u hx
end Go.Proofs.YthiclhbnggehoaaGreatDoor
