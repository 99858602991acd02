/- What hier.Table computes: the closure of the role inclusions. -/
import Derived.Test.YtoafelppnagpbaaDoorKb
import Derived.Test.YtoafelppnagpbaaDoorMem
import Derived.Deep.OwnRows
import Derived.ScopeJumps
import Derived.WalkMore
import Derived.RegionTactic
import Derived.StillTailTactics
namespace Go.Proofs.YtoafelppnagpbaaDoor
open Go.RowKit
set_option linter.unusedVariables false
set_option linter.unusedSimpArgs false
/-- A slice of n slices of n bools: the first k are made, row r is block R r and holds M r. -/
structure Mat (w : World) (base t n k : Nat) (R : Nat → Nat) (M : Nat → Nat → Bool) : Prop where
  le : base ≤ t
  top : w.rowIs t 41 n (fun r => if r < k then .slice (some ⟨R r, 0, none⟩) n n else .slice none 0 0)
  rows : ∀ r, r < k → w.rowIs (R r) 4 n (fun s => .bool (M r s))
  ge : ∀ r, r < k → base ≤ R r
  inj : ∀ r s, r < k → s < k → R r = R s → r = s
  ne : ∀ r, r < k → R r ≠ t
theorem Mat.keep {S : Nat → Prop} {w w' : World} {base t n k : Nat} {R : Nat → Nat} {M : Nat → Nat → Bool} (h : Mat w base t n k R M) (hk : Keeps S w w') (hs : ∀ i, base ≤ i → ¬ S i) : Mat w' base t n k R M :=
  { h with top := h.top.of_block (hk.block _ h.top.lt (hs _ h.le)), rows := fun r hr => (h.rows r hr).of_block (hk.block _ (h.rows r hr).lt (hs _ (h.ge r hr))) }
theorem Mat.keep' {S : Nat → Prop} {w w' : World} {base t n k : Nat} {R : Nat → Nat} {M : Nat → Nat → Bool} (h : Mat w base t n k R M) (hk : Keeps S w w') (ht : ¬ S t) (hs : ∀ r, r < k → ¬ S (R r)) : Mat w' base t n k R M :=
  { h with top := h.top.of_block (hk.block _ h.top.lt ht), rows := fun r hr => (h.rows r hr).of_block (hk.block _ (h.rows r hr).lt (hs r hr)) }
theorem Mat.topCell {w : World} {base t n k : Nat} {R : Nat → Nat} {M : Nat → Nat → Bool} (h : Mat w base t n k R M) {r : Nat} (hr : r < k) (hn : r < n) : w.cell? ⟨t, r, none⟩ = some (.slice (some ⟨R r, 0, none⟩) n n) := by
  have := h.top.cell hn; rwa [if_pos hr] at this
theorem Mat.cell {w : World} {base t n k : Nat} {R : Nat → Nat} {M : Nat → Nat → Bool} (h : Mat w base t n k R M) {r s : Nat} (hr : r < k) (hs : s < n) : w.cell? ⟨R r, s, none⟩ = some (.bool (M r s)) := (h.rows r hr).cell hs
theorem Mat.set {w : World} {base t n k : Nat} {R : Nat → Nat} {M : Nat → Nat → Bool} (h : Mat w base t n k R M) {i : Nat} (hi : i < k) (j : Nat) (b : Bool) : Mat (w.setCell ⟨R i, j, none⟩ (.bool b)) base t n k R (updM M i j b) where
  le := h.le
  top := h.top.setOther (fun e => h.ne i hi e.symm) _
  rows r hr := by
    by_cases e : r = i
    · subst e
      exact ((h.rows r hr).set j _).congr (fun s _ => by unfold updM; split <;> simp_all)
    · exact ((h.rows r hr).setOther (a := ⟨R i, j, none⟩) (fun e' => e (h.inj r i hr hi e')) _).congr (fun s _ => by unfold updM; simp [e])
  ge := h.ge
  inj := h.inj
  ne := h.ne
theorem Mat.new {w : World} {base t n k : Nat} {R : Nat → Nat} {M : Nat → Nat → Bool} (h : Mat w base t n k R M) (hk : k < n) (hb : base ≤ w.heap.size) :
    Mat ((w.setCell ⟨t, k, none⟩ (.slice (some ⟨w.heap.size, 0, none⟩) n n)).alloc (.cells ((madeCells #[.bool false] n).setIfInBounds k (.bool true)) 4)) base t n (k + 1) (fun r => if r = k then w.heap.size else R r) (fun r s => if r = k then decide (s = k) else M r s) where
  le := h.le
  top := ((h.top.set k _).alloc _).congr (fun r _ => by
    by_cases e : r = k
    · subst e; simp
    · simp only [e, if_false]
      by_cases hlt : r < k
      · rw [if_pos hlt, if_pos (by omega)]
      · rw [if_neg hlt, if_neg (by omega)])
  rows r hr := by
    by_cases e : r = k
    · subst e
      simp only [if_true]
      have hs : (w.setCell ⟨t, r, none⟩ (.slice (some ⟨w.heap.size, 0, none⟩) n n)).heap.size = w.heap.size := by simp
      have := World.rowIs_alloc (w.setCell ⟨t, r, none⟩ (.slice (some ⟨w.heap.size, 0, none⟩) n n)) ((madeCells #[.bool false] n).setIfInBounds r (.bool true)) 4 (fun s => .bool (decide (s = r))) (fun i hi => by
        simp only [Array.size_setIfInBounds, size_madeCells] at hi
        rw [Array.getElem?_setIfInBounds]
        by_cases e : r = i
        · subst e; simp [size_madeCells, hi]
        · have : ¬ i = r := fun h => e h.symm
          simp [e, this, madeCells, hi, Nat.mod_one])
      rw [hs] at this
      simpa [size_madeCells] using this
    · have hlt : r < k := by omega
      have hne : R r ≠ w.heap.size := by have := (h.rows r hlt).lt; omega
      simp only [e, if_false]
      exact ((h.rows r hlt).setOther (a := ⟨t, k, none⟩) (h.ne r hlt) _).alloc _
  ge r hr := by split; exact hb; exact h.ge r (by omega)
  inj r s hr hs e := by
    by_cases h1 : r = k <;> by_cases h2 : s = k
    · omega
    · have := (h.rows s (by omega)).lt; simp [h1, h2] at e; omega
    · have := (h.rows r (by omega)).lt; simp [h1, h2] at e; omega
    · simp [h1, h2] at e; exact h.inj r s (by omega) (by omega) e
  ne r hr := by
    have := h.top.lt
    split
    · omega
    · exact h.ne r (by omega)
/-- A scope whose label is jumped to from behind it: what stands behind the label is walked once. -/
theorem scope_skip {P : Program} {a : Act} {w : World} {Q : Exit → Act → World → Prop} {c rest : Code} (l : Nat) (J : Act → World → Prop) (μ : Act → World → Nat) (hf : findLabel c l = some (Code.skip.seq rest))
    (pass : ∀ a w, J a w → rest.wp P (Exit.jump l (fun a' w' => J a' w' ∧ μ a' w' < μ a w) Q) a w) (first : (∀ a w, J a w → rest.wp P (Exit.jump l J Q) a w) → c.wp P (Exit.jump l J Q) a w) : (Code.scope c).wp P Q a w := by
  refine wp_scope_jumps l J μ hf (first fun a w h => ?_) (fun a w h => wp_seq (wp_skip (pass a w h)))
  refine wp_mono (pass a w h) fun e a' w' q => ?_
  cases e with
  | goto l' => exact ⟨q.1, q.2.1⟩
  | normal => exact q
  | exit id => exact q
  | ret => exact q
  | panic c => exact q
  | outgrown => exact q
/-- The inverse of a role. -/
def inv (r : Nat) : Nat := if r % 2 = 0 then r + 1 else r - 1
theorem inv_xor : ∀ r : Nat, r < 100 → bits .xor .i64 (r : Int) 1 = (inv r : Int) := by decide +kernel
theorem inverse_calls (r : Nat) (hr : r < 100) (w : World) : Calls Tryd.prog 50 #[.int .i64 r] w fun e w' => e = .returned (.int .i64 (inv r)) ∧ w = w' := by
  have HI := Lib.hid (inv_xor r hr)
  go_enter Tryd.func50, Tryd.ntmps50
  go_wp2
  go_ret
  exact ⟨by rw [← HI.out]; rfl, rfl⟩
end Go.Proofs.YtoafelppnagpbaaDoor
