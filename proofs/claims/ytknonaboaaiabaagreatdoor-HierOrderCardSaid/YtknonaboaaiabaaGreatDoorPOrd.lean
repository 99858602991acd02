/- Plain: pairs of a role along the order of roles; the order is reflexive, transitive and agrees with inverses. -/
import Derived.Test.YtknonaboaaiabaaGreatDoorPairs
import Derived.Test.YtknonaboaaiabaaGreatDoorRoles
namespace Go.Proofs.YtknonaboaaiabaaGreatDoor
set_option linter.unusedVariables false
set_option linter.unusedSimpArgs false
theorem inv_inv (r : Nat) : inv (inv r) = r := by unfold inv; split <;> split <;> omega
theorem memR_inv (i : Itp) (r : Nat) (p : Int × Int) : memR i (inv r) p ↔ memR i r (swapP p) := by
  unfold memR inv
  by_cases h : r % 2 = 0
  · rw [if_pos h, if_pos h, if_neg (by omega), show (r + 1) / 2 = r / 2 by omega]
  · rw [if_neg h, if_neg h, if_pos (by omega), show (r - 1) / 2 = r / 2 by omega]; rfl
/-- The role inclusion holds. -/
def satR (i : Itp) (x : Int × Int) : Prop := ∀ p, memR i x.1.toNat p → memR i x.2.toNat p
theorem reach_within {i : Itp} {l : List (Int × Int)} (h : ∀ x ∈ l, satR i x) {r s : Nat} (hr : Reach (edgeN l) r s) : ∀ p, memR i r p → memR i s p := by
  induction hr with
  | refl => exact fun _ h => h
  | @step r m s e _ ih =>
    obtain ⟨x, hx, hx'⟩ := e
    intro p hp
    refine ih p ?_
    rcases hx' with ⟨h1, h2⟩ | ⟨h1, h2⟩
    · have := h x hx p; rw [h1, h2] at this; simpa using this (by simpa using hp)
    · rw [← h1] at hp; rw [← h2]; rw [memR_inv] at hp ⊢; exact h x hx _ hp
theorem edgeN_inv {l : List (Int × Int)} (hl : ∀ x ∈ l, 0 ≤ x.1 ∧ 0 ≤ x.2) {r s : Nat} (h : edgeN l r s) : edgeN l (inv r) (inv s) := by
  obtain ⟨x, hx, h | h⟩ := h
  · exact ⟨x, hx, .inr ⟨by rw [h.1]; simp, by rw [h.2]; simp⟩⟩
  · refine ⟨x, hx, .inl ⟨?_, ?_⟩⟩
    · rw [← h.1, inv_inv]; have := hl x hx; omega
    · rw [← h.2, inv_inv]; have := hl x hx; omega
theorem reach_inv {l : List (Int × Int)} (hl : ∀ x ∈ l, 0 ≤ x.1 ∧ 0 ≤ x.2) {r s : Nat} (h : Reach (edgeN l) r s) : Reach (edgeN l) (inv r) (inv s) := by
  induction h with
  | refl => exact .refl _
  | step e _ ih => exact .step (edgeN_inv hl e) ih
theorem belowB_refl (b : Kb) (r : Int) : belowB b r r = true := by unfold belowB; refine @decide_eq_true _ (_) ?_; exact .refl _
theorem belowB_trans {b : Kb} {r s t : Int} (h1 : belowB b r s = true) (h2 : belowB b s t = true) : belowB b r t = true := by
  unfold belowB at *
  refine @decide_eq_true _ (_) ?_
  exact Reach.trans (@of_decide_eq_true _ (_) h1) (@of_decide_eq_true _ (_) h2)
theorem belowB_inv {b : Kb} (hl : ∀ x ∈ b.roles, 0 ≤ x.1 ∧ 0 ≤ x.2) (r s : Nat) : belowB b (inv r : Nat) (inv s : Nat) = belowB b r s := by
  have e : ∀ r s : Nat, belowB b r s = true ↔ Reach (edgeN b.roles) r s := fun r s => by
    unfold belowB; simp
  rw [Bool.eq_iff_iff, e, e]
  refine ⟨fun h => ?_, reach_inv hl⟩
  have := reach_inv hl h
  rwa [inv_inv, inv_inv] at this
theorem belowB_within {b : Kb} {i : Itp} (h : ∀ x ∈ b.roles, satR i x) {r s : Nat} (hb : belowB b r s = true) : ∀ p, memR i r p → memR i s p := by
  refine reach_within h ?_
  have := @of_decide_eq_true _ (_) hb
  simpa using this
end Go.Proofs.YtknonaboaaiabaaGreatDoor
