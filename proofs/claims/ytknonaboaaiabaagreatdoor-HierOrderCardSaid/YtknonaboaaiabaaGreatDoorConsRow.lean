/- A concept ahead of a list: the row that a law appends, and what few says of it. -/
import Derived.Test.YtknonaboaaiabaaGreatDoorLFew
import Derived.Test.YtknonaboaaiabaaGreatDoorReads
import Derived.Test.YtknonaboaaiabaaGreatDoorR2
namespace Go.Proofs.YtknonaboaaiabaaGreatDoor
open Go.RowKit
set_option linter.unusedVariables false
set_option linter.unusedSimpArgs false
theorem own_slice1 {w : World} {base e size n : Nat} {v : Value} {xs : List Value} (h : w.ownsRow base e size v n xs) (hn : 0 < n) : ∃ g cap, v = .slice (some ⟨g, 0, none⟩) n cap ∧ base ≤ g := by
  rcases h.2 with ⟨rfl, h0⟩ | ⟨g, cap, cur, rfl, hg, _⟩
  · omega
  · exact ⟨g, cap, rfl, hg⟩
theorem Reads.cons {ok : Nat → Prop} {w : World} {l : List Con} {vs : List Value} {c : Con} {v0 v1 v2 : Value} (h : Reads ok w l vs) (hc : ConR ok w c [v0, v1, v2]) : Reads ok w (c :: l) (v0 :: v1 :: v2 :: vs) := by
  obtain ⟨a1, a2, a3⟩ := h
  have hone : v0.oneCell' = true ∧ v1.oneCell' = true ∧ v2.oneCell' = true := by
    obtain ⟨A, cap, e, _⟩ := hc.form
    simp only [List.cons.injEq, and_true] at e
    obtain ⟨rfl, rfl, rfl⟩ := e
    exact ⟨rfl, rfl, rfl⟩
  refine ⟨by simp [a1]; omega, fun u hu => ?_, fun i hi => ?_⟩
  · simp only [List.mem_cons] at hu
    rcases hu with rfl | rfl | rfl | hu
    · exact hone.1
    · exact hone.2.1
    · exact hone.2.2
    · exact a2 u hu
  · cases i with
    | zero => exact ⟨v0, v1, v2, rfl, rfl, rfl, hc⟩
    | succ i =>
      obtain ⟨u0, u1, u2, q0, q1, q2, q3⟩ := a3 i (by simpa using hi)
      refine ⟨u0, u1, u2, ?_, ?_, ?_, q3⟩
      · rw [show (i + 1) * 3 = i * 3 + 3 by omega]; exact q0
      · rw [show (i + 1) * 3 + 1 = i * 3 + 1 + 3 by omega]; exact q1
      · rw [show (i + 1) * 3 + 2 = i * 3 + 2 + 3 by omega]; exact q2
/-- few of a concept ahead of a list, as a law calls it. -/
theorem fewCons_calls (b : Kb) (p : KbA) (more : List Con) (c : Con) (vs : List Value) (A' : Option Addr) (cap' : Nat) (w : World) (hb : KbR (fun _ => True) w b p) (hv : Reads (fun _ => True) w more vs) (hc : ConR (fun _ => True) w c [.int .i64 c.op, .int .i64 c.n, .slice A' c.args.length cap']) (hn : more.length < 4611686018427387904)
    (g6 cap6 base : Nat) (w6 : World) (hk : Keeps (fun _ => False) w w6) (ho : w6.ownsRow base 94 3 (.slice (some ⟨g6, 0, none⟩) (1 + more.length) cap6) (1 + more.length) ([.int .i64 c.op, .int .i64 c.n, .slice A' c.args.length cap'] ++ vs)) :
    Calls Tryz.prog 20 #[.agg #[.slice p.a0 b.cs.length p.c0, .slice p.a1 b.rs.length p.c1, .slice p.a2 b.is.length p.c2, .slice p.a3 b.incls.length p.c3, .slice p.a4 b.roles.length p.c4, .slice p.a5 b.facts.length p.c5, .slice p.a6 b.links.length p.c6], .slice (some ⟨g6, 0, none⟩) (1 + more.length) cap6] w6 fun e w' => e = .returned (.bool (fewLawB b (c :: more))) ∧ Keeps (fun _ => False) w6 w' := by
  have h := fewLaw_calls b p (c :: more) (fun _ => True) (some ⟨g6, 0, none⟩) cap6 w6 (hb.keep hk (fun _ _ h => h)) (((hv.cons hc).keep hk (fun _ _ h => h)).consAt ho trivial) (by simp; omega)
  rw [List.length_cons, Nat.add_comm] at h
  exact h
theorem fewCons_parts {b : Kb} {c : Con} {more : List Con} (h : fewLawB b (c :: more) = true) : b.incls.length ≤ 200 ∧ b.roles.length ≤ 200 ∧ b.facts.length ≤ 200 ∧ b.links.length ≤ 200 ∧ b.cs.length ≤ 100 ∧ b.rs.length ≤ 100 ∧ b.is.length ≤ 100 ∧ more.length ≤ 5 := by
  simp only [fewLawB, fewB, fewNamesR, fewL, Bool.and_eq_true, decide_eq_true_eq, List.length_cons] at h
  obtain ⟨_, ⟨h1, h2, h3, h4, ⟨h5, h6, h7⟩, _⟩, h8⟩ := h
  exact ⟨h1, h2, h3, h4, h5.1, h6.1, h7.1, by omega⟩
theorem kbValid_names {b : Kb} (h : kbValidB b = true) : validNamesB b.cs b.rs b.is = true := by
  simp only [kbValidB, Bool.and_eq_true] at h
  exact h.1.1
theorem ownsOne {w : World} {base e g : Nat} {v0 v1 v2 : Value} (hb : base ≤ g) (hh : w.heap[g]? = some (.cells #[v0, v1, v2] e (0, 0))) : w.ownsRow base e 3 (.slice (some ⟨g, 0, none⟩) 1 1) 1 [v0, v1, v2] :=
  ⟨by simp, .inr ⟨g, 1, #[v0, v1, v2], rfl, hb, hh, Nat.le_refl _, by simp [maxLen], by simp, by simp⟩⟩
end Go.Proofs.YtknonaboaaiabaaGreatDoor
