/- Normal forms and marks keep what is valid; how many nodes they have; what a Space says of a concept. -/
import Derived.Test.YtoafelppnagpbaaDoorPlace
import Derived.Test.YtoafelppnagpbaaDoorFine
namespace Go.Proofs.YtoafelppnagpbaaDoor
open Go.RowKit
set_option linter.unusedVariables false
set_option linter.unusedSimpArgs false
theorem dual_facts {op : Int} (h : 0 ≤ op ∧ op ≤ 7) (h0 : op ≠ 0) (h3 : op ≠ 3) : arityZ (dualZ op) = arityZ op ∧ (0 ≤ dualZ op ∧ dualZ op ≤ 7) ∧ ∀ nc nr n, nodeOk nc nr (dualZ op) n = nodeOk nc nr op n := by
  have : op = 1 ∨ op = 2 ∨ op = 4 ∨ op = 5 ∨ op = 6 ∨ op = 7 := by omega
  rcases this with rfl | rfl | rfl | rfl | rfl | rfl <;> exact ⟨by decide, by decide, fun _ _ _ => rfl⟩
theorem fit_parts {nc nr : Nat} {op n : Int} {args : List Con} (h : fitC nc nr ⟨op, n, args⟩ = true) : (0 ≤ op ∧ op ≤ 7) ∧ (args.length : Int) = arityZ op ∧ nodeOk nc nr op n = true ∧ fitL nc nr args = true := by
  simp only [fitC, Bool.and_eq_true, decide_eq_true_eq] at h
  exact ⟨h.1.1.1, h.1.1.2, h.1.2, h.2⟩
theorem fit_mk {nc nr : Nat} {op n : Int} {args : List Con} (h1 : 0 ≤ op ∧ op ≤ 7) (h2 : (args.length : Int) = arityZ op) (h3 : nodeOk nc nr op n = true) (h4 : fitL nc nr args = true) : fitC nc nr ⟨op, n, args⟩ = true := by
  simp only [fitC, Bool.and_eq_true, decide_eq_true_eq]
  exact ⟨⟨⟨h1, h2⟩, h3⟩, h4⟩
mutual
theorem fit_nnf {nc nr : Nat} : ∀ {c : Con} (neg : Bool), fitC nc nr c = true → fitC nc nr (nnfC c neg) = true
  | ⟨op, n, args⟩, neg, h => by
    obtain ⟨hop, har, hn, hl⟩ := fit_parts h
    unfold nnfC
    by_cases h0 : op = 0
    · subst h0
      rw [if_pos rfl]
      have hleaf : fitC nc nr ⟨0, n, []⟩ = true := fit_mk (by omega) (by decide) hn rfl
      cases neg
      · exact hleaf
      · exact fit_mk (by omega) rfl rfl (by simp only [fitL, hleaf, Bool.and_self])
    · rw [if_neg h0]
      by_cases h3 : op = 3
      · rw [if_pos h3]
        subst h3
        exact fit_nnfH (!neg) hl (by intro h; subst h; simp [arityZ] at har)
      · rw [if_neg h3]
        obtain ⟨d1, d2, d3⟩ := dual_facts hop h0 h3
        have hlen : (nnfL args neg).length = args.length := by rw [nnfL_map, List.length_map]
        cases neg
        · exact fit_mk (op := op) hop (by rw [hlen]; exact har) hn (fit_nnfL false hl)
        · exact fit_mk (op := dualZ op) d2 (by rw [hlen, d1]; exact har) (by rw [d3]; exact hn) (fit_nnfL true hl)
theorem fit_nnfH {nc nr : Nat} : ∀ {l : List Con} (neg : Bool), fitL nc nr l = true → l ≠ [] → fitC nc nr (nnfH l neg) = true
  | c :: r, neg, h, _ => by
    simp only [fitL, Bool.and_eq_true] at h
    simp only [nnfH]
    exact fit_nnf neg h.1
  | [], _, _, h => absurd rfl h
theorem fit_nnfL {nc nr : Nat} : ∀ {l : List Con} (neg : Bool), fitL nc nr l = true → fitL nc nr (nnfL l neg) = true
  | [], _, _ => rfl
  | c :: r, neg, h => by
    simp only [fitL, Bool.and_eq_true] at h
    simp only [nnfL, fitL, Bool.and_eq_true]
    exact ⟨fit_nnf neg h.1, fit_nnfL neg h.2⟩
end
mutual
theorem size_nnf : ∀ (c : Con) (neg : Bool), (nnfC c neg).size ≤ 2 * c.size
  | ⟨op, n, args⟩, neg => by
    unfold nnfC
    split
    · cases neg <;> simp [Con.size, Con.sizes] <;> omega
    · split
      · have := size_nnfH args (!neg); simp only [Con.size]; omega
      · have := size_nnfL args neg
        simp only [Con.size]; omega
theorem size_nnfH : ∀ (l : List Con) (neg : Bool), (nnfH l neg).size ≤ 2 * Con.sizes l + 1
  | c :: r, neg => by have := size_nnf c neg; simp only [nnfH, Con.sizes]; omega
  | [], _ => by simp [nnfH, Con.size, Con.sizes]
theorem size_nnfL : ∀ (l : List Con) (neg : Bool), Con.sizes (nnfL l neg) ≤ 2 * Con.sizes l
  | [], _ => by simp [nnfL, Con.sizes]
  | c :: r, neg => by have := size_nnf c neg; have := size_nnfL r neg; simp only [nnfL, Con.sizes]; omega
end
theorem size_quant (c : Con) : (quantC c).size ≤ 2 * c.size + 2 := by
  obtain ⟨op, n, args⟩ := c
  unfold quantC
  split
  · omega
  · have := size_nnfH args true
    simp only [Con.size, Con.sizes, Con.args]; omega
theorem fit_quant {nc nr : Nat} {c : Con} (h : fitC nc nr c = true) (hop : c.op = 6 ∨ c.op = 7) : fitC nc nr (quantC c) = true := by
  obtain ⟨op, n, args⟩ := c
  simp only [Con.op] at hop
  obtain ⟨h1, har, hn, hl⟩ := fit_parts h
  unfold quantC
  split
  · exact h
  · simp only [Con.op, Con.n, Con.args]
    refine fit_mk (by omega) rfl ?_ ?_
    · rcases hop with rfl | rfl <;> simpa [nodeOk] using hn
    · simp only [fitL, Bool.and_true]
      exact fit_nnfH true hl (by intro h; subst h; rcases hop with rfl | rfl <;> simp [arityZ] at har)
theorem fit_atom {nc nr : Nat} {n : Int} (h0 : 0 ≤ n) (h1 : n < nc) : fitC nc nr ⟨0, n, []⟩ = true := fit_mk (by omega) (by decide) (by simp [nodeOk]; omega) rfl
end Go.Proofs.YtoafelppnagpbaaDoor
