/- Normal forms: of a normal form; what is true of the normal form of a negation. -/
import Derived.Test.YtoafelppnagpbaaGreatDoorHTrue
namespace Go.Proofs.YtoafelppnagpbaaGreatDoor
open Go.RowKit
set_option linter.unusedVariables false
set_option linter.unusedSimpArgs false
/-- A concept of the right shape. -/
inductive Sh : Con → Prop where
  | name (n : Int) : Sh ⟨0, n, []⟩
  | top (n : Int) : Sh ⟨1, n, []⟩
  | bot (n : Int) : Sh ⟨2, n, []⟩
  | not (n : Int) {d : Con} (h : Sh d) : Sh ⟨3, n, [d]⟩
  | and (n : Int) {d e : Con} (h : Sh d) (k : Sh e) : Sh ⟨4, n, [d, e]⟩
  | or (n : Int) {d e : Con} (h : Sh d) (k : Sh e) : Sh ⟨5, n, [d, e]⟩
  | some (n : Int) {d : Con} (h : Sh d) : Sh ⟨6, n, [d]⟩
  | all (n : Int) {d : Con} (h : Sh d) : Sh ⟨7, n, [d]⟩
theorem sh_of : ∀ (N : Nat) (c : Con), c.size < N → shapeC c = true → Sh c
  | 0, c, hN, _ => absurd hN (Nat.not_lt_zero _)
  | N + 1, ⟨op, n, args⟩, hN, h => by
    simp only [shapeC, Bool.and_eq_true, decide_eq_true_eq] at h
    obtain ⟨⟨⟨h0, h7⟩, hl⟩, hs⟩ := h
    have h1 : arityZ op = 0 → args = [] := fun e => List.eq_nil_of_length_eq_zero (by omega)
    have h2 : arityZ op = 1 → ∃ d, args = [d] ∧ Sh d := fun e => by
      obtain ⟨d, rfl⟩ := List.length_eq_one_iff.1 (show args.length = 1 by omega)
      simp only [shapeL, Bool.and_true] at hs
      exact ⟨d, rfl, sh_of N d (by simp only [Con.size, Con.sizes] at hN; omega) hs⟩
    have h3 : arityZ op = 2 → ∃ d e, args = [d, e] ∧ Sh d ∧ Sh e := fun e => by
      obtain ⟨d, e, rfl⟩ : ∃ d e, args = [d, e] := by
        match args, (show args.length = 2 by omega) with
        | [d, e], _ => exact ⟨d, e, rfl⟩
      simp only [shapeL, Bool.and_true, Bool.and_eq_true] at hs
      simp only [Con.size, Con.sizes] at hN
      exact ⟨d, e, rfl, sh_of N d (by omega) hs.1, sh_of N e (by omega) hs.2⟩
    have : op = 0 ∨ op = 1 ∨ op = 2 ∨ op = 3 ∨ op = 4 ∨ op = 5 ∨ op = 6 ∨ op = 7 := by omega
    rcases this with rfl | rfl | rfl | rfl | rfl | rfl | rfl | rfl
    · rw [h1 rfl]; exact .name n
    · rw [h1 rfl]; exact .top n
    · rw [h1 rfl]; exact .bot n
    · obtain ⟨d, rfl, hd⟩ := h2 rfl; exact .not n hd
    · obtain ⟨d, e, rfl, hd, he⟩ := h3 rfl; exact .and n hd he
    · obtain ⟨d, e, rfl, hd, he⟩ := h3 rfl; exact .or n hd he
    · obtain ⟨d, rfl, hd⟩ := h2 rfl; exact .some n hd
    · obtain ⟨d, rfl, hd⟩ := h2 rfl; exact .all n hd
theorem sh_shape {c : Con} (h : shapeC c = true) : Sh c := sh_of _ c (Nat.lt_succ_self _) h
theorem nnf_name (n : Int) (a : Bool) : nnfC ⟨0, n, []⟩ a = if a then ⟨3, 0, [⟨0, n, []⟩]⟩ else ⟨0, n, []⟩ := by simp [nnfC]
theorem nnf_top (n : Int) (a : Bool) : nnfC ⟨1, n, []⟩ a = ⟨if a then 2 else 1, n, []⟩ := by simp [nnfC, nnfL, dualZ]
theorem nnf_bot (n : Int) (a : Bool) : nnfC ⟨2, n, []⟩ a = ⟨if a then 1 else 2, n, []⟩ := by simp [nnfC, nnfL, dualZ]
theorem nnf_not (n : Int) (d : Con) (a : Bool) : nnfC ⟨3, n, [d]⟩ a = nnfC d (!a) := by simp [nnfC, nnfH]
theorem nnf_and (n : Int) (d e : Con) (a : Bool) : nnfC ⟨4, n, [d, e]⟩ a = ⟨if a then 5 else 4, n, [nnfC d a, nnfC e a]⟩ := by simp [nnfC, nnfL, dualZ]
theorem nnf_or (n : Int) (d e : Con) (a : Bool) : nnfC ⟨5, n, [d, e]⟩ a = ⟨if a then 4 else 5, n, [nnfC d a, nnfC e a]⟩ := by simp [nnfC, nnfL, dualZ]
theorem nnf_some (n : Int) (d : Con) (a : Bool) : nnfC ⟨6, n, [d]⟩ a = ⟨if a then 7 else 6, n, [nnfC d a]⟩ := by simp [nnfC, nnfL, dualZ]
theorem nnf_all (n : Int) (d : Con) (a : Bool) : nnfC ⟨7, n, [d]⟩ a = ⟨if a then 6 else 7, n, [nnfC d a]⟩ := by simp [nnfC, nnfL, dualZ]
theorem nnf_nnf {c : Con} (h : Sh c) : ∀ a b, nnfC (nnfC c a) b = nnfC c (a != b) := by
  induction h with
  | name n => intro a b; cases a <;> cases b <;> simp [nnf_name, nnf_not]
  | top n => intro a b; cases a <;> cases b <;> simp [nnf_top, nnf_bot]
  | bot n => intro a b; cases a <;> cases b <;> simp [nnf_top, nnf_bot]
  | not n _ ih => intro a b; rw [nnf_not, nnf_not, ih]; cases a <;> cases b <;> rfl
  | and n _ _ ih ik => intro a b; rw [nnf_and, nnf_and, ← ih, ← ik]; cases a <;> cases b <;> simp [nnf_and, nnf_or]
  | or n _ _ ih ik => intro a b; rw [nnf_or, nnf_or, ← ih, ← ik]; cases a <;> cases b <;> simp [nnf_and, nnf_or]
  | some n _ ih => intro a b; rw [nnf_some, nnf_some, ← ih]; cases a <;> cases b <;> simp [nnf_some, nnf_all]
  | all n _ ih => intro a b; rw [nnf_all, nnf_all, ← ih]; cases a <;> cases b <;> simp [nnf_some, nnf_all]
theorem quant_some (n : Int) (d : Con) : quantC ⟨6, n, [d]⟩ = ⟨6, n, [d]⟩ := by simp [quantC, Con.op]
theorem quant_all (n : Int) (d : Con) : quantC ⟨7, n, [d]⟩ = ⟨6, n, [nnfC d true]⟩ := by simp [quantC, Con.op, Con.n, Con.args, nnfH]
theorem Sh.nnf {c : Con} (h : Sh c) : ∀ a, Sh (nnfC c a) := by
  induction h with
  | name n => intro a; rw [nnf_name]; cases a; exact .name n; exact .not 0 (.name n)
  | top n => intro a; rw [nnf_top]; cases a; exact .top n; exact .bot n
  | bot n => intro a; rw [nnf_bot]; cases a; exact .bot n; exact .top n
  | not n _ ih => intro a; rw [nnf_not]; exact ih _
  | and n _ _ ih ik => intro a; rw [nnf_and]; cases a; exact .and n (ih _) (ik _); exact .or n (ih _) (ik _)
  | or n _ _ ih ik => intro a; rw [nnf_or]; cases a; exact .or n (ih _) (ik _); exact .and n (ih _) (ik _)
  | some n _ ih => intro a; rw [nnf_some]; cases a; exact .some n (ih _); exact .all n (ih _)
  | all n _ ih => intro a; rw [nnf_all]; cases a; exact .all n (ih _); exact .some n (ih _)
section
variable (cs rs : List ByteArray) (pl : List (ByteArray × Int)) (t : Int)
theorem cov_eq0 (n : Int) : covC cs rs pl ⟨0, n, []⟩ = seenP pl (textC cs rs ⟨0, n, []⟩) := by simp [covC, preC, preL, covP, Con.op]
theorem cov_eq1 (n : Int) : covC cs rs pl ⟨1, n, []⟩ = true := by simp [covC, preC, preL, covP, Con.op]
theorem cov_eq2 (n : Int) : covC cs rs pl ⟨2, n, []⟩ = true := by simp [covC, preC, preL, covP, Con.op]
theorem cov_eq3 (n : Int) (d : Con) : covC cs rs pl ⟨3, n, [d]⟩ = covC cs rs pl d := by simp [covC, preC, preL, covP, Con.op]
theorem cov_eq4 (n : Int) (d e : Con) : covC cs rs pl ⟨4, n, [d, e]⟩ = (covC cs rs pl d && covC cs rs pl e) := by simp [covC, preC, preL, covP, Con.op]
theorem cov_eq5 (n : Int) (d e : Con) : covC cs rs pl ⟨5, n, [d, e]⟩ = (covC cs rs pl d && covC cs rs pl e) := by simp [covC, preC, preL, covP, Con.op]
theorem cov_eq6 (n : Int) (d : Con) : covC cs rs pl ⟨6, n, [d]⟩ = (seenP pl (textC cs rs ⟨6, n, [d]⟩) && covC cs rs pl d) := by simp [covC, preC, preL, covP, Con.op, quant_some]
theorem cov_eq7 (n : Int) (d : Con) : covC cs rs pl ⟨7, n, [d]⟩ = (seenP pl (textC cs rs ⟨6, n, [nnfC d true]⟩) && covC cs rs pl d) := by simp [covC, preC, preL, covP, Con.op, quant_all]
theorem cov_nnf {c : Con} (h : Sh c) : covC cs rs pl (nnfC c true) = covC cs rs pl (nnfC c false) := by
  induction h with
  | name n => simp [nnf_name, cov_eq3]
  | top n => simp [nnf_top, cov_eq1, cov_eq2]
  | bot n => simp [nnf_bot, cov_eq1, cov_eq2]
  | not n _ ih => simp [nnf_not, ih]
  | and n _ _ ih ik => simp [nnf_and, cov_eq4, cov_eq5, ih, ik]
  | or n _ _ ih ik => simp [nnf_or, cov_eq4, cov_eq5, ih, ik]
  | some n h ih => simp [nnf_some, cov_eq6, cov_eq7, ih, nnf_nnf h]
  | all n h ih => simp [nnf_all, cov_eq6, cov_eq7, ih, nnf_nnf h]
theorem tr0 (n : Int) : trueC cs rs pl t ⟨0, n, []⟩ = (seenP pl (textC cs rs ⟨0, n, []⟩) && bitB t (numP pl (textC cs rs ⟨0, n, []⟩)), seenP pl (textC cs rs ⟨0, n, []⟩)) := by simp [trueC]
theorem tr1 (n : Int) : trueC cs rs pl t ⟨1, n, []⟩ = (true, true) := by simp [trueC]
theorem tr2 (n : Int) : trueC cs rs pl t ⟨2, n, []⟩ = (false, true) := by simp [trueC]
theorem tr3 (n : Int) (d : Con) : trueC cs rs pl t ⟨3, n, [d]⟩ = ((trueC cs rs pl t d).2 && !(trueC cs rs pl t d).1, (trueC cs rs pl t d).2) := by simp [trueC, true1]
theorem tr4 (n : Int) (d e : Con) : trueC cs rs pl t ⟨4, n, [d, e]⟩ = if !(trueC cs rs pl t d).2 || !(trueC cs rs pl t e).2 then (false, false) else ((trueC cs rs pl t d).1 && (trueC cs rs pl t e).1, true) := by simp [trueC, true1, true2]
theorem tr5 (n : Int) (d e : Con) : trueC cs rs pl t ⟨5, n, [d, e]⟩ = if !(trueC cs rs pl t d).2 || !(trueC cs rs pl t e).2 then (false, false) else ((trueC cs rs pl t d).1 || (trueC cs rs pl t e).1, true) := by simp [trueC, true1, true2]
theorem tr6 (n : Int) (d : Con) : trueC cs rs pl t ⟨6, n, [d]⟩ = (seenP pl (textC cs rs ⟨6, n, [d]⟩) && (bitB t (numP pl (textC cs rs ⟨6, n, [d]⟩)) == true), seenP pl (textC cs rs ⟨6, n, [d]⟩)) := by simp [trueC, quant_some]
theorem tr7 (n : Int) (d : Con) : trueC cs rs pl t ⟨7, n, [d]⟩ = (seenP pl (textC cs rs ⟨6, n, [nnfC d true]⟩) && (bitB t (numP pl (textC cs rs ⟨6, n, [nnfC d true]⟩)) == false), seenP pl (textC cs rs ⟨6, n, [nnfC d true]⟩)) := by simp [trueC, quant_all]
theorem cov_seen {c : Con} (h : Sh c) : covC cs rs pl c = true → (trueC cs rs pl t c).2 = true := by
  induction h with
  | name n => rw [cov_eq0, tr0]; exact fun h => h
  | top n => rw [tr1]; exact fun _ => rfl
  | bot n => rw [tr2]; exact fun _ => rfl
  | not n _ ih => rw [cov_eq3, tr3]; exact ih
  | and n _ _ ih ik => rw [cov_eq4, tr4, Bool.and_eq_true]; rintro ⟨h1, h2⟩; rw [ih h1, ik h2]; rfl
  | or n _ _ ih ik => rw [cov_eq5, tr5, Bool.and_eq_true]; rintro ⟨h1, h2⟩; rw [ih h1, ik h2]; rfl
  | some n _ ih => rw [cov_eq6, tr6, Bool.and_eq_true]; exact fun h => h.1
  | all n _ ih => rw [cov_eq7, tr7, Bool.and_eq_true]; exact fun h => h.1
/-- The normal form of the negation. -/
theorem true_nnf {c : Con} (h : Sh c) : (trueC cs rs pl t (nnfC c true)).2 = (trueC cs rs pl t (nnfC c false)).2 ∧ ((trueC cs rs pl t (nnfC c false)).2 = true → (trueC cs rs pl t (nnfC c true)).1 = !(trueC cs rs pl t (nnfC c false)).1) := by
  induction h with
  | name n =>
    simp only [nnf_name, if_true, Bool.false_eq_true, if_false, tr3, tr0]
    exact ⟨trivial, fun h => by rw [h]; rfl⟩
  | top n => simp [nnf_top, tr1, tr2]
  | bot n => simp [nnf_bot, tr1, tr2]
  | not n _ ih =>
    simp only [nnf_not, Bool.not_true, Bool.not_false]
    exact ⟨ih.1.symm, fun h => by rw [ih.2 (ih.1 ▸ h), Bool.not_not]⟩
  | and n _ _ ih ik =>
    simp only [nnf_and, if_true, Bool.false_eq_true, if_false, tr4, tr5, ih.1, ik.1]
    split
    · simp
    · rename_i h
      simp only [Bool.or_eq_true, Bool.not_eq_true', not_or, Bool.not_eq_false] at h
      exact ⟨rfl, fun _ => by rw [ih.2 h.1, ik.2 h.2, Bool.not_and]⟩
  | or n _ _ ih ik =>
    simp only [nnf_or, if_true, Bool.false_eq_true, if_false, tr4, tr5, ih.1, ik.1]
    split
    · simp
    · rename_i h
      simp only [Bool.or_eq_true, Bool.not_eq_true', not_or, Bool.not_eq_false] at h
      exact ⟨rfl, fun _ => by rw [ih.2 h.1, ik.2 h.2, Bool.not_or]⟩
  | some n h ih =>
    simp only [nnf_some, if_true, Bool.false_eq_true, if_false, tr6, tr7, nnf_nnf h]
    exact ⟨rfl, fun h => by rw [show (true != true) = false from rfl]; rw [h]; cases bitB t _ <;> rfl⟩
  | all n h ih =>
    simp only [nnf_all, if_true, Bool.false_eq_true, if_false, tr6, tr7, nnf_nnf h]
    exact ⟨rfl, fun h => by rw [show (false != true) = true from rfl] at *; rw [h]; cases bitB t _ <;> rfl⟩
end
theorem fine_snoc {v : Bool} {nc nr : Nat} {l : List Con} {c : Con} : fineE v nc nr (l ++ [c]) = 0 ↔ v = true ∧ allOk nc nr l = true ∧ okC nc nr c = true := by
  unfold fineE
  have e : allOk nc nr (l ++ [c]) = (allOk nc nr l && okC nc nr c) := by simp [allOk]
  rw [e]
  cases v <;> cases allOk nc nr l <;> cases okC nc nr c <;> simp
theorem truth_ok {b : Kb} {more : List Con} {t : Int} {c : Con} (h : (truthE b more t c).2 = 0) : fineE (kbValidB b) b.cs.length b.rs.length (more ++ [c]) = 0 ∧ openE b more = 0 ∧ ¬ (t < 0 ∨ 2 ^ (marksC b more).length ≤ t ∨ covC b.cs b.rs (plOf b.cs b.rs (marksC b more)) (nnfC c false) = false) ∧
    truthE b more t c = ((trueC b.cs b.rs (plOf b.cs b.rs (marksC b more)) t (nnfC c false)).1, 0) := by
  unfold truthE at h ⊢
  split at h
  · rename_i h1
    split at h
    · rename_i h2
      split at h
      · exact absurd h (by decide)
      · rename_i h3
        exact ⟨h1, h2, h3, by rw [if_pos h1, if_pos h2, if_neg h3]⟩
    · rename_i h2; exact absurd h h2
  · rename_i h1; exact absurd h h1
theorem truth_of {b : Kb} {more : List Con} {t : Int} {c : Con} (h1 : fineE (kbValidB b) b.cs.length b.rs.length (more ++ [c]) = 0) (h2 : openE b more = 0) (h3 : ¬ (t < 0 ∨ 2 ^ (marksC b more).length ≤ t ∨ covC b.cs b.rs (plOf b.cs b.rs (marksC b more)) (nnfC c false) = false)) :
    truthE b more t c = ((trueC b.cs b.rs (plOf b.cs b.rs (marksC b more)) t (nnfC c false)).1, 0) := by
  unfold truthE; rw [if_pos h1, if_pos h2, if_neg h3]
/-- A valid concept's normal forms, where they are valid. -/
theorem truth_normal {b : Kb} {more : List Con} {t : Int} {c : Con} {x : Bool} (h : truthE b more t c = (x, 0)) (a : Bool) (hv : okC b.cs.length b.rs.length (nnfC c a) = true) : truthE b more t (nnfC c a) = (x != a, 0) := by
  obtain ⟨h1, h2, h3, h4⟩ := truth_ok (b := b) (more := more) (t := t) (c := c) (by rw [h])
  obtain ⟨f1, f2, f3⟩ := fine_snoc.1 h1
  have hsh : Sh c := sh_shape (shape_of_fit (okC_facts f3).1)
  have e : nnfC (nnfC c a) false = nnfC c a := by rw [nnf_nnf hsh]; cases a <;> rfl
  have hx : x = (trueC b.cs b.rs (plOf b.cs b.rs (marksC b more)) t (nnfC c false)).1 := by rw [h] at h4; exact (Prod.mk.inj h4).1
  have hcv : covC b.cs b.rs (plOf b.cs b.rs (marksC b more)) (nnfC c false) = true := by
    cases hc : covC b.cs b.rs (plOf b.cs b.rs (marksC b more)) (nnfC c false)
    · exact absurd (.inr (.inr hc)) h3
    · rfl
  have hcv' : covC b.cs b.rs (plOf b.cs b.rs (marksC b more)) (nnfC c a) = true := by
    cases a
    · exact hcv
    · rw [cov_nnf _ _ _ hsh]; exact hcv
  rw [truth_of (fine_snoc.2 ⟨f1, f2, hv⟩) h2 (by rw [e, hcv']; intro h; apply h3; rcases h with h | h | h; exact .inl h; exact .inr (.inl h); cases h), e]
  congr 1
  cases a
  · rw [hx]; simp
  · rw [(true_nnf _ _ _ t hsh).2 (cov_seen _ _ _ t (hsh.nnf false) hcv), hx]; simp
end Go.Proofs.YtoafelppnagpbaaGreatDoor
