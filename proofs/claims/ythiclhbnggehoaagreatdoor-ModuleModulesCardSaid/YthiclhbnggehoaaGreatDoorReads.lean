/- Slices of concepts read flat, and appended to. -/
import Derived.Test.YthiclhbnggehoaaGreatDoorBase
import Derived.Deep.RegionLaw
namespace Go.Proofs.YthiclhbnggehoaaGreatDoor
open Go.RowKit
set_option linter.unusedVariables false
set_option linter.unusedSimpArgs false
theorem KbR.mono {ok ok' : Nat → Prop} {w : World} {b : Kb} {p : KbA} (h : KbR ok w b p) (ho : ∀ k, ok k → ok' k) : KbR ok' w b p :=
  { h with
    cs := h.cs.mono ho, rs := h.rs.mono ho, is := h.is.mono ho
    incls := fun hl => by
      obtain ⟨b, o, e, hb, hc⟩ := h.incls hl
      exact ⟨b, o, e, ho b hb, fun i hi => by obtain ⟨A1, c1, A2, c2, h0, h1, h2, h3, h4, h5, h6, h7⟩ := hc i hi; exact ⟨A1, c1, A2, c2, h0, h1, h2, h3, h4, h5, h6.mono ho, h7.mono ho⟩⟩
    roles := fun hl => by obtain ⟨b, o, e, hb, hc⟩ := h.roles hl; exact ⟨b, o, e, ho b hb, hc⟩
    facts := fun hl => by
      obtain ⟨b, o, e, hb, hc⟩ := h.facts hl
      exact ⟨b, o, e, ho b hb, fun i hi => by obtain ⟨A1, c1, h0, h1, h2, h3, h4⟩ := hc i hi; exact ⟨A1, c1, h0, h1, h2, h3, h4.mono ho⟩⟩
    links := fun hl => by obtain ⟨b, o, e, hb, hc⟩ := h.links hl; exact ⟨b, o, e, ho b hb, hc⟩ }
theorem addAny (b o j : Nat) : (⟨b, o, none⟩ : Addr).add j = ⟨b, o + j, none⟩ := by unfold Addr.add; split <;> simp_all
/-- Three cells a concept, one behind the other. -/
def Reads (ok : Nat → Prop) (w : World) (l : List Con) (vs : List Value) : Prop := vs.length = l.length * 3 ∧ (∀ u ∈ vs, u.oneCell' = true) ∧ ∀ i (h : i < l.length), ∃ v0 v1 v2, vs[i * 3]? = some v0 ∧ vs[i * 3 + 1]? = some v1 ∧ vs[i * 3 + 2]? = some v2 ∧ ConR ok w l[i] [v0, v1, v2]
theorem ConsR.flat {ok : Nat → Prop} {w : World} : ∀ {l : List Con} {b o : Nat}, ConsR ok w l b o → ∃ vs : List Value, Reads ok w l vs ∧ ∀ j u, vs[j]? = some u → w.cell? ⟨b, o + j, none⟩ = some u
  | [], b, o, _ => ⟨[], ⟨rfl, by simp, fun i h => absurd h (Nat.not_lt_zero _)⟩, fun j u h => by simp at h⟩
  | c :: r, b, o, h => by
    simp only [ConsR] at h
    obtain ⟨⟨v0, v1, v2, h0, h1, h2, hc⟩, hr⟩ := h
    obtain ⟨vs, ⟨a1, a2, a3⟩, a4⟩ := ConsR.flat hr
    have hone : v0.oneCell' = true ∧ v1.oneCell' = true ∧ v2.oneCell' = true := by
      obtain ⟨A, cap, e, _⟩ := hc.form
      simp only [List.cons.injEq, and_true] at e
      obtain ⟨rfl, rfl, rfl⟩ := e
      exact ⟨rfl, rfl, rfl⟩
    refine ⟨v0 :: v1 :: v2 :: vs, ⟨by simp [a1]; omega, ?_, ?_⟩, ?_⟩
    · intro u hu
      simp only [List.mem_cons] at hu
      rcases hu with rfl | rfl | rfl | hu
      · exact hone.1
      · exact hone.2.1
      · exact hone.2.2
      · exact a2 u hu
    · intro i hi
      cases i with
      | zero => exact ⟨v0, v1, v2, rfl, rfl, rfl, hc⟩
      | succ i =>
        obtain ⟨u0, u1, u2, q0, q1, q2, q3⟩ := a3 i (by simpa using hi)
        refine ⟨u0, u1, u2, ?_, ?_, ?_, q3⟩
        · rw [show (i + 1) * 3 = i * 3 + 3 by omega]; exact q0
        · rw [show (i + 1) * 3 + 1 = i * 3 + 1 + 3 by omega]; exact q1
        · rw [show (i + 1) * 3 + 2 = i * 3 + 2 + 3 by omega]; exact q2
    · intro j u hj
      match j, hj with
      | 0, hj => simp at hj; subst hj; exact h0
      | 1, hj => simp at hj; subst hj; exact h1
      | 2, hj => simp at hj; subst hj; exact h2
      | j + 3, hj => simp only [List.getElem?_cons_succ] at hj; have := a4 j u hj; rwa [show o + 3 + j = o + (j + 3) by omega] at this
theorem Reads.snoc {ok : Nat → Prop} {w : World} {l : List Con} {vs : List Value} {c : Con} {v0 v1 v2 : Value} (h : Reads ok w l vs) (hc : ConR ok w c [v0, v1, v2]) : Reads ok w (l ++ [c]) (vs ++ [v0, v1, v2]) := by
  obtain ⟨a1, a2, a3⟩ := h
  have hone : v0.oneCell' = true ∧ v1.oneCell' = true ∧ v2.oneCell' = true := by
    obtain ⟨A, cap, e, _⟩ := hc.form
    simp only [List.cons.injEq, and_true] at e
    obtain ⟨rfl, rfl, rfl⟩ := e
    exact ⟨rfl, rfl, rfl⟩
  refine ⟨by simp [a1]; omega, fun u hu => ?_, fun i hi => ?_⟩
  · simp only [List.mem_append, List.mem_cons, List.not_mem_nil, or_false] at hu
    rcases hu with hu | rfl | rfl | rfl
    · exact a2 u hu
    · exact hone.1
    · exact hone.2.1
    · exact hone.2.2
  · by_cases hl : i < l.length
    · obtain ⟨u0, u1, u2, q0, q1, q2, q3⟩ := a3 i hl
      exact ⟨u0, u1, u2, by rw [List.getElem?_append_left (by omega)]; exact q0, by rw [List.getElem?_append_left (by omega)]; exact q1, by rw [List.getElem?_append_left (by omega)]; exact q2, by rw [List.getElem_append_left hl]; exact q3⟩
    · simp only [List.length_append, List.length_singleton] at hi
      obtain rfl : i = l.length := by omega
      exact ⟨v0, v1, v2, by rw [List.getElem?_append_right (by omega)]; simp [a1], by rw [List.getElem?_append_right (by omega)]; simp [a1], by rw [List.getElem?_append_right (by omega)]; simp [a1], by rw [List.getElem_append_right (by omega)]; simpa using hc⟩
theorem Reads.keep {ok S : Nat → Prop} {w w' : World} {l : List Con} {vs : List Value} (h : Reads ok w l vs) (hk : Keeps S w w') (hs : ∀ k, ok k → ¬ S k) : Reads ok w' l vs :=
  ⟨h.1, h.2.1, fun i hi => by obtain ⟨u0, u1, u2, q0, q1, q2, q3⟩ := h.2.2 i hi; exact ⟨u0, u1, u2, q0, q1, q2, q3.keep hk hs⟩⟩
theorem Reads.mono {ok ok' : Nat → Prop} {w : World} {l : List Con} {vs : List Value} (h : Reads ok w l vs) (ho : ∀ k, ok k → ok' k) : Reads ok' w l vs :=
  ⟨h.1, h.2.1, fun i hi => by obtain ⟨u0, u1, u2, q0, q1, q2, q3⟩ := h.2.2 i hi; exact ⟨u0, u1, u2, q0, q1, q2, q3.mono ho⟩⟩
theorem Reads.consAt {ok : Nat → Prop} {w : World} {base g n cap : Nat} {l : List Con} {vs : List Value} (h : Reads ok w l vs) (hr : w.ownsRow base 37 3 (.slice (some ⟨g, 0, none⟩) n cap) n vs) (hg : ok g) : ConsAt ok w l (some ⟨g, 0, none⟩) := fun _ =>
  ⟨g, 0, rfl, hg, ConsR.of_all (fun _ => by
    rcases hr.2 with ⟨h, _⟩ | ⟨g', cap', cur, e1, hb, hh, _⟩
    · cases h
    · simp only [Value.slice.injEq, Option.some.injEq, Addr.mk.injEq, and_true, true_and] at e1
      obtain ⟨rfl, rfl⟩ := e1
      exact ⟨_, _, hh⟩) (fun i hi => by
    obtain ⟨u0, u1, u2, q0, q1, q2, q3⟩ := h.2.2 i hi
    have at_ : ∀ j u, vs[j]? = some u → w.cell? ⟨g, 0 + j, none⟩ = some u := fun j u hu => by
      have := hr.cells (g := g) rfl j u hu
      rwa [addPlain, ← Nat.zero_add j] at this
    exact ⟨u0, u1, u2, at_ _ _ q0, at_ _ _ q1, at_ _ _ q2, q3⟩)⟩
/-- What a slice of concepts yields to an append. -/
theorem ConsAt.src {ok : Nat → Prop} {w : World} {l : List Con} {A : Option Addr} {cap : Nat} (h : ConsAt ok w l A) : ∃ vs, Reads ok w l vs ∧ ∀ w', Keeps (fun _ => False) w w' → Src Tryz.prog 3 35 (.slice A l.length cap) l.length vs w' := by
  by_cases hl : l = []
  · subst hl
    refine ⟨[], ⟨rfl, by simp, fun i h => absurd h (Nat.not_lt_zero _)⟩, fun w' _ => ?_⟩
    cases A with
    | none => exact Src.ofNil w' Tryz.underlying35 cap
    | some a => exact Src.ofSlice w' Tryz.underlying35 a 0 cap [] rfl (fun j u h => by simp at h) (by simp)
  · obtain ⟨b, o, rfl, hb, hr⟩ := h hl
    obtain ⟨vs, hv, hc⟩ := hr.flat
    exact ⟨vs, hv, fun w' hk => Src.ofSlice w' Tryz.underlying35 _ _ _ vs hv.1 (fun j u hu => by rw [addAny]; exact hk.cell (hc j u hu) (fun h => h)) hv.2.1⟩
section
variable {P : Program} {ops : Array Oper} {o : Oper} {a : Act} {Q : Exit → Act → World → Prop} {K : Act → World → Prop} {E : Prop}
/-- append(v, x...) of whatever length, as a step of a region in whatever order. -/
theorem step_appG {w : World} (hgd : Region.wanted o (yielded ops a.tmps) = true) (s x : Operand) (t tx : TypeId) (ho : o.op = .call { callee := .builtin .append, args := #[s, x], argTypes := #[t, tx] })
    (base e : Nat) (z : Value) (size bytes : Nat) (ht : P.underlying t = some (.slice e)) (hinfo : (P.info? e).map (fun i => (i.zero, i.size, i.bytes)) = some (some z, size, bytes))
    (hzs : z.cells.size = size) (hsz : 0 < size) (hb0 : 0 < bytes) (v : Value) (n : Nat) (xs : List Value) (hown : w.ownsRow base e size v n xs) (hs : a.eval s = v) (xv : Value) (m : Nat) (news : List Value)
    (hsrc : Src P size tx xv m news w) (hx : a.eval x = xv) (hbytes : (n + m) * bytes ≤ 140737488355328) (hbase : base ≤ w.heap.size)
    (h : ∀ v' w', w'.ownsRow base e size v' (n + m) (xs ++ news) → Keeps (fun k => v.ownBlock = some k) w w' → K (a.put o.dst v') w') :
    if Region.wanted o (yielded ops a.tmps) = true then Oper.wp P o a w K Q else E := by
  obtain ⟨i, hi, hz, hsize, hby⟩ := info_parts hinfo
  subst hsize; subst hby
  obtain ⟨v1, w1, hr1, h1, hg, hat⟩ := run_app (P := P) w base t tx o.type e i z ht hi hz hzs hsz hb0 v n xs hown xv m news hsrc hbytes hbase
  rw [if_pos hgd]
  unfold Oper.wp execOp
  simp only [ho, resolve, invoke, builtin, Sem.run_bind, Sem.run_pure, Result.andThen_ok, List.map_toArray, List.map_cons, List.map_nil, hs, hx, hr1]
  exact h v1 w1 h1 ⟨hg.os, hg.tape, hg.output, hg.size, fun k hk hn => hg.block k hk (fun e => hn e.symm)⟩
end
end Go.Proofs.YthiclhbnggehoaaGreatDoor
