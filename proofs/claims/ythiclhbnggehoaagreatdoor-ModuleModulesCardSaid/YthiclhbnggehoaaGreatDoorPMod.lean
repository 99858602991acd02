/- Plain: locality, and the module as the least set that holds all that is not local. -/
import Derived.Test.YthiclhbnggehoaaGreatDoorMem
namespace Go.Proofs.YthiclhbnggehoaaGreatDoor
set_option linter.unusedVariables false
set_option linter.unusedSimpArgs false
/-- An axiom. -/
inductive Ax where
  | incl (c d : Con)
  | role (r s : Int)
  | fact (i : Int) (c : Con)
  | link (r f t : Int)
def axs (b : Kb) : List Ax := b.incls.map (fun x => .incl x.1 x.2) ++ b.roles.map (fun x => .role x.1 x.2) ++ b.facts.map (fun x => .fact x.1 x.2) ++ b.links.map (fun x => .link x.1 x.2.1 x.2.2)
/-- What a node counts as (empty, full), its arguments counting as l says. -/
def shapeOp (top : Bool) (C R : Int → Bool) (op n : Int) (l : List (Bool × Bool)) : Bool × Bool :=
  if op = 0 then if C n then (false, false) else (!top, top)
  else if op = 1 then (false, true)
  else if op = 2 then (true, false)
  else if op = 3 then ((l.getD 0 (false, false)).2, (l.getD 0 (false, false)).1)
  else if op = 4 then ((l.getD 0 (false, false)).1 || (l.getD 1 (false, false)).1, (l.getD 0 (false, false)).2 && (l.getD 1 (false, false)).2)
  else if op = 5 then ((l.getD 0 (false, false)).1 && (l.getD 1 (false, false)).1, (l.getD 0 (false, false)).2 || (l.getD 1 (false, false)).2)
  else if op = 6 then if R (n / 2) then ((l.getD 0 (false, false)).1, false) else if top then l.getD 0 (false, false) else (true, false)
  else if R (n / 2) then (false, (l.getD 0 (false, false)).2) else if top then l.getD 0 (false, false) else (false, true)
mutual
def shapeM (top : Bool) (C R : Int → Bool) : Con → Bool × Bool | ⟨op, n, l⟩ => shapeOp top C R op n (shapeML top C R l)
def shapeML (top : Bool) (C R : Int → Bool) : List Con → List (Bool × Bool) | [] => [] | c :: r => shapeM top C R c :: shapeML top C R r
end
/-- At the larger signature as well. -/
def Below2 (p q : Bool × Bool) : Prop := (p.1 = true → q.1 = true) ∧ (p.2 = true → q.2 = true)
theorem Below2.refl (p : Bool × Bool) : Below2 p p := ⟨fun h => h, fun h => h⟩
theorem shapeOp_mono {top : Bool} {C C' R R' : Int → Bool} (hC : ∀ n, C n = true → C' n = true) (hR : ∀ n, R n = true → R' n = true) (op n : Int) (l l' : List (Bool × Bool)) (hl : ∀ i, Below2 (l'.getD i (false, false)) (l.getD i (false, false))) :
    Below2 (shapeOp top C' R' op n l') (shapeOp top C R op n l) := by
  have h0 := hl 0
  have h1 := hl 1
  unfold shapeOp
  clear hl
  generalize l.getD 0 (false, false) = a at *
  generalize l.getD 1 (false, false) = b at *
  generalize l'.getD 0 (false, false) = a' at *
  generalize l'.getD 1 (false, false) = b' at *
  have hc := hC n
  have hr := hR (n / 2)
  generalize C n = c at *
  generalize C' n = c' at *
  generalize R (n / 2) = r at *
  generalize R' (n / 2) = r' at *
  obtain ⟨a1, a2⟩ := a
  obtain ⟨b1, b2⟩ := b
  obtain ⟨a1', a2'⟩ := a'
  obtain ⟨b1', b2'⟩ := b'
  unfold Below2 at *
  by_cases e0 : op = 0
  · simp only [e0, if_true]; cases c <;> cases c' <;> simp_all
  by_cases e1 : op = 1
  · simp [e1]
  by_cases e2 : op = 2
  · simp [e2]
  by_cases e3 : op = 3
  · simp_all
  by_cases e4 : op = 4
  · simp only [e4]; simp; constructor <;> cases a1 <;> cases b1 <;> cases a2 <;> cases b2 <;> cases a1' <;> cases b1' <;> cases a2' <;> cases b2' <;> simp_all
  by_cases e5 : op = 5
  · simp only [e5]; simp; constructor <;> cases a1 <;> cases b1 <;> cases a2 <;> cases b2 <;> cases a1' <;> cases b1' <;> cases a2' <;> cases b2' <;> simp_all
  by_cases e6 : op = 6
  · simp only [e6]; cases r <;> cases r' <;> cases top <;> simp_all
  · simp only [e0, e1, e2, e3, e4, e5, e6, if_false]; cases r <;> cases r' <;> cases top <;> simp_all
mutual
theorem shapeM_mono {top : Bool} {C C' R R' : Int → Bool} (hC : ∀ n, C n = true → C' n = true) (hR : ∀ n, R n = true → R' n = true) : ∀ c : Con, Below2 (shapeM top C' R' c) (shapeM top C R c)
  | ⟨op, n, l⟩ => by simp only [shapeM]; exact shapeOp_mono hC hR op n _ _ (shapeML_mono hC hR l)
theorem shapeML_mono {top : Bool} {C C' R R' : Int → Bool} (hC : ∀ n, C n = true → C' n = true) (hR : ∀ n, R n = true → R' n = true) : ∀ (l : List Con) (i : Nat), Below2 ((shapeML top C' R' l).getD i (false, false)) ((shapeML top C R l).getD i (false, false))
  | [], i => by simp only [shapeML]; exact Below2.refl _
  | c :: r, 0 => by simp only [shapeML, List.getD_cons_zero]; exact shapeM_mono hC hR c
  | c :: r, i + 1 => by simp only [shapeML, List.getD_cons_succ]; exact shapeML_mono hC hR r i
end
def localX (top : Bool) (C R : Int → Bool) : Ax → Bool
  | .incl c d => (shapeM top C R c).1 || (shapeM top C R d).2
  | .role r s => if top then !R (s / 2) else !R (r / 2)
  | .fact _ c => (shapeM top C R c).2
  | .link r _ _ => top && !R r
theorem localX_mono {top : Bool} {C C' R R' : Int → Bool} (hC : ∀ n, C n = true → C' n = true) (hR : ∀ n, R n = true → R' n = true) (x : Ax) (h : localX top C' R' x = true) : localX top C R x = true := by
  cases x with
  | incl c d =>
    simp only [localX, Bool.or_eq_true] at h ⊢
    exact h.imp (shapeM_mono hC hR c).1 (shapeM_mono hC hR d).2
  | role r s =>
    simp only [localX] at h ⊢
    have h1 := hR (s / 2)
    have h2 := hR (r / 2)
    cases top <;> simp_all <;> (cases hx : R (s / 2) <;> cases hy : R (r / 2) <;> simp_all)
  | fact i c => simp only [localX] at h ⊢; exact (shapeM_mono hC hR c).2 h
  | link r f t =>
    simp only [localX, Bool.and_eq_true, Bool.not_eq_true'] at h ⊢
    refine ⟨h.1, ?_⟩
    have h1 := hR r
    cases hx : R r <;> simp_all
mutual
def occNames : Con → List Int | ⟨op, n, l⟩ => (if op = 0 then [n] else []) ++ occNamesL l
def occNamesL : List Con → List Int | [] => [] | c :: r => occNames c ++ occNamesL r
end
mutual
def occRoles : Con → List Int | ⟨op, n, l⟩ => (if op = 6 ∨ op = 7 then [n / 2] else []) ++ occRolesL l
def occRolesL : List Con → List Int | [] => [] | c :: r => occRoles c ++ occRolesL r
end
def namesAx : Ax → List Int
  | .incl c d => occNames c ++ occNames d
  | .role _ _ => []
  | .fact _ c => occNames c
  | .link _ _ _ => []
def rolesAx : Ax → List Int
  | .incl c d => occRoles c ++ occRoles d
  | .role r s => [r / 2, s / 2]
  | .fact _ c => occRoles c
  | .link r _ _ => [r]
section
variable (A : Nat → Ax) (top : Bool) (C R : List Int)
def sigN (X : List Nat) : List Int := C ++ X.flatMap fun k => namesAx (A k)
def sigR (X : List Nat) : List Int := R ++ X.flatMap fun k => rolesAx (A k)
def inL (l : List Int) : Int → Bool := fun n => decide (n ∈ l)
/-- The axiom k is local for what occurs in X. -/
def localAt (X : List Nat) (k : Nat) : Bool := localX top (inL (sigN A C X)) (inL (sigR A R X)) (A k)
def ClosedM (within X : List Nat) : Prop := ∀ k ∈ within, localAt A top C R X k = false → k ∈ X
/-- k belongs to the module within some axioms. -/
def InMod (within : List Nat) (k : Nat) : Prop := k ∈ within ∧ ∀ X, ClosedM A top C R within X → k ∈ X
open Classical in
noncomputable def modL (within : List Nat) : List Nat := within.filter fun k => decide (InMod A top C R within k)
variable {A top C R}
theorem sig_mono {X Y : List Nat} (h : ∀ k ∈ X, k ∈ Y) {C' R' : List Int} (hC : ∀ n ∈ C, n ∈ C') (hR : ∀ n ∈ R, n ∈ R') {k : Nat} (hl : localAt A top C R X k = false) : localAt A top C' R' Y k = false := by
  cases e : localAt A top C' R' Y k with
  | false => rfl
  | true =>
    have : localAt A top C R X k = true := by
      unfold localAt at e ⊢
      refine localX_mono (fun n hn => ?_) (fun n hn => ?_) _ e
      · simp only [inL, sigN, decide_eq_true_eq, List.mem_append, List.mem_flatMap] at hn ⊢
        rcases hn with hn | ⟨j, hj, hn⟩
        · exact .inl (hC n hn)
        · exact .inr ⟨j, h j hj, hn⟩
      · simp only [inL, sigR, decide_eq_true_eq, List.mem_append, List.mem_flatMap] at hn ⊢
        rcases hn with hn | ⟨j, hj, hn⟩
        · exact .inl (hR n hn)
        · exact .inr ⟨j, h j hj, hn⟩
    rw [hl] at this; cases this
theorem InMod.step {within X : List Nat} (hX : ∀ k ∈ X, InMod A top C R within k) {k : Nat} (hk : k ∈ within) (hl : localAt A top C R X k = false) : InMod A top C R within k :=
  ⟨hk, fun Y hY => hY k hk (sig_mono (fun j hj => (hX j hj).2 Y hY) (fun _ h => h) (fun _ h => h) hl)⟩
theorem mem_modL {within : List Nat} {k : Nat} : k ∈ modL A top C R within ↔ InMod A top C R within k := by
  unfold modL; rw [List.mem_filter]; simp only [decide_eq_true_eq]; exact ⟨fun h => h.2, fun h => ⟨h.1, h⟩⟩
theorem modL_closed (within : List Nat) : ClosedM A top C R within (modL A top C R within) := fun k hk hl => mem_modL.2 (InMod.step (fun j hj => mem_modL.1 hj) hk hl)
/-- A set that was reached step by step, and is closed, is the module. -/
theorem modL_of {within X : List Nat} (hX : ∀ k ∈ X, InMod A top C R within k) (hc : ClosedM A top C R within X) (k : Nat) : k ∈ X ↔ InMod A top C R within k := ⟨hX k, fun h => h.2 X hc⟩
open Classical in
theorem filter_modL {within X : List Nat} (hX : ∀ k ∈ X, InMod A top C R within k) (hc : ClosedM A top C R within X) : within.filter (fun k => decide (k ∈ X)) = modL A top C R within := by
  unfold modL
  refine List.filter_congr fun k _ => ?_
  rw [Bool.eq_iff_iff]
  simp only [decide_eq_true_eq]
  exact modL_of hX hc k
/-- A larger signature has a larger module. -/
theorem modL_sig {within : List Nat} {C' R' : List Int} (hC : ∀ n ∈ C, n ∈ C') (hR : ∀ n ∈ R, n ∈ R') {k : Nat} (h : InMod A top C R within k) : InMod A top C' R' within k :=
  ⟨h.1, fun X hX => h.2 X fun j hj hl => hX j hj (sig_mono (fun _ h => h) hC hR hl)⟩
/-- The module of a module is itself. -/
theorem modL_idem {within : List Nat} {k : Nat} (h : InMod A top C R within k) : InMod A top C R (modL A top C R within) k :=
  ⟨mem_modL.2 h, fun X hX => by
    have hY : ClosedM A top C R within (X.filter fun j => decide (j ∈ modL A top C R within)) := fun j hj hl => by
      have hjm : InMod A top C R within j := ⟨hj, fun Z hZ => hZ j hj (sig_mono (fun i hi => (mem_modL.1 (by simpa using (List.mem_filter.1 hi).2)).2 Z hZ) (fun _ h => h) (fun _ h => h) hl)⟩
      refine List.mem_filter.2 ⟨hX j (mem_modL.2 hjm) (sig_mono (fun i hi => (List.mem_filter.1 hi).1) (fun _ h => h) (fun _ h => h) hl), by simpa using mem_modL.2 hjm⟩
    exact (List.mem_filter.1 (h.2 _ hY)).1⟩
theorem modL_len (within : List Nat) : (modL A top C R within).length ≤ within.length := by unfold modL; exact List.length_filter_le _ _
theorem modL_same {within : List Nat} (h : (modL A top C R within).length = within.length) : modL A top C R within = within := by
  unfold modL at *
  exact List.filter_eq_self.2 (List.length_filter_eq_length_iff.1 h)
variable (A C R)
/-- Star: both kinds in turn, until neither leaves anything out. -/
noncomputable def starM (top : Bool) (same : Nat) (out : List Nat) : List Nat :=
  if same < 2 then
    if (modL A top C R out).length < out.length then starM (!top) 0 (modL A top C R out) else starM (!top) (same + 1) (modL A top C R out)
  else out
termination_by 3 * out.length + (2 - same)
decreasing_by
  · omega
  · have := modL_len (A := A) (top := top) (C := C) (R := R) out; omega
variable {A C R}
theorem modL_sub {top : Bool} {out : List Nat} {k : Nat} (h : k ∈ modL A top C R out) : k ∈ out := (mem_modL.1 h).1
theorem starM_sub (top : Bool) (same : Nat) (out : List Nat) : ∀ k ∈ starM A C R top same out, k ∈ out := by
  induction top, same, out using starM.induct (A := A) (C := C) (R := R) with
  | case1 top same out h1 h2 ih => intro k hk; rw [starM, if_pos h1, if_pos h2] at hk; exact modL_sub (ih k hk)
  | case2 top same out h1 h2 ih => intro k hk; rw [starM, if_pos h1, if_neg h2] at hk; exact modL_sub (ih k hk)
  | case3 top same out h1 => intro k hk; rw [starM, if_neg h1] at hk; exact hk
theorem starM_first {top : Bool} {out : List Nat} {k : Nat} (hk : k ∈ starM A C R top 0 out) : k ∈ modL A top C R out := by
  rw [starM, if_pos (by omega)] at hk
  split at hk <;> exact starM_sub _ _ _ _ hk
theorem starM_fixed (top : Bool) (same : Nat) (out : List Nat) : (1 ≤ same → modL A (!top) C R out = out) → (2 ≤ same → modL A top C R out = out) → ∀ t, modL A t C R (starM A C R top same out) = starM A C R top same out := by
  induction top, same, out using starM.induct (A := A) (C := C) (R := R) with
  | case1 top same out h1 h2 ih => intro _ _; rw [starM, if_pos h1, if_pos h2]; exact ih (fun h => by omega) (fun h => by omega)
  | case2 top same out h1 h2 ih =>
    intro i1 _
    rw [starM, if_pos h1, if_neg h2]
    have e : modL A top C R out = out := modL_same (by have := modL_len (A := A) (top := top) (C := C) (R := R) out; omega)
    refine ih (fun _ => ?_) (fun h => ?_)
    · rw [e, Bool.not_not, e]
    · rw [e]; exact i1 (by omega)
  | case3 top same out h1 =>
    intro i1 i2
    rw [starM, if_neg h1]
    intro t
    cases t <;> cases top <;> first | exact i1 (by omega) | exact i2 (by omega)
/-- Where both kinds leave nothing out, Star does not either. -/
theorem starM_self {top : Bool} {out : List Nat} (h : ∀ t, modL A t C R out = out) : starM A C R top 0 out = out := by
  rw [starM, if_pos (by omega), h, if_neg (by omega), starM, if_pos (by omega), h, if_neg (by omega), starM, if_neg (by omega)]
end
end Go.Proofs.YthiclhbnggehoaaGreatDoor
