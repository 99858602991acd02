/- A drawn region by an invariant over what is listed, the act and the world: each operation is walked once. -/
import Derived.Test.YthiclhbnggehoaaGreatDoorMem
import Derived.Deep.RegionHeld3
namespace Go.Proofs.YthiclhbnggehoaaGreatDoor
open Go.RowKit
theorem wpAny_inv {P : Program} {md : Region.Mode} {ops : Array Oper} {Q : Exit → Act → World → Prop} (I : Array Bool → Act → World → Prop) (left : Array Bool → Nat)
    (hend : ∀ L a w, I L a w → Region.ready md ops L = [] → Q .normal a w)
    (hz : ∀ L a w, I L a w → left L = 0 → Region.ready md ops L = [])
    (hl : ∀ L a w i, I L a w → i ∈ Region.ready md ops L → left (L.setIfInBounds i true) < left L)
    (hstep : ∀ L a w i, I L a w → i ∈ Region.ready md ops L → ∀ K : Act → World → Prop, (∀ a w, I (L.setIfInBounds i true) a w → K a w) → wpOp P ops Q i K a w) :
    ∀ fuel L a w, I L a w → left L ≤ fuel → wpAny P md ops Q fuel L a w := by
  intro fuel
  induction fuel with
  | zero => intro L a w h hf; have hr := hz L a w h (by omega); exact ⟨hr, hend L a w h hr⟩
  | succ n ih =>
    intro L a w h hf
    refine ⟨fun hr => hend L a w h hr, fun i hi => ?_⟩
    have h1 := hl L a w i h hi
    exact hstep L a w i h hi _ (fun a w h' => ih _ a w h' (by omega))
theorem wp_region_inv {P : Program} {id : Nat} {ops : Array Oper} {Q : Exit → Act → World → Prop} (I : Array Bool → Act → World → Prop) (left : Array Bool → Nat) (a : Act) (w : World) (hm : P.follows .mixedOrders = true)
    (hi : I (Array.replicate ops.size false) a w.drew) (hs : left (Array.replicate ops.size false) ≤ ops.size)
    (hend : ∀ L a w, I L a w → Region.ready .any ops L = [] → Q .normal a w)
    (hz : ∀ L a w, I L a w → left L = 0 → Region.ready .any ops L = [])
    (hl : ∀ L a w i, I L a w → i ∈ Region.ready .any ops L → left (L.setIfInBounds i true) < left L)
    (hstep : ∀ L a w i, I L a w → i ∈ Region.ready .any ops L → ∀ K : Act → World → Prop, (∀ a w, I (L.setIfInBounds i true) a w → K a w) → wpOp P ops Q i K a w) :
    (Code.region id ops true).wp P Q a w :=
  wp_region_any hm (wpAny_inv I left hend hz hl hstep _ _ _ _ hi hs)
end Go.Proofs.YthiclhbnggehoaaGreatDoor
/- A drawn region by an invariant, the second form: what 'ready' says comes out of the operations' own lists, nothing is decided over all sets of operations. -/
namespace Go.Proofs.YthiclhbnggehoaaGreatDoor
open Go.RowKit
set_option linter.unusedVariables false
set_option linter.unusedSimpArgs false
/-- What an operation that may come up tells of those behind which it stands. -/
def Behind (ops : Array Oper) (L : Array Bool) (i : Nat) : Prop := ∀ o, ops[i]? = some o → ∀ j (h : j < o.after.size), (!Region.binds .any o.after[j] || L.getD o.after[j].on false) = true
/-- Each operation stands behind earlier ones alone. -/
def topo (ops : Array Oper) : Bool := (List.range ops.size).all fun i => ((ops[i]?).map fun o => o.after.toList.all fun e => decide (e.on < i)).getD true
theorem mem_ready {ops : Array Oper} {L : Array Bool} {i : Nat} (h : i ∈ Region.ready .any ops L) : i < ops.size ∧ L.getD i true = false ∧ Behind ops L i := by
  obtain ⟨h1, h2⟩ := List.mem_filter.1 h
  simp only [Bool.and_eq_true, Bool.not_eq_true'] at h2
  refine ⟨List.mem_range.1 h1, h2.1, fun o ho j hj => ?_⟩
  have h3 := h2.2
  rw [ho] at h3
  simp only [Option.map_some, Option.getD_some] at h3
  exact Array.all_eq_true.1 h3 j hj
theorem all_of_ready {ops : Array Oper} {L : Array Bool} (ht : topo ops = true) (h : Region.ready .any ops L = []) : ∀ i, i < ops.size → L.getD i true = true := by
  intro i
  induction i using Nat.strongRecOn with
  | ind i ih =>
    intro hi
    cases hb : L.getD i true with
    | true => rfl
    | false =>
      exfalso
      have hm : i ∈ Region.ready .any ops L := by
        refine List.mem_filter.2 ⟨List.mem_range.2 hi, ?_⟩
        obtain ⟨o, ho⟩ : ∃ o, ops[i]? = some o := ⟨ops[i], Array.getElem?_eq_getElem hi⟩
        rw [hb, ho]
        simp only [Bool.not_false, Bool.true_and, Option.map_some, Option.getD_some]
        rw [Array.all_eq_true]
        intro j hj
        have h1 := List.all_eq_true.1 ht i (List.mem_range.2 hi)
        rw [ho] at h1
        simp only [Option.map_some, Option.getD_some] at h1
        have h2 := of_decide_eq_true (List.all_eq_true.1 h1 o.after[j] (Array.getElem_mem_toList hj))
        have h3 := ih _ h2 (by omega)
        have h4 : L.getD (o.after[j]).on false = true ∨ (L.getD (o.after[j]).on false = false ∧ L.size ≤ (o.after[j]).on) := by
          rw [Array.getD_eq_getD_getElem?] at h3 ⊢
          cases hq : L[(o.after[j]).on]? with
          | none => exact .inr ⟨rfl, by simpa using hq⟩
          | some b => rw [hq] at h3; exact .inl h3
        rcases h4 with h4 | ⟨-, h5⟩
        · rw [h4]; simp
        · exfalso
          rw [Array.getD_eq_getD_getElem?, Array.getElem?_eq_none (by omega)] at hb
          simp at hb
      rw [h] at hm
      cases hm
theorem count_set : ∀ {l : List Bool} {i : Nat}, l[i]? = some false → (l.set i true).count false < l.count false
  | b :: r, 0, h => by simp at h; subst h; simp
  | b :: r, i + 1, h => by
    have := count_set (l := r) (i := i) (by simpa using h)
    cases b <;> simp <;> omega
theorem left_lt {L : Array Bool} {i : Nat} (h : L.getD i true = false) : (L.setIfInBounds i true).toList.count false < L.toList.count false := by
  rw [Array.toList_setIfInBounds]
  refine count_set ?_
  rw [Array.getD_eq_getD_getElem?] at h
  rw [Array.getElem?_toList]
  cases hq : L[i]? with
  | none => rw [hq] at h; simp at h
  | some b => rw [hq] at h; simp at h; rw [h]
theorem ready_of_none {ops : Array Oper} {L : Array Bool} (h : L.toList.count false = 0) : Region.ready .any ops L = [] := by
  refine List.eq_nil_iff_forall_not_mem.2 fun i hi => ?_
  have h2 := left_lt (mem_ready hi).2.1
  omega
/-- A drawn region by an invariant: I holds at the start; where all operations are listed it gives what follows; each operation that may come up keeps it. -/
theorem wp_region_inv2 {P : Program} {id : Nat} {ops : Array Oper} {Q : Exit → Act → World → Prop} (I : Act → Array Bool → Act → World → Prop) (a : Act) (w : World) (hm : P.follows .mixedOrders = true) (ht : topo ops = true)
    (hi : I a (Array.replicate ops.size false) a w.drew)
    (hend : ∀ L a' w, I a L a' w → (∀ i, i < ops.size → L.getD i true = true) → Q .normal a' w)
    (hstep : ∀ L a' w i, I a L a' w → i < ops.size → L.getD i true = false → Behind ops L i → ∀ K : Act → World → Prop, (∀ a' w, I a (L.setIfInBounds i true) a' w → K a' w) → wpOp P ops Q i K a' w) :
    (Code.region id ops true).wp P Q a w :=
  wp_region_inv (I a) (fun L => L.toList.count false) a w hm hi (by rw [Array.toList_replicate, List.count_replicate_self]; exact Nat.le_refl _)
    (fun L a' w h hr => hend L a' w h (all_of_ready ht hr)) (fun L a' w h h0 => ready_of_none h0) (fun L a' w i h hr => left_lt (mem_ready hr).2.1)
    (fun L a' w i h hr K hK => by obtain ⟨h1, h2, h3⟩ := mem_ready hr; exact hstep L a' w i h h1 h2 h3 K hK)
end Go.Proofs.YthiclhbnggehoaaGreatDoor
