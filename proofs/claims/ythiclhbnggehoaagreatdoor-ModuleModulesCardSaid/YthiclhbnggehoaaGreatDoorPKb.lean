/- Plain: knowledge bases made of some axioms of a valid one. -/
import Derived.Test.YthiclhbnggehoaaGreatDoorPMod
import Derived.Test.YthiclhbnggehoaaGreatDoorR2
namespace Go.Proofs.YthiclhbnggehoaaGreatDoor
set_option linter.unusedVariables false
set_option linter.unusedSimpArgs false
def Ax.incl? : Ax → Option (Con × Con) | .incl c d => some (c, d) | _ => none
def Ax.role? : Ax → Option (Int × Int) | .role r s => some (r, s) | _ => none
def Ax.fact? : Ax → Option (Int × Con) | .fact i c => some (i, c) | _ => none
def Ax.link? : Ax → Option (Int × Int × Int) | .link r f t => some (r, f, t) | _ => none
/-- The knowledge base with the names of b and the axioms xs. -/
def kbOf (b : Kb) (xs : List Ax) : Kb := { cs := b.cs, rs := b.rs, is := b.is, incls := xs.filterMap Ax.incl?, roles := xs.filterMap Ax.role?, facts := xs.filterMap Ax.fact?, links := xs.filterMap Ax.link? }
theorem fm_none {α γ : Type} (l : List α) : l.filterMap (fun _ => (none : Option γ)) = [] := by
  induction l with
  | nil => rfl
  | cons a r ih => simp
theorem fm_some {α : Type} (l : List α) : l.filterMap (fun x => some x) = l := by
  induction l with
  | nil => rfl
  | cons a r ih => simp
theorem parts_incl (l1 : List (Con × Con)) (l2 : List (Int × Int)) (l3 : List (Int × Con)) (l4 : List (Int × Int × Int)) : (l1.map (fun x => Ax.incl x.1 x.2) ++ l2.map (fun x => Ax.role x.1 x.2) ++ l3.map (fun x => Ax.fact x.1 x.2) ++ l4.map (fun x => Ax.link x.1 x.2.1 x.2.2)).filterMap Ax.incl? = l1 := by
  simp only [List.filterMap_append, List.filterMap_map, Function.comp_def, Ax.incl?, fm_none, List.append_nil]; exact fm_some _
theorem parts_role (l1 : List (Con × Con)) (l2 : List (Int × Int)) (l3 : List (Int × Con)) (l4 : List (Int × Int × Int)) : (l1.map (fun x => Ax.incl x.1 x.2) ++ l2.map (fun x => Ax.role x.1 x.2) ++ l3.map (fun x => Ax.fact x.1 x.2) ++ l4.map (fun x => Ax.link x.1 x.2.1 x.2.2)).filterMap Ax.role? = l2 := by
  simp only [List.filterMap_append, List.filterMap_map, Function.comp_def, Ax.role?, fm_none, List.append_nil, List.nil_append]; exact fm_some _
theorem parts_fact (l1 : List (Con × Con)) (l2 : List (Int × Int)) (l3 : List (Int × Con)) (l4 : List (Int × Int × Int)) : (l1.map (fun x => Ax.incl x.1 x.2) ++ l2.map (fun x => Ax.role x.1 x.2) ++ l3.map (fun x => Ax.fact x.1 x.2) ++ l4.map (fun x => Ax.link x.1 x.2.1 x.2.2)).filterMap Ax.fact? = l3 := by
  simp only [List.filterMap_append, List.filterMap_map, Function.comp_def, Ax.fact?, fm_none, List.append_nil, List.nil_append]; exact fm_some _
theorem parts_link (l1 : List (Con × Con)) (l2 : List (Int × Int)) (l3 : List (Int × Con)) (l4 : List (Int × Int × Int)) : (l1.map (fun x => Ax.incl x.1 x.2) ++ l2.map (fun x => Ax.role x.1 x.2) ++ l3.map (fun x => Ax.fact x.1 x.2) ++ l4.map (fun x => Ax.link x.1 x.2.1 x.2.2)).filterMap Ax.link? = l4 := by
  simp only [List.filterMap_append, List.filterMap_map, Function.comp_def, Ax.link?, fm_none, List.append_nil, List.nil_append]; exact fm_some _
theorem axs_incls (b : Kb) : (axs b).filterMap Ax.incl? = b.incls := parts_incl _ _ _ _
theorem axs_roles (b : Kb) : (axs b).filterMap Ax.role? = b.roles := parts_role _ _ _ _
theorem axs_facts (b : Kb) : (axs b).filterMap Ax.fact? = b.facts := parts_fact _ _ _ _
theorem axs_links (b : Kb) : (axs b).filterMap Ax.link? = b.links := parts_link _ _ _ _
theorem axs_len (b : Kb) : (axs b).length = kbCount b := by unfold axs kbCount; simp; omega
theorem kbOf_count (b : Kb) (xs : List Ax) : kbCount (kbOf b xs) = xs.length := by
  unfold kbCount kbOf
  simp only
  induction xs with
  | nil => rfl
  | cons x r ih => cases x <;> simp only [List.filterMap_cons, Ax.incl?, Ax.role?, Ax.fact?, Ax.link?, List.length_cons] <;> omega
theorem sizes_sub {l m : List Con} (h : l.Sublist m) : Con.sizes l ≤ Con.sizes m := by
  induction h with
  | slnil => exact Nat.le_refl _
  | cons c _ ih => simp only [Con.sizes]; omega
  | cons_cons c _ ih => simp only [Con.sizes]; omega
theorem pairL_sub {l m : List (Con × Con)} (h : l.Sublist m) : (pairL l).Sublist (pairL m) := by
  unfold pairL
  induction h with
  | slnil => exact List.Sublist.refl _
  | cons a _ ih => rw [List.flatMap_cons]; exact ih.trans (List.sublist_append_right _ _)
  | cons_cons a _ ih => rw [List.flatMap_cons, List.flatMap_cons]; exact (List.Sublist.refl _).append ih
theorem concepts_sub {b : Kb} {xs : List Ax} (h : xs.Sublist (axs b)) : (conceptsC (kbOf b xs)).Sublist (conceptsC b) := by
  unfold conceptsC kbOf
  have h1 := h.filterMap Ax.incl?
  have h2 := h.filterMap Ax.fact?
  rw [axs_incls] at h1
  rw [axs_facts] at h2
  exact (pairL_sub h1).append (h2.map _)
/-- Some axioms of a valid knowledge base are one. -/
theorem kbOf_valid {b : Kb} {xs : List Ax} (h : xs.Sublist (axs b)) (hv : isKbR b = true) : isKbR (kbOf b xs) = true := by
  have hc := concepts_sub h
  have h2 := h.filterMap Ax.role?
  have h3 := h.filterMap Ax.fact?
  have h4 := h.filterMap Ax.link?
  rw [axs_roles] at h2
  rw [axs_facts] at h3
  rw [axs_links] at h4
  have hlen := h.length_le
  rw [axs_len] at hlen
  have hs := sizes_sub hc
  unfold isKbR at hv ⊢
  rw [kbOf_count]
  simp only [Bool.and_eq_true, decide_eq_true_eq, isAll, factsI, rolesV, linksV, List.all_eq_true] at hv ⊢
  obtain ⟨v1, v2, v3, v4, v5, v6, v7⟩ := hv
  refine ⟨v1, by omega, fun c hm => v3 c (hc.subset hm), fun c hm => v4 c (h2.subset hm), fun c hm => v5 c (h3.subset hm), fun c hm => v6 c (h4.subset hm), by omega⟩
/-- An increasing list of numbers below n. -/
theorem sub_range {l : List Nat} {n : Nat} (hl : l.Pairwise (· < ·)) (hn : ∀ k ∈ l, k < n) : l.Sublist (List.range n) := by
  have e : l = (List.range n).filter (fun k => decide (k ∈ l)) := by
    refine List.Perm.eq_of_pairwise (le := (· < ·)) (fun a b _ _ h1 h2 => by omega) hl (List.Pairwise.filter _ List.pairwise_lt_range) ?_
    refine (List.perm_ext_iff_of_nodup (hl.imp (by intro a b h; omega)) (List.nodup_range.filter _)).2 (fun x => ?_)
    rw [List.mem_filter, List.mem_range]
    simp only [decide_eq_true_eq]
    exact ⟨fun h => ⟨hn x h, h⟩, fun h => h.2⟩
  rw [e]
  exact List.filter_sublist
/-- The axiom with a number. -/
def axAt (b : Kb) (k : Nat) : Ax := (axs b).getD k (.role 0 0)
theorem axAt_range (b : Kb) : (List.range (kbCount b)).map (axAt b) = axs b := by
  refine List.ext_getElem (by simp [axs_len]) (fun i h1 h2 => ?_)
  simp only [List.getElem_map, List.getElem_range, axAt]
  simp [List.getD, h2]
theorem picked_sub {b : Kb} {l : List Nat} (hl : l.Pairwise (· < ·)) (hn : ∀ k ∈ l, k < kbCount b) : (l.map (axAt b)).Sublist (axs b) := by
  rw [← axAt_range]; exact (sub_range hl hn).map _
theorem sub_map {α β : Type} {f : α → β} : ∀ {l : List α} {m : List β}, m.Sublist (l.map f) → ∃ l' : List α, m = l'.map f := by
  intro l
  induction l with
  | nil => intro m h; rw [List.map_nil, List.sublist_nil] at h; exact ⟨[], h⟩
  | cons a r ih =>
    intro m h
    rw [List.map_cons] at h
    cases h with
    | cons _ h => exact ih h
    | cons_cons _ h => obtain ⟨l', e⟩ := ih h; exact ⟨a :: l', by rw [e]; rfl⟩
theorem axs_kbOf {b : Kb} {xs : List Ax} (h : xs.Sublist (axs b)) : axs (kbOf b xs) = xs := by
  unfold axs at h
  obtain ⟨y3, x4, rfl, g3, h4⟩ := List.sublist_append_iff.1 h
  obtain ⟨y2, x3, rfl, g2, h3⟩ := List.sublist_append_iff.1 g3
  obtain ⟨x1, x2, rfl, h1, h2⟩ := List.sublist_append_iff.1 g2
  obtain ⟨l1, rfl⟩ := sub_map h1
  obtain ⟨l2, rfl⟩ := sub_map h2
  obtain ⟨l3, rfl⟩ := sub_map h3
  obtain ⟨l4, rfl⟩ := sub_map h4
  unfold axs kbOf
  rw [parts_incl, parts_role, parts_fact, parts_link]
theorem axAt_kbOf {b : Kb} {l : List Nat} (hl : l.Pairwise (· < ·)) (hn : ∀ k ∈ l, k < kbCount b) (i : Nat) (h : i < l.length) : axAt (kbOf b (l.map (axAt b))) i = axAt b l[i] := by
  show (axs (kbOf b (l.map (axAt b)))).getD i (.role 0 0) = axAt b l[i]
  rw [axs_kbOf (picked_sub hl hn)]
  simp [List.getD, h]
theorem mem_inL {l : List Int} {n : Int} : inL l n = true ↔ n ∈ l := by unfold inL; exact decide_eq_true_iff
/-- A module that leaves nothing out, its axioms numbered anew. -/
theorem modL_renum {A A' : Nat → Ax} {top : Bool} {C R : List Int} {l : List Nat} (hnd : l.Nodup) (hA : ∀ i (h : i < l.length), A' i = A l[i]) (hall : modL A top C R l = l) : modL A' top C R (List.range l.length) = List.range l.length := by
  unfold modL
  refine List.filter_eq_self.2 (fun i hi => ?_)
  have him := List.mem_range.1 hi
  simp only [decide_eq_true_eq]
  refine ⟨hi, fun X' hX' => ?_⟩
  have hin : InMod A top C R l l[i] := mem_modL.1 (by rw [hall]; exact List.getElem_mem him)
  have hcl : ClosedM A top C R l ((X'.filter fun j => decide (j < l.length)).map fun j => l.getD j 0) := fun k hk hl => by
    obtain ⟨j, hj, rfl⟩ := List.mem_iff_getElem.1 hk
    refine List.mem_map.2 ⟨j, List.mem_filter.2 ⟨hX' j (List.mem_range.2 hj) ?_, by simpa using hj⟩, by simp [List.getD, hj]⟩
    cases e : localAt A' top C R X' j with
    | false => rfl
    | true =>
      have : localAt A top C R ((X'.filter fun j => decide (j < l.length)).map fun j => l.getD j 0) l[j] = true := by
        unfold localAt at e ⊢
        rw [hA j hj] at e
        refine localX_mono (fun n hn => ?_) (fun n hn => ?_) _ e
        · have hn2 := mem_inL.1 hn
          refine mem_inL.2 ?_
          unfold sigN at hn2 ⊢
          rcases List.mem_append.1 hn2 with hn3 | hn3
          · exact List.mem_append.2 (.inl hn3)
          · obtain ⟨z, hz, hn4⟩ := List.mem_flatMap.1 hn3
            obtain ⟨q, hq0, rfl⟩ := List.mem_map.1 hz
            obtain ⟨hq, hq1⟩ := List.mem_filter.1 hq0
            have hq2 : q < l.length := of_decide_eq_true hq1
            refine List.mem_append.2 (.inr (List.mem_flatMap.2 ⟨q, hq, ?_⟩))
            rw [hA q hq2]
            have e3 : l.getD q 0 = l[q] := by simp [List.getD, hq2]
            rw [e3] at hn4
            exact hn4
        · have hn2 := mem_inL.1 hn
          refine mem_inL.2 ?_
          unfold sigR at hn2 ⊢
          rcases List.mem_append.1 hn2 with hn3 | hn3
          · exact List.mem_append.2 (.inl hn3)
          · obtain ⟨z, hz, hn4⟩ := List.mem_flatMap.1 hn3
            obtain ⟨q, hq0, rfl⟩ := List.mem_map.1 hz
            obtain ⟨hq, hq1⟩ := List.mem_filter.1 hq0
            have hq2 : q < l.length := of_decide_eq_true hq1
            refine List.mem_append.2 (.inr (List.mem_flatMap.2 ⟨q, hq, ?_⟩))
            rw [hA q hq2]
            have e3 : l.getD q 0 = l[q] := by simp [List.getD, hq2]
            rw [e3] at hn4
            exact hn4
      rw [hl] at this; simp at this
  obtain ⟨j, hj, e⟩ := List.mem_map.1 (hin.2 _ hcl)
  obtain ⟨hj1, hj2⟩ := List.mem_filter.1 hj
  simp only [decide_eq_true_eq] at hj2
  have e2 : l[j] = l[i] := by simpa [List.getD, hj2] using e
  have : j = i := (List.getElem_inj hnd).1 e2
  subst this
  exact hj1
end Go.Proofs.YthiclhbnggehoaaGreatDoor
