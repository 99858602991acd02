/- concept.Mark and concept.Sorted, in terms of sets of names. -/
import Derived.Test.YthiclhbnggehoaaGreatDoorJudge
import Derived.Test.YthiclhbnggehoaaGreatDoorMark
import Derived.Test.YthiclhbnggehoaaGreatDoorSorted
import Derived.Test.YthiclhbnggehoaaGreatDoorPKb
namespace Go.Proofs.YthiclhbnggehoaaGreatDoor
open Go.RowKit
set_option linter.unusedVariables false
set_option linter.unusedSimpArgs false
theorem setM_markN : ∀ (cs : List Con) (l : List (Int × Bool)) (C : List Int), SetM l C → SetM (markN l cs) (C ++ cs.flatMap fun d => if d.op = 0 then [d.n] else [])
  | [], l, C, h => by simpa [markN] using h
  | d :: r, l, C, h => by
    have e : markN l (d :: r) = markN (if d.op = 0 then putL l d.n true else l) r := rfl
    rw [e, List.flatMap_cons, ← List.append_assoc]
    refine setM_markN r _ _ ?_
    by_cases hd : d.op = 0
    · rw [if_pos hd, if_pos hd]; exact h.put d.n
    · rw [if_neg hd, if_neg hd, List.append_nil]; exact h
theorem setM_markR : ∀ (cs : List Con) (l : List (Int × Bool)) (R : List Int), (∀ d ∈ cs, d.op = 6 ∨ d.op = 7 → wrap64 (d.n.tdiv 2) = d.n / 2) → SetM l R → SetM (markR l cs) (R ++ cs.flatMap fun d => if d.op = 6 ∨ d.op = 7 then [d.n / 2] else [])
  | [], l, R, _, h => by simpa [markR] using h
  | d :: r, l, R, hw, h => by
    have e : markR l (d :: r) = markR (if d.op = 6 ∨ d.op = 7 then putL l (wrap64 (d.n.tdiv 2)) true else l) r := rfl
    rw [e, List.flatMap_cons, ← List.append_assoc]
    refine setM_markR r _ _ (fun x hx => hw x (List.mem_cons_of_mem _ hx)) ?_
    by_cases hd : d.op = 6 ∨ d.op = 7
    · rw [if_pos hd, if_pos hd, hw d (List.mem_cons_self ..) hd]; exact h.put _
    · rw [if_neg hd, if_neg hd, List.append_nil]; exact h
mutual
theorem occNames_pre : ∀ c : Con, ((preC c).flatMap fun d => if d.op = 0 then [d.n] else []) = occNames c
  | ⟨op, n, l⟩ => by simp only [preC, List.flatMap_cons, occNames]; rw [occNamesL_pre l]; rfl
theorem occNamesL_pre : ∀ l : List Con, ((preL l).flatMap fun d => if d.op = 0 then [d.n] else []) = occNamesL l
  | [] => rfl
  | c :: r => by simp only [preL, List.flatMap_append, occNamesL, occNames_pre c, occNamesL_pre r]
end
mutual
theorem occRoles_pre : ∀ c : Con, ((preC c).flatMap fun d => if d.op = 6 ∨ d.op = 7 then [d.n / 2] else []) = occRoles c
  | ⟨op, n, l⟩ => by simp only [preC, List.flatMap_cons, occRoles]; rw [occRolesL_pre l]; rfl
theorem occRolesL_pre : ∀ l : List Con, ((preL l).flatMap fun d => if d.op = 6 ∨ d.op = 7 then [d.n / 2] else []) = occRolesL l
  | [] => rfl
  | c :: r => by simp only [preL, List.flatMap_append, occRolesL, occRoles_pre c, occRolesL_pre r]
end
theorem half_z' {n : Int} (h0 : 0 ≤ n) (h1 : n ≤ 1000000000) : wrap64 (n.tdiv 2) = n / 2 := by
  have e : n.tdiv 2 = n / 2 := by rw [Int.tdiv_eq_ediv_of_nonneg h0]
  rw [e]; unfold wrap64; omega
theorem fit_half {nc nr : Nat} {d : Con} (h : fitC nc nr d = true) (hr : nr ≤ 100000) (hq : d.op = 6 ∨ d.op = 7) : wrap64 (d.n.tdiv 2) = d.n / 2 := by
  obtain ⟨op, n, l⟩ := d
  have hn := (fit_parts h).2.2.1
  simp only [Con.op, Con.n] at hq ⊢
  unfold nodeOk at hn
  rcases hq with rfl | rfl <;> simp at hn <;> exact half_z' (by omega) (by omega)
theorem markS_calls (nc nr : Nat) (hnr : nr ≤ 100000) (c : Con) (A : Option Addr) (cap : Nat) (ok : Nat → Prop) (b1 b2 : Nat) (C R : List Int) (w : World) (hc : ConR ok w c [.int .i64 c.op, .int .i64 c.n, .slice A c.args.length cap]) (hf : fitC nc nr c = true) (h1 : MapS w b1 C) (h2 : MapS w b2 R) (hne : b1 ≠ b2) (hok : ∀ k, ok k → k ≠ b1 ∧ k ≠ b2) :
    Calls Tryz.prog 93 #[.agg #[.int .i64 c.op, .int .i64 c.n, .slice A c.args.length cap], .map (some b1), .map (some b2)] w fun e w' =>
      (∃ v, e = .returned v) ∧ MapS w' b1 (C ++ occNames c) ∧ MapS w' b2 (R ++ occRoles c) ∧ Keeps (fun i => i = b1 ∨ i = b2) w w' := by
  obtain ⟨l1, a1, s1⟩ := h1
  obtain ⟨l2, a2, s2⟩ := h2
  refine (mark_calls nc nr c A cap ok b1 b2 l1 l2 w hc hf a1 a2 hne hok).mono ?_
  rintro e w' ⟨hv, m1, m2, hk⟩
  refine ⟨hv, ⟨_, m1, ?_⟩, ⟨_, m2, ?_⟩, hk⟩
  · rw [← occNames_pre]; exact setM_markN _ _ _ s1
  · rw [← occRoles_pre]; exact setM_markR _ _ _ (fun d hd hq => fit_half (pre_fit hf d hd).1 hnr hq) s2
theorem findL_isSome (L : List (Int × Bool)) (y : Int) : (findL L y).isSome = true ↔ y ∈ L.map (·.1) := by
  induction L with
  | nil => simp [findL]
  | cons p r ih =>
    by_cases h : p.1 = y
    · simp [findL, h]
    · have h' : ¬ y = p.1 := fun e => h e.symm
      have e : findL (p :: r) y = findL r y := by simp [findL, h]
      rw [e, ih]; simp [h']
theorem nodup_len : ∀ {l m : List Int}, l.Nodup → (∀ x ∈ l, x ∈ m) → l.length ≤ m.length
  | [], m, _, _ => Nat.zero_le _
  | a :: r, m, hn, hs => by
    have ha := hs a (List.mem_cons_self ..)
    have hn2 := List.nodup_cons.1 hn
    have := nodup_len (l := r) (m := m.erase a) hn2.2 (fun x hx => (List.mem_erase_of_ne (fun e => hn2.1 (by subst e; exact hx))).2 (hs x (List.mem_cons_of_mem _ hx)))
    have hl := List.length_erase_of_mem ha
    have hp := List.length_pos_of_mem ha
    simp only [List.length_cons]; omega
theorem sortedS_calls (b : Nat) (C : List Int) (w : World) (h : MapS w b C) (hl : C.length ≤ 1000000) :
    Calls Tryz.prog 94 #[.map (some b)] w fun e w' => ∃ v K, e = .returned v ∧ OwnInts w' w.heap.size v (sortZ K) ∧ K.Nodup ∧ (∀ y, y ∈ K ↔ y ∈ C) ∧ Keeps (fun _ => False) w w' := by
  obtain ⟨L, hm, hs⟩ := h
  have hnd : (L.map (·.1)).Nodup := by obtain ⟨es, c, _, _, _, _, h5⟩ := hm; exact h5
  have hmem : ∀ y, y ∈ L.map (·.1) ↔ y ∈ C := fun y => by
    rw [← findL_isSome, hs y]
    by_cases e : y ∈ C <;> simp [e]
  have hlen := nodup_len hnd (fun x hx => (hmem x).1 hx)
  rw [List.length_map] at hlen
  refine (sorted_calls b L w hm (by omega)).mono ?_
  rintro e w' ⟨v, rfl, ho, hk⟩
  exact ⟨v, _, rfl, ho, hnd, hmem, hk⟩
theorem MapS.made {w : World} {b : Nat} (h : w.heap[b]? = some (.map #[] 0)) : MapS w b [] := ⟨[], ⟨#[], 0, h, rfl, by simp, by simp, by simp⟩, SetM.nil⟩
theorem MapS.put {w : World} {b : Nat} {C : List Int} (h : MapS w b C) (x : Int) : ∃ w', (Instr.mapUpdate 98 (.map (some b)) (.int .i64 x) (.bool true)).run Tryz.prog w = .ok () w' ∧ MapS w' b (C ++ [x]) ∧ Keeps (fun i => i = b) w w' ∧ w'.heap.size = w.heap.size := by
  obtain ⟨L, hm, hs⟩ := h
  obtain ⟨w', h1, h2, h3, h4⟩ := hm.put (keyInt Tryz.underlying3) Tryz.underlying98 x true
  exact ⟨w', h1, ⟨_, h2, hs.put x⟩, h3, h4⟩
theorem mkMapS (w : World) : (Instr.makeMap 98 none).run Tryz.prog w = .ok (.map (some w.heap.size)) (w.alloc (.map #[] 0)) := by kernel_rfl
theorem flatMap_snoc {α β : Type} (l : List α) (x : α) (f : α → List β) : (l ++ [x]).flatMap f = l.flatMap f ++ f x := by simp
end Go.Proofs.YthiclhbnggehoaaGreatDoor
