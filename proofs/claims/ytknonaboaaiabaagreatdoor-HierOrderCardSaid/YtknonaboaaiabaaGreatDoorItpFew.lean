/- The reference's Few of an interpretation. -/
import Derived.Test.YtknonaboaaiabaaGreatDoorItp
import Derived.Deep.Cut
namespace Go.Proofs.YtknonaboaaiabaaGreatDoor
open Go.RowKit
set_option linter.unusedVariables false
set_option linter.unusedSimpArgs false
def lenSum {α : Type} (l : List (List α)) : Nat := (l.map List.length).sum
theorem lenSum_take {α : Type} {l : List (List α)} {k : Nat} (h : k < l.length) : lenSum (l.take (k + 1)) = lenSum (l.take k) + l[k].length := by
  unfold lenSum; rw [List.take_succ_eq_append_getElem h, List.map_append, List.sum_append]; simp
theorem lenSum_le {α : Type} (l : List (List α)) (k : Nat) : lenSum (l.take k) ≤ lenSum l := by
  induction l generalizing k with
  | nil => simp [lenSum]
  | cons a r ih =>
    cases k with
    | zero => simp [lenSum]
    | succ k => have := ih k; simp only [lenSum, List.take_succ_cons, List.map_cons, List.sum_cons] at this ⊢; omega
theorem lenSum_bound {α : Type} {N : Nat} : ∀ {l : List (List α)}, (∀ x ∈ l, x.length ≤ N) → lenSum l ≤ l.length * N
  | [], _ => by simp [lenSum]
  | a :: r, h => by
    have h1 := lenSum_bound (l := r) (fun x hx => h x (by simp [hx]))
    have h2 := h a (by simp)
    simp only [lenSum, List.map_cons, List.sum_cons, List.length_cons, Nat.add_mul, Nat.one_mul] at h1 ⊢
    omega
def itpFewB (i : Itp) : Bool := !(decide (40 < i.size) && decide (i.size ≤ 256)) && (decide (i.cons.length ≤ 100) && (decide (i.roles.length ≤ 100) && (decide (i.inds.length ≤ 100) && decide (lenSum i.cons + lenSum i.roles ≤ 1000))))
set_option maxRecDepth 100000 in
set_option maxHeartbeats 4000000 in
theorem itpFew_calls (i : Itp) (p : ItpA) (ok : Nat → Prop) (w : World) (hi : ItpR ok w i p) (hs : (∀ l ∈ i.cons, l.length ≤ 140737488355328) ∧ (∀ l ∈ i.roles, l.length ≤ 140737488355328)) :
    Calls Tryz.prog 21 #[.agg #[.int .i64 i.size, .slice p.a0 i.cons.length p.c0, .slice p.a1 i.roles.length p.c1, .slice p.a2 i.inds.length p.c2], .int .i64 40, .int .i64 1000] w fun e w' => e = .returned (.bool (itpFewB i)) ∧ Keeps (fun _ => False) w w' := by
  obtain ⟨size, cons, roles, inds⟩ := i
  obtain ⟨a0, a1, a2, c0, c1, c2⟩ := p
  dsimp only at hs ⊢
  have HSB := Lib.hid hs
  clear hs
  have HC := Lib.hid hi.cons
  have HR := Lib.hid hi.roles
  dsimp only at HC HR
  have HV : Hid (itpFewB ⟨size, cons, roles, inds⟩ = (!(decide (40 < size) && decide (size ≤ 256)) && (decide (cons.length ≤ 100) && (decide (roles.length ≤ 100) && (decide (inds.length ≤ 100) && decide (lenSum cons + lenSum roles ≤ 1000)))))) := by unfold Hid; rfl
  generalize itpFewB ⟨size, cons, roles, inds⟩ = rv at *
  clear hi
  obtain ⟨bad, hbad⟩ : ∃ bad : Bool, bad = ((decide (40 < size) && decide (size ≤ 256)) || (decide (100 < (cons.length : Int)) || (decide (100 < (roles.length : Int)) || decide (100 < (inds.length : Int))))) := ⟨_, rfl⟩
  have HBAD := Lib.hid hbad
  have HV2 : Hid (rv = if bad then false else decide (lenSum cons + lenSum roles ≤ 1000)) := by
    unfold Hid; rw [HV.out, hbad]
    have e : ∀ n : Nat, decide (n ≤ 100) = !decide (100 < (n : Int)) := fun n => by
      by_cases h : n ≤ 100
      · rw [decide_eq_true h, decide_eq_false (by omega)]; rfl
      · rw [decide_eq_false h, decide_eq_true (by omega)]; rfl
    rw [e, e, e]
    cases decide (40 < size) <;> cases decide (size ≤ 256) <;> cases decide (100 < (cons.length : Int)) <;> cases decide (100 < (roles.length : Int)) <;> cases decide (100 < (inds.length : Int)) <;> rfl
  clear hbad HV
  go_enter Tryz.func21, Tryz.ntmps21
  go_upto_region 1 with fail
  generalize hW0 : World.alloc _ _ = W0
  have hK0 : Keeps (fun _ => False) w W0 := by rw [← hW0]; repeat (first | exact Keeps.refl _ _ | refine Keeps.drewN ?_ _ | refine Keeps.drew ?_ | refine Keeps.alloc ?_ _ | refine Keeps.set ?_ (Or.inl (by rfl)) _)
  have hb0 : W0.heap[w.heap.size]? = some (.cells #[.int .i64 size, .slice a0 cons.length c0, .slice a1 roles.length c1, .slice a2 inds.length c2] 37 (0, 0)) := by rw [← hW0]; exact blkNew rfl
  clear hW0
  have HB0 := Lib.hid hb0
  have HK0 := Lib.hid hK0
  obtain ⟨x0, x1, x2, x3⟩ := cells4 hb0
  have hl0 := blkLt hb0
  clear hb0 hK0
  go_cut [38] from 12 (fun v wc => v = .bool bad ∧ wc = W0)
  case first =>
    by_cases h1 : 40 < size <;> by_cases h2 : size ≤ 256 <;> by_cases h3 : 100 < (cons.length : Int) <;> by_cases h4 : 100 < (roles.length : Int) <;> by_cases h5 : 100 < (inds.length : Int)
    all_goals (try (exfalso; omega))
    all_goals
      have HE : Hid (bad = _) := HBAD
      unfold Hid at HE
      simp only [h1, h2, h3, h4, h5, decide_true, decide_false, Bool.or_true, Bool.or_false, Bool.and_true, Bool.and_false, Bool.true_or, Bool.false_or] at HE
      subst HE
      clear HBAD HV2
      go_wp2_with fail
      go_meet
      exact ⟨rfl, rfl⟩
  case rest =>
    obtain ⟨rfl, rfl⟩ := hcut
    cases bad
    · have HO : Hid (rv = decide (lenSum cons + lenSum roles ≤ 1000)) := by unfold Hid; rw [HV2.out]; rfl
      have hcl : cons.length ≤ 100 ∧ roles.length ≤ 100 := by
        have h := HBAD.out
        simp only [Bool.false_eq, Bool.or_eq_false_iff, decide_eq_false_iff_not] at h
        omega
      obtain ⟨hcl1, hcl2⟩ := hcl
      have hs : lenSum cons + lenSum roles ≤ 4611686018427387904 := by
        have h1 := lenSum_bound HSB.out.1
        have h2 := lenSum_bound HSB.out.2
        have h3 := Nat.mul_le_mul_right 140737488355328 hcl1
        have h4 := Nat.mul_le_mul_right 140737488355328 hcl2
        omega
      clear HV2 HBAD
      obtain ⟨x0, x1, x2, x3⟩ := cells4 HB0.out
      have hl0 := blkLt HB0.out
      go_wp2_with fail
      clear x0 x1 x2 x3 hl0
      go_loopw [7, 42] (fun v i wr => ∃ k : Nat, k ≤ cons.length ∧ i = .int .i64 k ∧ v = .int .i64 (lenSum (cons.take k) : Nat) ∧ Hid (Keeps (fun _ => False) wc wr)) (fun _ i _ => cons.length - (intOf i).toNat)
      case atStart => exact ⟨0, Nat.zero_le _, rfl, rfl, Keeps.refl _ _⟩
      case round =>
        obtain ⟨k, hk, rfl, rfl, HK⟩ := hrel
        by_cases hlt : k < cons.length
        · obtain ⟨b, o, rfl, _, hc⟩ := HC.out (by intro h; subst h; simp at hlt)
          obtain ⟨B, c, e0, hbc, hcm, _⟩ := hc k hlt
          have e0 := (HK0.out.then_ HK.out).cell e0 (fun h => h)
          have HT := Lib.hid (lenSum_take hlt)
          have hle := lenSum_le cons (k + 1)
          rw [HT.out] at hle
          have i1 : (k : Int) < cons.length := by omega
          generalize cons[k] = x at *
          clear hc
          go_wp2_with fail
          go_roundw
          case rel => exact ⟨k + 1, by omega, by go_num, by rw [HT.out]; go_num, HK⟩
          case measure => simp [intOf]; omega
        · obtain rfl : cons.length = k := by omega
          rw [List.take_length]
          have HK1 := Lib.hid (HK0.out.then_ HK.out)
          obtain ⟨w1, hw1⟩ : ∃ x, x = wr := ⟨_, rfl⟩
          subst hw1
          obtain ⟨x0, x1, x2, x3⟩ := cells4 (HK.out.blk HB0.out (fun h => h))
          have hl0 := blkLt (HK.out.blk HB0.out (fun h => h))
          clear HK
          go_wp2_with fail
          clear x0 x1 x2 x3 hl0
          go_loopw [7, 54] (fun v i wr => ∃ k : Nat, k ≤ roles.length ∧ i = .int .i64 k ∧ v = .int .i64 (lenSum cons + lenSum (roles.take k) : Nat) ∧ Hid (Keeps (fun _ => False) w1 wr)) (fun _ i _ => roles.length - (intOf i).toNat)
          case atStart => exact ⟨0, Nat.zero_le _, rfl, by simp [lenSum], Keeps.refl _ _⟩
          case round =>
            obtain ⟨k, hk, rfl, rfl, HK⟩ := hrel
            by_cases hlt : k < roles.length
            · obtain ⟨b, o, rfl, _, hc⟩ := HR.out (by intro h; subst h; simp at hlt)
              obtain ⟨B, c, e0, hbc, hcm, _⟩ := hc k hlt
              have e0 := (HK1.out.then_ HK.out).cell e0 (fun h => h)
              have HT := Lib.hid (lenSum_take hlt)
              have hle := lenSum_le roles (k + 1)
              rw [HT.out] at hle
              have i1 : (k : Int) < roles.length := by omega
              generalize roles[k] = x at *
              clear hc
              go_wp2_with fail
              go_roundw
              case rel => exact ⟨k + 1, by omega, by go_num, by rw [HT.out]; go_num, HK⟩
              case measure => simp [intOf]; omega
            · obtain rfl : roles.length = k := by omega
              rw [List.take_length]
              go_wp2_with fail
              go_ret
              refine ⟨?_, HK1.out.then_ HK.out⟩
              have e1 : decide (lenSum cons + lenSum roles ≤ 1000) = decide (((lenSum cons + lenSum roles : Nat) : Int) ≤ 1000) := decide_eq_decide.2 (by omega)
              have e2 : decide (lenSum cons + lenSum roles ≤ 1000) = decide ((lenSum cons : Int) + (lenSum roles : Int) ≤ 1000) := decide_eq_decide.2 (by omega)
              rw [HO.out]
              first
                | (rw [e1]; rfl)
                | (rw [e2]; rfl)
    · have HO : Hid (rv = false) := by unfold Hid; rw [HV2.out]; rfl
      go_wp2_with fail
      go_ret
      exact ⟨by rw [HO.out]; rfl, HK0.out⟩
end Go.Proofs.YtknonaboaaiabaaGreatDoor
