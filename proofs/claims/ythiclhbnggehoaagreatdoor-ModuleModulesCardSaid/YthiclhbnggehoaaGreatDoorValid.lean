/- What concept.valid computes. -/
import Derived.Test.YthiclhbnggehoaaGreatDoorProg
import Derived.Test.YthiclhbnggehoaaGreatDoorMem
import Derived.Lib.Hide
namespace Go.Proofs.YthiclhbnggehoaaGreatDoor
open Go.RowKit
def arityZ (op : Int) : Int := if op = 3 ∨ op = 6 ∨ op = 7 then 1 else if op = 4 ∨ op = 5 then 2 else 0
/-- The fields of one node. -/
def nodeOk (nc nr : Nat) (op n : Int) : Bool :=
  if op = 0 then decide (0 ≤ n ∧ n < nc) else if op = 6 ∨ op = 7 then decide (0 ≤ n ∧ n < 2 * nr) else decide (n = 0)
mutual
def validC (nc nr : Nat) : Con → Int → Int → Bool × Int
  | ⟨op, n, args⟩, left, deep =>
    if left - 1 < 0 ∨ 20 < deep ∨ op < 0 ∨ 7 < op ∨ (args.length : Int) ≠ arityZ op then (false, left - 1)
    else if nodeOk nc nr op n then validL nc nr args (left - 1) (deep + 1) else (false, left - 1)
def validL (nc nr : Nat) : List Con → Int → Int → Bool × Int
  | [], left, _ => (true, left)
  | c :: r, left, deep => if (validC nc nr c left deep).1 then validL nc nr r (validC nc nr c left deep).2 deep else validC nc nr c left deep
end
/-- The table of the arities, in memory. -/
def ArgsTab (w : World) : Prop := ∃ t fz, w.heap[0]? = some (.cells #[.int .i64 0, .int .i64 0, .int .i64 0, .int .i64 1, .int .i64 2, .int .i64 2, .int .i64 1, .int .i64 1] t fz)
theorem ArgsTab.keep {S : Nat → Prop} {w w' : World} (h : ArgsTab w) (hk : Keeps S w w') (hs : ¬ S 0) : ArgsTab w' := by
  obtain ⟨t, fz, h⟩ := h; exact ⟨t, fz, hk.blk h hs⟩
theorem validL_drop (nc nr : Nat) (l : List Con) (k : Nat) (h : k < l.length) (x y : Int) : validL nc nr (l.drop k) x y = if (validC nc nr l[k] x y).1 then validL nc nr (l.drop (k + 1)) (validC nc nr l[k] x y).2 y else validC nc nr l[k] x y := by
  rw [List.drop_eq_getElem_cons h]; simp only [validL]
mutual
theorem validC_le (nc nr : Nat) : ∀ (c : Con) (x y : Int), (validC nc nr c x y).2 ≤ x ∧ ((validC nc nr c x y).1 = true → 0 ≤ (validC nc nr c x y).2)
  | ⟨op, n, l⟩, x, y => by
    simp only [validC]
    split
    · exact ⟨by simp; omega, by simp⟩
    · split
      · have := validL_le nc nr l (x - 1) (y + 1)
        exact ⟨by omega, fun h => this.2 (by omega) h⟩
      · exact ⟨by simp; omega, by simp⟩
theorem validL_le (nc nr : Nat) : ∀ (l : List Con) (x y : Int), (validL nc nr l x y).2 ≤ x ∧ (0 ≤ x → (validL nc nr l x y).1 = true → 0 ≤ (validL nc nr l x y).2)
  | [], x, y => by simp [validL]
  | c :: r, x, y => by
    simp only [validL]
    have h1 := validC_le nc nr c x y
    split
    · rename_i hc
      have h2 := validL_le nc nr r (validC nc nr c x y).2 y
      exact ⟨by omega, fun _ h => h2.2 (h1.2 hc) h⟩
    · exact ⟨h1.1, fun _ h => h1.2 h⟩
end
set_option maxRecDepth 100000 in
set_option maxHeartbeats 4000000 in
theorem valid_calls (nc nr : Nat) (N : Nat) : ∀ (c : Con) (cs : List Value) (left deep : Int) (g : Nat) (ok : Nat → Prop) (A0 A1 : Option Addr) (c0 c1 : Nat) (v2 : Value) (w : World), c.size < N →
    0 ≤ left → left ≤ 400 → 0 ≤ deep → deep ≤ 21 → ConR ok w c cs → (∀ k, ok k → k ≠ g) → w.heap[g]? = some (.cells #[.int .i64 left] 3 (0, 0)) → ArgsTab w → nc ≤ 100000 → nr ≤ 100000 → 
    Calls Tryz.prog 102 #[.agg #[.slice A0 nc c0, .slice A1 nr c1, v2], .agg cs.toArray, .pointer (some ⟨g, 0, none⟩), .int .i64 deep] w fun e w' =>
      e = .returned (.bool (validC nc nr c left deep).1) ∧ w'.heap[g]? = some (.cells #[.int .i64 (validC nc nr c left deep).2] 3 (0, 0)) ∧ Keeps (· = g) w w' := by
  induction N with
  | zero => intro c _ _ _ _ _ _ _ _ _ _ _ h; exact absurd h (Nat.not_lt_zero _)
  | succ N ih =>
  intro c cs left deep g ok A0 A1 c0 c1 v2 w hN hl0 hl1 hd0 hd1 hc hg hw htab hnc hnr
  obtain ⟨op, n, args⟩ := c
  simp only [ConR] at hc
  obtain ⟨A, cap, rfl, hcap, hargs⟩ := hc
  have k1 : w.cell? ⟨g, 0, none⟩ = some (.int .i64 left) := by simp [blkCell hw]
  have k2 := blkFree hw 0
  have gl0 := blkLt hw
  have gl1 : g < w.heap.size + 1 := by omega
  have gl2 : g ≠ w.heap.size := by omega
  have gl3 : g ≠ w.heap.size + 1 := by omega
  have ho := @ih
  clear ih
  have IH := Lib.hid ho
  clear ho
  have hgt : 0 ≠ g := by
    rintro rfl
    obtain ⟨t, fz, ht⟩ := htab
    rw [ht] at hw
    simp at hw
  have HW := Lib.hid hw
  clear hw
  have htab' : ∀ i : Nat, (h : i < 8) → w.cell? ⟨0, i, none⟩ = some (.int .i64 (arityZ i)) := by
    obtain ⟨t, fz, ht⟩ := htab
    intro i h
    rw [blkCell ht]
    have : i = 0 ∨ i = 1 ∨ i = 2 ∨ i = 3 ∨ i = 4 ∨ i = 5 ∨ i = 6 ∨ i = 7 := by omega
    rcases this with rfl | rfl | rfl | rfl | rfl | rfl | rfl | rfl <;> rfl
  have htl : 0 < w.heap.size := by obtain ⟨t, fz, ht⟩ := htab; exact blkLt ht
  have htl1 : 0 < w.heap.size + 1 := by omega
  have HT := Lib.hid htab'
  clear htab'
  by_cases hbad : left - 1 < 0 ∨ 20 < deep ∨ op < 0 ∨ 7 < op ∨ (args.length : Int) ≠ arityZ op
  · have hv : validC nc nr ⟨op, n, args⟩ left deep = (false, left - 1) := by simp only [validC]; rw [if_pos hbad]
    have HV := Lib.hid hv
    clear hv
    have hcs : decide (left - 1 < 0) = true ∨ decide (left - 1 < 0) = false ∧ (decide (20 < deep) = true ∨ decide (20 < deep) = false ∧ (decide (op < 0) = true ∨ decide (op < 0) = false ∧ (decide (7 < op) = true ∨ decide (7 < op) = false ∧ 0 ≤ op ∧ op ≤ 7 ∧ (args.length : Int) ≠ arityZ op))) := by
      simp only [decide_eq_true_eq, decide_eq_false_iff_not]; omega
    clear hbad
    rcases hcs with d1 | ⟨d1, d2 | ⟨d2, d3 | ⟨d3, d4 | ⟨d4, p0, p1, d5⟩⟩⟩⟩
    case inr.inr.inr.inr =>
      have d6 := HT.out op.toNat (by omega)
      rw [Int.toNat_of_nonneg p0] at d6
      replace d6 : (w.setCell ⟨g, 0, none⟩ (.int .i64 (left - 1))).cell? ⟨0, op.toNat, none⟩ = some (.int .i64 (arityZ op)) := cellSetNe hgt.symm d6
      have d7 : op.toNat < 8 := by omega
      have p2 : op < 8 := by omega
      have d8 : ((args.length : Int) == arityZ op) = false := by simpa using d5
      have d9 : ((args.length : Int) != arityZ op) = true := by simpa using d5
      generalize arityZ op = z at *
      go_enter Tryz.func102, Tryz.ntmps102
      go_wp2_with fail
      go_quiet (fail)
      go_wp2_with fail
      go_ret
      refine ⟨by rw [HV.out]; rfl, ?_, ?_⟩
      · rw [HV.out]; exact blkDrewN (blkAlloc (blkAlloc (blkSet HW.out 0 _) _) _) _
      · repeat (first | exact Keeps.refl _ _ | refine Keeps.drewN ?_ _ | refine Keeps.drew ?_ | refine Keeps.alloc ?_ _ | refine Keeps.set ?_ (Or.inl (by rfl)) _)
    all_goals
      go_enter Tryz.func102, Tryz.ntmps102
      go_wp2_with fail
      go_quiet (fail)
      go_wp2_with fail
      go_ret
      refine ⟨by rw [HV.out]; rfl, ?_, ?_⟩
      · rw [HV.out]; exact blkDrewN (blkAlloc (blkAlloc (blkSet HW.out 0 _) _) _) _
      · repeat (first | exact Keeps.refl _ _ | refine Keeps.drewN ?_ _ | refine Keeps.drew ?_ | refine Keeps.alloc ?_ _ | refine Keeps.set ?_ (Or.inl (by rfl)) _)
  · have hgood : 0 ≤ left - 1 ∧ deep ≤ 20 ∧ 0 ≤ op ∧ op ≤ 7 ∧ (args.length : Int) = arityZ op := by omega
    have hv0 : ¬ (left - 1 < 0 ∨ 20 < deep ∨ op < 0 ∨ 7 < op ∨ (args.length : Int) ≠ arityZ op) := hbad
    clear hbad
    obtain ⟨g1, g2, p0, p1, g5⟩ := hgood
    have hal : args.length ≤ 2 := by
      have : arityZ op ≤ 2 := by unfold arityZ; split; omega; split <;> omega
      omega
    have d1 : decide (left - 1 < 0) = false := by simpa using g1
    have d2 : decide (20 < deep) = false := by simpa using g2
    have d3 : decide (op < 0) = false := by simpa using p0
    have d4 : decide (7 < op) = false := by simpa using p1
    have p2 : op < 8 := by omega
    have d6 := HT.out op.toNat (by omega)
    rw [Int.toNat_of_nonneg p0] at d6
    replace d6 : (w.setCell ⟨g, 0, none⟩ (.int .i64 (left - 1))).cell? ⟨0, op.toNat, none⟩ = some (.int .i64 (arityZ op)) := cellSetNe hgt.symm d6
    have d7 : op.toNat < 8 := by omega
    have d8 : ((args.length : Int) == arityZ op) = true := by simpa using g5
    have d9 : ((args.length : Int) != arityZ op) = false := by simpa using g5
    by_cases hn : nodeOk nc nr op n = true
    · have hv : validC nc nr ⟨op, n, args⟩ left deep = validL nc nr args (left - 1) (deep + 1) := by simp only [validC]; rw [if_neg hv0, if_pos hn]
      have HV := Lib.hid hv
      have hcs : ((op == 0) = true ∧ decide (n < 0) = false ∧ decide ((nc : Int) ≤ n) = false) ∨ ((op == 0) = false ∧ (op == 6) = true ∧ decide (n < 0) = false ∧ decide (2 * (nr : Int) ≤ n) = false) ∨ ((op == 0) = false ∧ (op == 6) = false ∧ (op == 7) = true ∧ decide (n < 0) = false ∧ decide (2 * (nr : Int) ≤ n) = false) ∨ ((op == 0) = false ∧ (op == 6) = false ∧ (op == 7) = false ∧ (n != 0) = false) := by
        unfold nodeOk at hn
        simp only [decide_eq_false_iff_not, beq_iff_eq, beq_eq_false_iff_ne, bne_eq_false_iff_eq]
        split at hn
        · simp only [decide_eq_true_eq] at hn; omega
        · split at hn <;> (simp only [decide_eq_true_eq] at hn; omega)
      clear hn hv0 hv g5
      have HG5 := Lib.hid d8
      clear d8
      generalize arityZ op = z at *
      rcases hcs with ⟨q0, q1, q2⟩ | ⟨q0, q1, q2, q3⟩ | ⟨q0, q1, q2, q3, q4⟩ | ⟨q0, q1, q2, q3⟩
      all_goals
        go_enter Tryz.func102, Tryz.ntmps102
        go_wp2_with fail
        go_quiet (fail)
        go_wp2_with fail
        generalize hW0 : World.drewN _ _ = W0
        have hK0 : Keeps (· = g) w W0 := by rw [← hW0]; repeat (first | exact Keeps.refl _ _ | refine Keeps.drewN ?_ _ | refine Keeps.drew ?_ | refine Keeps.alloc ?_ _ | refine Keeps.set ?_ (Or.inl (by rfl)) _)
        have hG0 : W0.heap[g]? = some (.cells #[.int .i64 (left - 1)] 3 (0, 0)) := by rw [← hW0]; exact blkDrewN (blkAlloc (blkAlloc (blkSet HW.out 0 _) _) _) _
        have hB0 : W0.heap[w.heap.size]? = some (.cells #[.slice A0 nc c0, .slice A1 nr c1, v2] 24 (0, 0)) := by rw [← hW0]; exact blkDrewN (blkAlloc (blkNew (by simp)) _) _
        clear hW0
        have HB0 := Lib.hid hB0
        have HG0 := Lib.hid hG0
        clear hB0 hG0
        go_loopw [80] (fun i wr => ∃ (k : Nat) (lf : Int), k ≤ args.length ∧ i = .int .i64 k ∧ 0 ≤ lf ∧ lf ≤ 400 ∧ Hid (validL nc nr args (left - 1) (deep + 1) = validL nc nr (args.drop k) lf (deep + 1)) ∧ Hid (wr.heap[g]? = some (.cells #[.int .i64 lf] 3 (0, 0))) ∧ Keeps (· = g) W0 wr) (fun i _ => args.length - (intOf i).toNat)
        case atStart => exact ⟨0, left - 1, Nat.zero_le _, rfl, g1, by omega, rfl, HG0, Keeps.refl _ _⟩
        case round =>
          obtain ⟨k, lf, hk, rfl, hl1, hl2, HL, HG, HK⟩ := hrel
          by_cases hlt : k < args.length
          · obtain ⟨b, o, rfl, hb, hr⟩ := hargs (by intro h; subst h; simp at hlt)
            have hr1 := ConsR.keep (hK0.then_ HK) hg hb hr
            obtain ⟨A', cap', e0, e1, e2, hc⟩ := hr1.at_ k hlt
            have hsn := Con.size_at k hlt
            simp only [Con.size] at hN
            have hbw := HK.blk HB0.out (by omega)
            have x0 : wr.cell? ⟨w.heap.size, 0, none⟩ = some (.slice A0 nc c0) := by simp [blkCell hbw]
            have x1 : wr.cell? ⟨w.heap.size, 1, none⟩ = some (.slice A1 nr c1) := by simp [blkCell hbw]
            have x2 : wr.cell? ⟨w.heap.size, 2, none⟩ = some v2 := by simp [blkCell hbw]
            have hsz := hK0.size
            have hs2 := HK.size
            have hsl := blkLt hbw
            clear hbw hr1 hr d6
            have hvd := Lib.hid (validL_drop nc nr args k hlt lf (deep + 1))
            have hle := validC_le nc nr args[k] lf (deep + 1)
            generalize args[k] = ck at *
            have HC := Lib.hid hc
            have hta := Lib.hid (htab.keep (hK0.then_ HK) hgt)
            clear hc htab hargs
            have hga : Hid (∀ o, (wr.alloc o).heap[g]? = some (.cells #[.int .i64 lf] 3 (0, 0))) := fun o => blkAlloc HG.out o
            by_cases hb1 : (validC nc nr ck lf (deep + 1)).1 = true
            all_goals
              generalize hq : validC nc nr ck lf (deep + 1) = q at *
              obtain ⟨q1, q2⟩ := q
              have HQ := Lib.hid hq
              clear hq
              simp only at hb1 hle hvd
              have hle1 := hle.1
              have hle2 := Lib.hid hle.2
              clear hle
              first | subst hb1 | (simp only [Bool.not_eq_true] at hb1; subst hb1)
              go_wp2_with (go_at_call 102; refine (IH.out ck [.int .i64 ck.op, .int .i64 ck.n, .slice A' ck.args.length cap'] lf (deep + 1) g ok A0 A1 c0 c1 v2 _ (by omega) hl1 hl2 (by omega) (by omega) (HC.out.keep (S := fun _ => False) (by repeat (first | exact Keeps.refl _ _ | refine Keeps.drewN ?_ _ | refine Keeps.drew ?_ | refine Keeps.alloc ?_ _ | refine Keeps.set ?_ (Or.inl (by rfl)) _)) (fun _ _ h => h)) hg (hga.out _) (hta.out.keep (S := fun _ => False) (by repeat (first | exact Keeps.refl _ _ | refine Keeps.drewN ?_ _ | refine Keeps.drew ?_ | refine Keeps.alloc ?_ _ | refine Keeps.set ?_ (Or.inl (by rfl)) _)) (fun h => h)) hnc hnr).mono ?_; rw [HQ.out]; rintro e w1 ⟨rfl, hg1, hk1⟩; have HG1 := Lib.hid hg1; clear hg1)
            · go_roundw
              case rel => exact ⟨k + 1, q2, by omega, by go_num, hle2.out (by first | rfl | trivial), by omega, by rw [HL.out, hvd.out]; rfl, HG1, (HK.alloc _).then_ hk1⟩
              case measure => simp [intOf]; omega
            · go_ret
              exact ⟨by rw [HV.out, HL.out, hvd.out]; rfl, by rw [HV.out, HL.out, hvd.out]; exact HG1.out, ((hK0.then_ HK).alloc _).then_ hk1⟩
          · obtain rfl : k = args.length := by omega
            go_wp2_with fail
            go_ret
            exact ⟨by rw [HV.out, HL.out, List.drop_length]; rfl, by rw [HV.out, HL.out, List.drop_length]; exact HG.out, hK0.then_ HK⟩
    · have hv : validC nc nr ⟨op, n, args⟩ left deep = (false, left - 1) := by simp only [validC]; rw [if_neg hv0, if_neg hn]
      have HV := Lib.hid hv
      have hcs : ((op == 0) = true ∧ (decide (n < 0) = true ∨ decide (n < 0) = false ∧ decide ((nc : Int) ≤ n) = true)) ∨ ((op == 0) = false ∧ (op == 6) = true ∧ (decide (n < 0) = true ∨ decide (n < 0) = false ∧ decide (2 * (nr : Int) ≤ n) = true)) ∨ ((op == 0) = false ∧ (op == 6) = false ∧ (op == 7) = true ∧ (decide (n < 0) = true ∨ decide (n < 0) = false ∧ decide (2 * (nr : Int) ≤ n) = true)) ∨ ((op == 0) = false ∧ (op == 6) = false ∧ (op == 7) = false ∧ (n != 0) = true) := by
        unfold nodeOk at hn
        simp only [decide_eq_false_iff_not, decide_eq_true_eq, beq_iff_eq, beq_eq_false_iff_ne, bne_iff_ne]
        split at hn
        · simp only [decide_eq_true_eq] at hn; omega
        · split at hn <;> (simp only [decide_eq_true_eq] at hn; omega)
      clear hn hv0 hv g5 d8 hargs
      generalize arityZ op = z at *
      rcases hcs with ⟨q0, q1 | ⟨q1, q2⟩⟩ | ⟨q0, q1, q2 | ⟨q2, q3⟩⟩ | ⟨q0, q1, q2, q3 | ⟨q3, q4⟩⟩ | ⟨q0, q1, q2, q3⟩
      all_goals
        go_enter Tryz.func102, Tryz.ntmps102
        go_wp2_with fail
        go_quiet (fail)
        go_wp2_with fail
        try (go_quiet (fail); go_wp2_with fail)
        go_ret
        refine ⟨by rw [HV.out]; rfl, ?_, ?_⟩
        · rw [HV.out]; repeat (first | exact blkDrewN (blkAlloc (blkAlloc (blkSet HW.out 0 _) _) _) _ | refine blkDrewN ?_ _)
        · repeat (first | exact Keeps.refl _ _ | refine Keeps.drewN ?_ _ | refine Keeps.drew ?_ | refine Keeps.alloc ?_ _ | refine Keeps.set ?_ (Or.inl (by rfl)) _)
end Go.Proofs.YthiclhbnggehoaaGreatDoor
