/- The reference's Is of an interpretation. -/
import Derived.Test.YtknonaboaaiabaaGreatDoorItpDef
namespace Go.Proofs.YtknonaboaaiabaaGreatDoor
open Go.RowKit
set_option linter.unusedVariables false
set_option linter.unusedSimpArgs false
set_option maxRecDepth 100000 in
set_option maxHeartbeats 4000000 in
theorem itpIs_calls (cs rs is : List ByteArray) (A0 A1 A2 : Option Addr) (d0 d1 d2 : Nat) (i : Itp) (p : ItpA) (ok : Nat → Prop) (w : World) (hi : ItpR ok w i p) :
    Calls Tryz.prog 16 #[.agg #[.slice A0 cs.length d0, .slice A1 rs.length d1, .slice A2 is.length d2], .agg #[.int .i64 i.size, .slice p.a0 i.cons.length p.c0, .slice p.a1 i.roles.length p.c1, .slice p.a2 i.inds.length p.c2]] w fun e w' => e = .returned (.bool (isItpB cs.length rs.length is.length i)) ∧ Keeps (fun _ => False) w w' := by
  have HC := Lib.hid hi.cons
  have HR := Lib.hid hi.roles
  have HN := Lib.hid hi.inds
  have hm0 : i.cons.length ≤ 9223372036854775807 := by have h1 := hi.l0; have h2 := hi.m0; simp only [maxLen] at h2; omega
  have hm1 : i.roles.length ≤ 9223372036854775807 := by have h1 := hi.l1; have h2 := hi.m1; simp only [maxLen] at h2; omega
  have hm2 : i.inds.length ≤ 9223372036854775807 := by have h1 := hi.l2; have h2 := hi.m2; simp only [maxLen] at h2; omega
  have HV : Hid (isItpB cs.length rs.length is.length i = (!headBad cs.length rs.length is.length i && (i.cons.all (risingB · i.size) && (i.roles.all (pairsOkB i.size) && i.inds.all (inB i.size))))) := by unfold Hid; rfl
  have HBAD : Hid (headBad cs.length rs.length is.length i = (decide (i.size < 1) || (decide (256 < i.size) || (decide ((i.cons.length : Int) ≠ cs.length) || (decide ((i.roles.length : Int) ≠ rs.length) || decide ((i.inds.length : Int) ≠ is.length)))))) := by unfold Hid; rfl
  generalize isItpB cs.length rs.length is.length i = rv at *
  generalize headBad cs.length rs.length is.length i = bad at *
  obtain ⟨size, cons, roles, inds⟩ := i
  obtain ⟨a0, a1, a2, c0, c1, c2⟩ := p
  dsimp only at HC HR HN HV HBAD hm0 hm1 hm2 ⊢
  clear hi
  go_enter Tryz.func16, Tryz.ntmps16
  go_upto_region 1 with fail
  generalize hW0 : World.alloc _ _ = W0
  have hK0 : Keeps (fun _ => False) w W0 := by rw [← hW0]; repeat (first | exact Keeps.refl _ _ | refine Keeps.drewN ?_ _ | refine Keeps.drew ?_ | refine Keeps.alloc ?_ _ | refine Keeps.set ?_ (Or.inl (by rfl)) _)
  have hb0 : W0.heap[w.heap.size + 1]? = some (.cells #[.int .i64 size, .slice a0 cons.length c0, .slice a1 roles.length c1, .slice a2 inds.length c2] 37 (0, 0)) := by rw [← hW0]; exact blkNew (by simp)
  have hn0 : W0.heap[w.heap.size]? = some (.cells #[.slice A0 cs.length d0, .slice A1 rs.length d1, .slice A2 is.length d2] 24 (0, 0)) := by rw [← hW0]; exact blkAlloc (blkNew rfl) _
  clear hW0
  have HB0 := Lib.hid hb0
  have HK0 := Lib.hid hK0
  obtain ⟨x0, x1, x2, x3⟩ := cells4 hb0
  obtain ⟨y0, y1, y2⟩ := cells3 hn0
  have hl0 := blkLt hb0
  have hl1 := blkLt hn0
  clear hb0 hK0 hn0
  go_cut [47] from 13 (fun v wc => v = .bool bad ∧ wc = W0)
  case first =>
    by_cases h1 : size < 1 <;> by_cases h2 : 256 < size <;> by_cases h3 : (cons.length : Int) = cs.length <;> by_cases h4 : (roles.length : Int) = rs.length <;> by_cases h5 : (inds.length : Int) = is.length
    all_goals (try (exfalso; omega))
    all_goals
      have HE : Hid (bad = _) := HBAD
      unfold Hid at HE
      simp only [h1, h2, h3, h4, h5, ne_eq, not_true_eq_false, not_false_eq_true, decide_true, decide_false, Bool.or_true, Bool.or_false, Bool.and_true, Bool.and_false, Bool.true_or, Bool.false_or] at HE
      subst HE
      clear HBAD HV
      go_wp2_with fail
      go_meet
      exact ⟨by first | rfl | (simp only [Value.bool.injEq, bne_iff_ne, ne_eq]; assumption), rfl⟩
  case rest =>
    obtain ⟨rfl, rfl⟩ := hcut
    clear x0 x1 x2 x3 y0 y1 y2 hl0 hl1
    cases bad
    case true =>
      have HO : Hid (rv = false) := by unfold Hid; rw [HV.out]; rfl
      go_wp2_with fail
      go_ret
      exact ⟨by rw [HO.out]; rfl, HK0.out⟩
    case false =>
      have HV2 : Hid (rv = ((cons.drop 0).all (risingB · size) && (roles.all (pairsOkB size) && inds.all (inB size)))) := by unfold Hid; rw [HV.out]; rfl
      clear HV HBAD
      obtain ⟨x0, x1, x2, x3⟩ := cells4 HB0.out
      have hl0 := blkLt HB0.out
      go_wp2_with fail
      clear x0 x1 x2 x3 hl0
      go_loopw [51] (fun i wr => ∃ k : Nat, k ≤ cons.length ∧ i = .int .i64 k ∧ Hid (rv = ((cons.drop k).all (risingB · size) && (roles.all (pairsOkB size) && inds.all (inB size)))) ∧ Hid (Keeps (fun _ => False) wc wr)) (fun i _ => cons.length - (intOf i).toNat)
      case atStart => exact ⟨0, Nat.zero_le _, rfl, HV2, Keeps.refl _ _⟩
      case round =>
        obtain ⟨k, hk, rfl, HI, HK⟩ := hrel
        by_cases hlt : k < cons.length
        · obtain ⟨b, o, rfl, hob, hc⟩ := HC.out (by intro h; subst h; simp at hlt)
          obtain ⟨B, c, e0, hbc, hcm, hrow⟩ := hc k hlt
          have hb0 := World.block_lt_of_cell? w _ e0
          have e0 := (HK0.out.then_ HK.out).cell e0 (fun h => h)
          have HST := Lib.hid (listAll_drop (risingB · size) hlt)
          have i1 : (k : Int) < cons.length := by omega
          generalize cons[k] = x at *
          have HCALL := Lib.hid (fun W (hk : Keeps (fun _ => False) wr W) => refRising_calls x size ok B c W (hrow.keep ((HK0.out.then_ HK.out).then_ hk) (fun _ _ h => h)) (by simp only [maxLen] at hcm; omega))
          clear hc hrow
          obtain ⟨x0, x1, x2, x3⟩ := cells4 (HK.out.blk HB0.out (fun h => h))
          have hl0 := blkLt (HK.out.blk HB0.out (fun h => h))
          generalize risingB x size = rx at *
          go_wp2_with fail
          refine (HCALL.out wr (Keeps.refl _ _)).mono ?_
          clear HCALL x0 x1 x2 x3 hl0
          rintro e w5 ⟨rfl, hk5⟩
          cases rx
          · have HO : Hid (rv = false) := by unfold Hid; rw [HI.out, HST.out]; rfl
            clear HI HST HV2
            go_wp2_with fail
            go_ret
            exact ⟨by rw [HO.out]; rfl, (HK0.out.then_ HK.out).then_ hk5⟩
          · have HO : Hid (rv = ((cons.drop (k + 1)).all (risingB · size) && (roles.all (pairsOkB size) && inds.all (inB size)))) := by unfold Hid; rw [HI.out, HST.out]; rfl
            have HK5 := Lib.hid (HK.out.then_ hk5)
            clear HI HST HV2 hk5
            go_wp2_with fail
            go_roundw
            case rel => exact ⟨k + 1, by omega, by go_num, HO, HK5⟩
            case measure => simp [intOf]; omega
        · obtain rfl : cons.length = k := by omega
          have HV3 : Hid (rv = ((roles.drop 0).all (pairsOkB size) && inds.all (inB size))) := by unfold Hid; rw [HI.out, List.drop_length]; rfl
          have HK1 := Lib.hid (HK0.out.then_ HK.out)
          have HB1 := Lib.hid (HK.out.blk HB0.out (fun h => h))
          obtain ⟨w1, hw1⟩ : ∃ x, x = wr := ⟨_, rfl⟩
          subst hw1
          clear HK HI HV2 HK0 HB0
          obtain ⟨x0, x1, x2, x3⟩ := cells4 HB1.out
          have hl0 := blkLt HB1.out
          go_wp2_with fail
          clear x0 x1 x2 x3 hl0
          go_loopw [64] (fun i wr => ∃ k : Nat, k ≤ roles.length ∧ i = .int .i64 k ∧ Hid (rv = ((roles.drop k).all (pairsOkB size) && inds.all (inB size))) ∧ Hid (Keeps (fun _ => False) w1 wr)) (fun i _ => roles.length - (intOf i).toNat)
          case atStart => exact ⟨0, Nat.zero_le _, rfl, HV3, Keeps.refl _ _⟩
          case round =>
            obtain ⟨k, hk, rfl, HI, HK⟩ := hrel
            by_cases hlt : k < roles.length
            · obtain ⟨b, o, rfl, hob, hc⟩ := HR.out (by intro h; subst h; simp at hlt)
              obtain ⟨B, c, e0, hbc, hcm, hrow⟩ := hc k hlt
              have hb0 := World.block_lt_of_cell? w _ e0
              have e0 := (HK1.out.then_ HK.out).cell e0 (fun h => h)
              have HST := Lib.hid (listAll_drop (pairsOkB size) hlt)
              have i1 : (k : Int) < roles.length := by omega
              have hxl : roles[k].length ≤ 9223372036854775807 := by simp only [maxLen] at hcm; omega
              generalize roles[k] = x at *
              have HROW := Lib.hid hrow
              have HX : Hid (pairsOkB size x = prsL size (prevP x 0) (x.drop 0)) := by unfold Hid; rfl
              have hxb : ∃ px, pairsOkB size x = px := ⟨_, rfl⟩
              obtain ⟨px, hpx⟩ := hxb
              rw [hpx] at HST HX
              clear hc hrow hpx
              obtain ⟨wk, hwk⟩ : ∃ y, y = wr := ⟨_, rfl⟩
              subst hwk
              go_wp2_with fail
              go_loopw [70] (fun i wr => ∃ j : Nat, j ≤ x.length ∧ i = .int .i64 j ∧ Hid (px = prsL size (prevP x j) (x.drop j)) ∧ Hid (Keeps (fun _ => False) wk wr)) (fun i _ => x.length - (intOf i).toNat)
              case atStart => exact ⟨0, Nat.zero_le _, rfl, HX, Keeps.refl _ _⟩
              case round =>
                obtain ⟨j, hj, rfl, HJ, HKJ⟩ := hrel
                by_cases hjl : j < x.length
                · obtain ⟨bx, ox, rfl, hobx, hcx⟩ := (HROW.out.keep ((HK1.out.then_ HK.out).then_ HKJ.out) (fun _ _ h => h)) (by intro h; subst h; simp at hjl)
                  obtain ⟨f0, f1⟩ := hcx j hjl
                  have i2 : (j : Int) < x.length := by omega
                  obtain ⟨x0, x1, x2, x3⟩ := cells4 ((HK.out.then_ HKJ.out).blk HB1.out (fun h => h))
                  have hl0 := blkLt ((HK.out.then_ HKJ.out).blk HB1.out (fun h => h))
                  have HBAD := Lib.hid (fun hb => prsL_bad (n := size) hjl hb)
                  clear x0 x1 x2 x3 hl0
                  rcases j with _ | j
                  · have HNX := Lib.hid (fun h0 => prsL_first (n := size) hjl h0)
                    generalize x[0] = xx at *
                    obtain ⟨xa, xb⟩ := xx
                    dsimp only at f0 f1 HBAD HNX
                    clear hcx
                    simp only [Nat.zero_mul, Nat.add_zero] at f0 f1
                    by_cases hb : xa < 0
                    · have HP : Hid (px = false) := by unfold Hid; rw [HJ.out, HBAD.out (.inl hb)]
                      have HO : Hid (rv = false) := by unfold Hid; rw [HI.out, HST.out, HP.out]; rfl
                      clear HI HST HV3 HP HX HJ HBAD HNX HC HR HN HROW
                      have q1 : decide (xa < 0) = true := decide_eq_true (by omega)
                      go_wp2_with fail
                      generalize hW4 : World.alloc _ _ = W4
                      have hK4 : Keeps (fun _ => False) wr W4 := by rw [← hW4]; repeat (first | exact Keeps.refl _ _ | refine Keeps.drewN ?_ _ | refine Keeps.drew ?_ | refine Keeps.alloc ?_ _ | refine Keeps.set ?_ (Or.inl (by rfl)) _)
                      have hb4 : W4.heap[wr.heap.size]? = some (.cells #[.int .i64 xa, .int .i64 xb] 99 (0, 0)) := by rw [← hW4]; exact blkNew rfl
                      clear hW4
                      obtain ⟨z0, z1⟩ := cells2 hb4
                      obtain ⟨x0, x1, x2, x3⟩ := cells4 ((HK.out.then_ (HKJ.out.then_ hK4)).blk HB1.out (fun h => h))
                      have hlz := blkLt hb4
                      have hlx := blkLt ((HK.out.then_ (HKJ.out.then_ hK4)).blk HB1.out (fun h => h))
                      go_quiet (fail)
                      go_wp2_with fail
                      go_ret
                      exact ⟨by rw [HO.out]; rfl, ((HK1.out.then_ HK.out).then_ HKJ.out).then_ (by first | exact hK4 | exact hK4.drewN _)⟩
                    by_cases hb : size ≤ xa
                    · have HP : Hid (px = false) := by unfold Hid; rw [HJ.out, HBAD.out (.inr (.inl hb))]
                      have HO : Hid (rv = false) := by unfold Hid; rw [HI.out, HST.out, HP.out]; rfl
                      clear HI HST HV3 HP HX HJ HBAD HNX HC HR HN HROW
                      have q1 : decide (xa < 0) = false := decide_eq_false (by omega)
                      have q2 : decide (size ≤ xa) = true := decide_eq_true (by omega)
                      go_wp2_with fail
                      generalize hW4 : World.alloc _ _ = W4
                      have hK4 : Keeps (fun _ => False) wr W4 := by rw [← hW4]; repeat (first | exact Keeps.refl _ _ | refine Keeps.drewN ?_ _ | refine Keeps.drew ?_ | refine Keeps.alloc ?_ _ | refine Keeps.set ?_ (Or.inl (by rfl)) _)
                      have hb4 : W4.heap[wr.heap.size]? = some (.cells #[.int .i64 xa, .int .i64 xb] 99 (0, 0)) := by rw [← hW4]; exact blkNew rfl
                      clear hW4
                      obtain ⟨z0, z1⟩ := cells2 hb4
                      obtain ⟨x0, x1, x2, x3⟩ := cells4 ((HK.out.then_ (HKJ.out.then_ hK4)).blk HB1.out (fun h => h))
                      have hlz := blkLt hb4
                      have hlx := blkLt ((HK.out.then_ (HKJ.out.then_ hK4)).blk HB1.out (fun h => h))
                      go_quiet (fail)
                      go_wp2_with fail
                      go_ret
                      exact ⟨by rw [HO.out]; rfl, ((HK1.out.then_ HK.out).then_ HKJ.out).then_ (by first | exact hK4 | exact hK4.drewN _)⟩
                    by_cases hb : xb < 0
                    · have HP : Hid (px = false) := by unfold Hid; rw [HJ.out, HBAD.out (.inr (.inr (.inl hb)))]
                      have HO : Hid (rv = false) := by unfold Hid; rw [HI.out, HST.out, HP.out]; rfl
                      clear HI HST HV3 HP HX HJ HBAD HNX HC HR HN HROW
                      have q1 : decide (xa < 0) = false := decide_eq_false (by omega)
                      have q2 : decide (size ≤ xa) = false := decide_eq_false (by omega)
                      have q3 : decide (xb < 0) = true := decide_eq_true (by omega)
                      go_wp2_with fail
                      generalize hW4 : World.alloc _ _ = W4
                      have hK4 : Keeps (fun _ => False) wr W4 := by rw [← hW4]; repeat (first | exact Keeps.refl _ _ | refine Keeps.drewN ?_ _ | refine Keeps.drew ?_ | refine Keeps.alloc ?_ _ | refine Keeps.set ?_ (Or.inl (by rfl)) _)
                      have hb4 : W4.heap[wr.heap.size]? = some (.cells #[.int .i64 xa, .int .i64 xb] 99 (0, 0)) := by rw [← hW4]; exact blkNew rfl
                      clear hW4
                      obtain ⟨z0, z1⟩ := cells2 hb4
                      obtain ⟨x0, x1, x2, x3⟩ := cells4 ((HK.out.then_ (HKJ.out.then_ hK4)).blk HB1.out (fun h => h))
                      have hlz := blkLt hb4
                      have hlx := blkLt ((HK.out.then_ (HKJ.out.then_ hK4)).blk HB1.out (fun h => h))
                      go_quiet (fail)
                      go_wp2_with fail
                      go_ret
                      exact ⟨by rw [HO.out]; rfl, ((HK1.out.then_ HK.out).then_ HKJ.out).then_ (by first | exact hK4 | exact hK4.drewN _)⟩
                    by_cases hb : size ≤ xb
                    · have HP : Hid (px = false) := by unfold Hid; rw [HJ.out, HBAD.out (.inr (.inr (.inr hb)))]
                      have HO : Hid (rv = false) := by unfold Hid; rw [HI.out, HST.out, HP.out]; rfl
                      clear HI HST HV3 HP HX HJ HBAD HNX HC HR HN HROW
                      have q1 : decide (xa < 0) = false := decide_eq_false (by omega)
                      have q2 : decide (size ≤ xa) = false := decide_eq_false (by omega)
                      have q3 : decide (xb < 0) = false := decide_eq_false (by omega)
                      have q4 : decide (size ≤ xb) = true := decide_eq_true (by omega)
                      go_wp2_with fail
                      generalize hW4 : World.alloc _ _ = W4
                      have hK4 : Keeps (fun _ => False) wr W4 := by rw [← hW4]; repeat (first | exact Keeps.refl _ _ | refine Keeps.drewN ?_ _ | refine Keeps.drew ?_ | refine Keeps.alloc ?_ _ | refine Keeps.set ?_ (Or.inl (by rfl)) _)
                      have hb4 : W4.heap[wr.heap.size]? = some (.cells #[.int .i64 xa, .int .i64 xb] 99 (0, 0)) := by rw [← hW4]; exact blkNew rfl
                      clear hW4
                      obtain ⟨z0, z1⟩ := cells2 hb4
                      obtain ⟨x0, x1, x2, x3⟩ := cells4 ((HK.out.then_ (HKJ.out.then_ hK4)).blk HB1.out (fun h => h))
                      have hlz := blkLt hb4
                      have hlx := blkLt ((HK.out.then_ (HKJ.out.then_ hK4)).blk HB1.out (fun h => h))
                      go_quiet (fail)
                      go_wp2_with fail
                      go_ret
                      exact ⟨by rw [HO.out]; rfl, ((HK1.out.then_ HK.out).then_ HKJ.out).then_ (by first | exact hK4 | exact hK4.drewN _)⟩
                    have HO : Hid (px = prsL size (prevP x (0 + 1)) (x.drop (0 + 1))) := by unfold Hid; rw [HJ.out, HNX.out ⟨by omega, by omega, by omega, by omega⟩]
                    clear HJ HBAD HNX HX
                    have q1 : decide (xa < 0) = false := decide_eq_false (by omega)
                    have q2 : decide (size ≤ xa) = false := decide_eq_false (by omega)
                    have q3 : decide (xb < 0) = false := decide_eq_false (by omega)
                    have q4 : decide (size ≤ xb) = false := decide_eq_false (by omega)
                    go_wp2_with fail
                    generalize hW4 : World.alloc _ _ = W4
                    have hK4 : Keeps (fun _ => False) wr W4 := by rw [← hW4]; repeat (first | exact Keeps.refl _ _ | refine Keeps.drewN ?_ _ | refine Keeps.drew ?_ | refine Keeps.alloc ?_ _ | refine Keeps.set ?_ (Or.inl (by rfl)) _)
                    have hb4 : W4.heap[wr.heap.size]? = some (.cells #[.int .i64 xa, .int .i64 xb] 99 (0, 0)) := by rw [← hW4]; exact blkNew rfl
                    clear hW4
                    obtain ⟨z0, z1⟩ := cells2 hb4
                    obtain ⟨x0, x1, x2, x3⟩ := cells4 ((HK.out.then_ (HKJ.out.then_ hK4)).blk HB1.out (fun h => h))
                    have hlz := blkLt hb4
                    have hlx := blkLt ((HK.out.then_ (HKJ.out.then_ hK4)).blk HB1.out (fun h => h))
                    go_quiet (fail)
                    go_wp2_with fail
                    go_roundw
                    case rel => exact ⟨0 + 1, by omega, by go_num, HO, HKJ.out.then_ (by first | exact hK4 | exact hK4.drewN _)⟩
                    case measure => simp [intOf]; omega
                  · have HNX := Lib.hid (fun h0 => prsL_next (n := size) hjl h0)
                    obtain ⟨g0, g1⟩ := hcx j (by omega)
                    have e2 : ((j + 1 : Nat) : Int) - 1 = (j : Int) := by omega
                    generalize x[j + 1] = xx at *
                    generalize x[j] = yy at *
                    obtain ⟨xa, xb⟩ := xx
                    obtain ⟨ya, yb⟩ := yy
                    have HLS := Lib.hid (fun W => less_calls (ya, yb) (xa, xb) W)
                    dsimp only at f0 f1 g0 g1 HBAD HNX HLS
                    clear hcx
                    by_cases hb : xa < 0
                    · have HP : Hid (px = false) := by unfold Hid; rw [HJ.out, HBAD.out (.inl hb)]
                      have HO : Hid (rv = false) := by unfold Hid; rw [HI.out, HST.out, HP.out]; rfl
                      clear HI HST HV3 HP HX HJ HBAD HNX HC HR HN HROW
                      have q1 : decide (xa < 0) = true := decide_eq_true (by omega)
                      go_wp2_with fail
                      generalize hW4 : World.alloc _ _ = W4
                      have hK4 : Keeps (fun _ => False) wr W4 := by rw [← hW4]; repeat (first | exact Keeps.refl _ _ | refine Keeps.drewN ?_ _ | refine Keeps.drew ?_ | refine Keeps.alloc ?_ _ | refine Keeps.set ?_ (Or.inl (by rfl)) _)
                      have hb4 : W4.heap[wr.heap.size]? = some (.cells #[.int .i64 xa, .int .i64 xb] 99 (0, 0)) := by rw [← hW4]; exact blkNew rfl
                      clear hW4
                      obtain ⟨z0, z1⟩ := cells2 hb4
                      obtain ⟨x0, x1, x2, x3⟩ := cells4 ((HK.out.then_ (HKJ.out.then_ hK4)).blk HB1.out (fun h => h))
                      have hlz := blkLt hb4
                      have hlx := blkLt ((HK.out.then_ (HKJ.out.then_ hK4)).blk HB1.out (fun h => h))
                      go_quiet (fail)
                      go_wp2_with fail
                      go_ret
                      exact ⟨by rw [HO.out]; rfl, ((HK1.out.then_ HK.out).then_ HKJ.out).then_ (by first | exact hK4 | exact hK4.drewN _)⟩
                    by_cases hb : size ≤ xa
                    · have HP : Hid (px = false) := by unfold Hid; rw [HJ.out, HBAD.out (.inr (.inl hb))]
                      have HO : Hid (rv = false) := by unfold Hid; rw [HI.out, HST.out, HP.out]; rfl
                      clear HI HST HV3 HP HX HJ HBAD HNX HC HR HN HROW
                      have q1 : decide (xa < 0) = false := decide_eq_false (by omega)
                      have q2 : decide (size ≤ xa) = true := decide_eq_true (by omega)
                      go_wp2_with fail
                      generalize hW4 : World.alloc _ _ = W4
                      have hK4 : Keeps (fun _ => False) wr W4 := by rw [← hW4]; repeat (first | exact Keeps.refl _ _ | refine Keeps.drewN ?_ _ | refine Keeps.drew ?_ | refine Keeps.alloc ?_ _ | refine Keeps.set ?_ (Or.inl (by rfl)) _)
                      have hb4 : W4.heap[wr.heap.size]? = some (.cells #[.int .i64 xa, .int .i64 xb] 99 (0, 0)) := by rw [← hW4]; exact blkNew rfl
                      clear hW4
                      obtain ⟨z0, z1⟩ := cells2 hb4
                      obtain ⟨x0, x1, x2, x3⟩ := cells4 ((HK.out.then_ (HKJ.out.then_ hK4)).blk HB1.out (fun h => h))
                      have hlz := blkLt hb4
                      have hlx := blkLt ((HK.out.then_ (HKJ.out.then_ hK4)).blk HB1.out (fun h => h))
                      go_quiet (fail)
                      go_wp2_with fail
                      go_ret
                      exact ⟨by rw [HO.out]; rfl, ((HK1.out.then_ HK.out).then_ HKJ.out).then_ (by first | exact hK4 | exact hK4.drewN _)⟩
                    by_cases hb : xb < 0
                    · have HP : Hid (px = false) := by unfold Hid; rw [HJ.out, HBAD.out (.inr (.inr (.inl hb)))]
                      have HO : Hid (rv = false) := by unfold Hid; rw [HI.out, HST.out, HP.out]; rfl
                      clear HI HST HV3 HP HX HJ HBAD HNX HC HR HN HROW
                      have q1 : decide (xa < 0) = false := decide_eq_false (by omega)
                      have q2 : decide (size ≤ xa) = false := decide_eq_false (by omega)
                      have q3 : decide (xb < 0) = true := decide_eq_true (by omega)
                      go_wp2_with fail
                      generalize hW4 : World.alloc _ _ = W4
                      have hK4 : Keeps (fun _ => False) wr W4 := by rw [← hW4]; repeat (first | exact Keeps.refl _ _ | refine Keeps.drewN ?_ _ | refine Keeps.drew ?_ | refine Keeps.alloc ?_ _ | refine Keeps.set ?_ (Or.inl (by rfl)) _)
                      have hb4 : W4.heap[wr.heap.size]? = some (.cells #[.int .i64 xa, .int .i64 xb] 99 (0, 0)) := by rw [← hW4]; exact blkNew rfl
                      clear hW4
                      obtain ⟨z0, z1⟩ := cells2 hb4
                      obtain ⟨x0, x1, x2, x3⟩ := cells4 ((HK.out.then_ (HKJ.out.then_ hK4)).blk HB1.out (fun h => h))
                      have hlz := blkLt hb4
                      have hlx := blkLt ((HK.out.then_ (HKJ.out.then_ hK4)).blk HB1.out (fun h => h))
                      go_quiet (fail)
                      go_wp2_with fail
                      go_ret
                      exact ⟨by rw [HO.out]; rfl, ((HK1.out.then_ HK.out).then_ HKJ.out).then_ (by first | exact hK4 | exact hK4.drewN _)⟩
                    by_cases hb : size ≤ xb
                    · have HP : Hid (px = false) := by unfold Hid; rw [HJ.out, HBAD.out (.inr (.inr (.inr hb)))]
                      have HO : Hid (rv = false) := by unfold Hid; rw [HI.out, HST.out, HP.out]; rfl
                      clear HI HST HV3 HP HX HJ HBAD HNX HC HR HN HROW
                      have q1 : decide (xa < 0) = false := decide_eq_false (by omega)
                      have q2 : decide (size ≤ xa) = false := decide_eq_false (by omega)
                      have q3 : decide (xb < 0) = false := decide_eq_false (by omega)
                      have q4 : decide (size ≤ xb) = true := decide_eq_true (by omega)
                      go_wp2_with fail
                      generalize hW4 : World.alloc _ _ = W4
                      have hK4 : Keeps (fun _ => False) wr W4 := by rw [← hW4]; repeat (first | exact Keeps.refl _ _ | refine Keeps.drewN ?_ _ | refine Keeps.drew ?_ | refine Keeps.alloc ?_ _ | refine Keeps.set ?_ (Or.inl (by rfl)) _)
                      have hb4 : W4.heap[wr.heap.size]? = some (.cells #[.int .i64 xa, .int .i64 xb] 99 (0, 0)) := by rw [← hW4]; exact blkNew rfl
                      clear hW4
                      obtain ⟨z0, z1⟩ := cells2 hb4
                      obtain ⟨x0, x1, x2, x3⟩ := cells4 ((HK.out.then_ (HKJ.out.then_ hK4)).blk HB1.out (fun h => h))
                      have hlz := blkLt hb4
                      have hlx := blkLt ((HK.out.then_ (HKJ.out.then_ hK4)).blk HB1.out (fun h => h))
                      go_quiet (fail)
                      go_wp2_with fail
                      go_ret
                      exact ⟨by rw [HO.out]; rfl, ((HK1.out.then_ HK.out).then_ HKJ.out).then_ (by first | exact hK4 | exact hK4.drewN _)⟩
                    have HN2 := Lib.hid (HNX.out ⟨by omega, by omega, by omega, by omega⟩)
                    generalize lessP (ya, yb) (xa, xb) = ls at *
                    have G0 := Lib.hid g0
                    have G1 := Lib.hid g1
                    clear HBAD HNX g0 g1
                    have q1 : decide (xa < 0) = false := decide_eq_false (by omega)
                    have q2 : decide (size ≤ xa) = false := decide_eq_false (by omega)
                    have q3 : decide (xb < 0) = false := decide_eq_false (by omega)
                    have q4 : decide (size ≤ xb) = false := decide_eq_false (by omega)
                    have q5 : decide (0 < ((j + 1 : Nat) : Int)) = true := decide_eq_true (by omega)
                    have q6 : decide (0 < (j : Int) + 1) = true := decide_eq_true (by omega)
                    have e3 : (j : Int) + 1 - 1 = j := by omega
                    have i3 : (j : Int) < x.length := by omega
                    have i4 : (0 : Int) ≤ j := by omega
                    have v1 : IntKind.i64.wrap (((j + 1 : Nat) : Int) - 1) = j := by rw [e2]; exact IntWalk.i64_in _ (by omega)
                    have v2 : IntKind.i64.wrap ((j : Int) + 1 - 1) = j := by rw [e3]; exact IntWalk.i64_in _ (by omega)
                    have v3 : IntKind.i64.wrap (j : Int) = j := IntWalk.i64_in _ (by omega)
                    go_wp2_with fail
                    generalize hW4 : World.alloc _ _ = W4
                    have hK4 : Keeps (fun _ => False) wr W4 := by rw [← hW4]; repeat (first | exact Keeps.refl _ _ | refine Keeps.drewN ?_ _ | refine Keeps.drew ?_ | refine Keeps.alloc ?_ _ | refine Keeps.set ?_ (Or.inl (by rfl)) _)
                    have hb4 : W4.heap[wr.heap.size]? = some (.cells #[.int .i64 xa, .int .i64 xb] 99 (0, 0)) := by rw [← hW4]; exact blkNew rfl
                    clear hW4
                    obtain ⟨z0, z1⟩ := cells2 hb4
                    obtain ⟨x0, x1, x2, x3⟩ := cells4 ((HK.out.then_ (HKJ.out.then_ hK4)).blk HB1.out (fun h => h))
                    have hlz := blkLt hb4
                    have hlx := blkLt ((HK.out.then_ (HKJ.out.then_ hK4)).blk HB1.out (fun h => h))
                    have hHP := And.intro z0 (And.intro z1 (And.intro x0 (And.intro (hK4.cell G0.out (fun h => h)) (hK4.cell G1.out (fun h => h)))))
                    have HP : Hid (∀ w', Keeps (fun _ => False) W4 w' → w'.cell? ⟨wr.heap.size, 0, none⟩ = some (.int .i64 xa) ∧ w'.cell? ⟨wr.heap.size, 1, none⟩ = some (.int .i64 xb) ∧ w'.cell? ⟨w.heap.size + 1, 0, none⟩ = some (.int .i64 size) ∧ w'.cell? ⟨bx, ox + j * 2, none⟩ = some (.int .i64 ya) ∧ w'.cell? ⟨bx, ox + j * 2 + 1, none⟩ = some (.int .i64 yb)) := fun w' hkw =>
                      ⟨hkw.cell hHP.1 (fun h => h), hkw.cell hHP.2.1 (fun h => h), hkw.cell hHP.2.2.1 (fun h => h), hkw.cell hHP.2.2.2.1 (fun h => h), hkw.cell hHP.2.2.2.2 (fun h => h)⟩
                    clear hHP z0 z1 x0 x1 x2 x3 G0 G1
                    have HK4 := Lib.hid hK4
                    clear hK4
                    go_region_held3 (fun w' => w'.cell? ⟨wr.heap.size, 0, none⟩ = some (.int .i64 xa) ∧ w'.cell? ⟨wr.heap.size, 1, none⟩ = some (.int .i64 xb) ∧ w'.cell? ⟨w.heap.size + 1, 0, none⟩ = some (.int .i64 size) ∧ w'.cell? ⟨bx, ox + j * 2, none⟩ = some (.int .i64 ya) ∧ w'.cell? ⟨bx, ox + j * 2 + 1, none⟩ = some (.int .i64 yb))
                      (first
                        | exact HP.out _ (Keeps.refl _ _)
                        | exact HP.out _ (Keeps.refl _ _).drew
                        | exact HP.out _ ((Keeps.refl _ _).drew.then_ hk7))
                      ((go_at_call 63; refine (HLS.out _).mono ?_; clear HLS; rintro e w7 ⟨rfl, hk7⟩))
                    have HK7 : Hid (Keeps (fun _ => False) W4 w7) := (Keeps.refl (fun _ => False) W4).drew.then_ hk7
                    clear hk7 HP
                    all_goals
                      cases ls
                      · have HP : Hid (px = false) := by unfold Hid; rw [HJ.out, HN2.out]; rfl
                        have HO : Hid (rv = false) := by unfold Hid; rw [HI.out, HST.out, HP.out]; rfl
                        clear HI HST HV3 HP HX HJ HN2
                        go_wp2_with fail
                        go_ret
                        exact ⟨by rw [HO.out]; rfl, ((HK1.out.then_ HK.out).then_ HKJ.out).then_ (HK4.out.then_ HK7.out)⟩
                      · have HO : Hid (px = prsL size (prevP x (j + 2)) (x.drop (j + 2))) := by unfold Hid; rw [HJ.out, HN2.out]; rfl
                        clear HJ HN2 HX
                        go_wp2_with fail
                        go_roundw
                        case rel => exact ⟨j + 2, by omega, by go_num, HO, HKJ.out.then_ (HK4.out.then_ HK7.out)⟩
                        case measure => simp [intOf]; omega
                · obtain rfl : x.length = j := by omega
                  have HP : Hid (px = true) := by unfold Hid; rw [HJ.out, List.drop_length]; unfold prsL; rfl
                  have HO : Hid (rv = ((roles.drop (k + 1)).all (pairsOkB size) && inds.all (inB size))) := by unfold Hid; rw [HI.out, HST.out, HP.out]; rfl
                  have HK5 := Lib.hid (HK.out.then_ HKJ.out)
                  clear HI HST HV3 HP HX HJ
                  go_wp2_with fail
                  go_roundw
                  case rel => exact ⟨k + 1, by omega, by go_num, HO, HK5⟩
                  case measure => simp [intOf]; omega
            · obtain rfl : roles.length = k := by omega
              have HV4 : Hid (rv = (inds.drop 0).all (inB size)) := by unfold Hid; rw [HI.out, List.drop_length]; rfl
              have HK2 := Lib.hid (HK1.out.then_ HK.out)
              have HB2 := Lib.hid (HK.out.blk HB1.out (fun h => h))
              obtain ⟨w2, hw2⟩ : ∃ x, x = wr := ⟨_, rfl⟩
              subst hw2
              clear HK HI HV3 HK1 HB1
              obtain ⟨x0, x1, x2, x3⟩ := cells4 HB2.out
              have hl0 := blkLt HB2.out
              go_wp2_with fail
              clear x0 x1 x2 x3 hl0
              go_loopw [116] (fun i wr => ∃ k : Nat, k ≤ inds.length ∧ i = .int .i64 k ∧ Hid (rv = (inds.drop k).all (inB size)) ∧ Hid (Keeps (fun _ => False) w2 wr)) (fun i _ => inds.length - (intOf i).toNat)
              case atStart => exact ⟨0, Nat.zero_le _, rfl, HV4, Keeps.refl _ _⟩
              case round =>
                obtain ⟨k, hk, rfl, HI, HK⟩ := hrel
                by_cases hlt : k < inds.length
                · obtain ⟨b, o, rfl, hob, hc⟩ := (HN.out.keep (HK2.out.then_ HK.out) (fun _ _ h => h)) (by intro h; subst h; simp at hlt)
                  have e0 := hc k hlt
                  have HST := Lib.hid (listAll_drop (inB size) hlt)
                  have i1 : (k : Int) < inds.length := by omega
                  generalize inds[k] = x at *
                  clear hc
                  obtain ⟨x0, x1, x2, x3⟩ := cells4 (HK.out.blk HB2.out (fun h => h))
                  have hl0 := blkLt (HK.out.blk HB2.out (fun h => h))
                  by_cases hb : x < 0
                  · have HO : Hid (rv = false) := by unfold Hid; rw [HI.out, HST.out, show inB size x = false from decide_eq_false (by omega)]; rfl
                    clear HI HST HV4
                    go_wp2_with fail
                    go_ret
                    exact ⟨by rw [HO.out]; rfl, HK2.out.then_ HK.out⟩
                  by_cases hb2 : size ≤ x
                  · have HO : Hid (rv = false) := by unfold Hid; rw [HI.out, HST.out, show inB size x = false from decide_eq_false (by omega)]; rfl
                    clear HI HST HV4
                    go_wp2_with fail
                    go_ret
                    exact ⟨by rw [HO.out]; rfl, HK2.out.then_ HK.out⟩
                  have HO : Hid (rv = (inds.drop (k + 1)).all (inB size)) := by unfold Hid; rw [HI.out, HST.out, show inB size x = true from decide_eq_true (by omega)]; rfl
                  clear HI HST HV4
                  go_wp2_with fail
                  go_roundw
                  case rel => exact ⟨k + 1, by omega, by go_num, HO, HK⟩
                  case measure => simp [intOf]; omega
                · obtain rfl : inds.length = k := by omega
                  have HO : Hid (rv = true) := by unfold Hid; rw [HI.out, List.drop_length]; rfl
                  clear HI HV4
                  go_wp2_with fail
                  go_ret
                  exact ⟨by rw [HO.out]; rfl, HK2.out.then_ HK.out⟩
end Go.Proofs.YtknonaboaaiabaaGreatDoor
