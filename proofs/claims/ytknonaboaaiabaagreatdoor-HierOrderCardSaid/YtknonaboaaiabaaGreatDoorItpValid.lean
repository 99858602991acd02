/- The program's Valid of an interpretation answers as the reference's Is. -/
import Derived.Test.YtknonaboaaiabaaGreatDoorItpDef
import Derived.IntWalk
namespace Go.Proofs.YtknonaboaaiabaaGreatDoor
open Go.RowKit
set_option linter.unusedVariables false
set_option linter.unusedSimpArgs false
def flatP (n : Int) (p : Int × Int) : Int := p.1 * n + p.2
theorem inP_iff {n : Int} {p : Int × Int} : inP n p = true ↔ 0 ≤ p.1 ∧ p.1 < n ∧ 0 ≤ p.2 ∧ p.2 < n := by unfold inP; simp
theorem flat_bd {n : Int} {p : Int × Int} (h : inP n p = true) : 0 ≤ flatP n p ∧ flatP n p < n * n := by
  obtain ⟨h1, h2, h3, h4⟩ := inP_iff.1 h
  unfold flatP
  have a := Int.mul_nonneg h1 (show (0 : Int) ≤ n by omega)
  have b := Int.mul_le_mul_of_nonneg_right (show p.1 + 1 ≤ n by omega) (show (0 : Int) ≤ n by omega)
  rw [Int.add_mul, Int.one_mul] at b
  omega
theorem flat_less {n : Int} {p q : Int × Int} (hp : inP n p = true) (hq : inP n q = true) : lessP p q = decide (flatP n p < flatP n q) := by
  obtain ⟨h1, h2, h3, h4⟩ := inP_iff.1 hp
  obtain ⟨g1, g2, g3, g4⟩ := inP_iff.1 hq
  unfold lessP flatP
  rw [Bool.eq_iff_iff]
  simp only [Bool.or_eq_true, Bool.and_eq_true, decide_eq_true_eq]
  rcases Int.lt_trichotomy p.1 q.1 with h | h | h
  · have b := Int.mul_le_mul_of_nonneg_right (show p.1 + 1 ≤ q.1 by omega) (show (0 : Int) ≤ n by omega)
    rw [Int.add_mul, Int.one_mul] at b
    exact ⟨fun _ => by omega, fun _ => .inl h⟩
  · rw [h]
    exact ⟨fun x => by omega, fun x => .inr ⟨rfl, by omega⟩⟩
  · have b := Int.mul_le_mul_of_nonneg_right (show q.1 + 1 ≤ p.1 by omega) (show (0 : Int) ≤ n by omega)
    rw [Int.add_mul, Int.one_mul] at b
    exact ⟨fun x => by omega, fun x => by omega⟩
theorem prs_flat (n : Int) : ∀ (l : List (Int × Int)) (p : Option (Int × Int)), (∀ q, p = some q → inP n q = true) → prsL n p l = (l.all (inP n) && risL (n * n) (p.map (flatP n)) (l.map (flatP n)))
  | [], _, _ => by simp [prsL, risL]
  | x :: r, p, hp => by
    unfold prsL
    simp only [List.all_cons, List.map_cons]
    cases hx : inP n x
    · simp
    · have ih := prs_flat n r (some x) (fun q e => by cases e; exact hx)
      obtain ⟨b1, b2⟩ := flat_bd hx
      rw [ih]
      conv => rhs; unfold risL
      have e : lowP p x = lowO (p.map (flatP n)) (flatP n x) := by
        cases p with
        | none => rfl
        | some q => exact flat_less (hp q rfl) hx
      rw [e, decide_eq_true (show 0 ≤ flatP n x ∧ flatP n x < n * n from ⟨b1, b2⟩)]
      cases lowO (p.map (flatP n)) (flatP n x) <;> simp
theorem pairsOk_flat (n : Int) (l : List (Int × Int)) : pairsOkB n l = (l.all (inP n) && risingB (l.map (flatP n)) (n * n)) := prs_flat n l none (fun _ e => by cases e)
theorem flat_take {n : Int} {l : List (Int × Int)} {j : Nat} (h : j < l.length) : (l.take (j + 1)).map (flatP n) = (l.take j).map (flatP n) ++ [flatP n l[j]] := by
  rw [List.take_succ_eq_append_getElem h, List.map_append]; rfl
theorem flat_vals {n a b : Int} (h1 : 1 ≤ n) (h2 : n ≤ 256) (ha : 0 ≤ a) (ha' : a < n) (hb : 0 ≤ b) (hb' : b < n) : IntKind.i64.wrap (a * n) = a * n ∧ IntKind.i64.wrap (a * n + b) = a * n + b ∧ IntKind.i64.wrap (n * n) = n * n := by
  have p1 := Int.mul_nonneg ha (show (0 : Int) ≤ n by omega)
  have p2 := Int.mul_le_mul (show a ≤ 256 by omega) h2 (by omega) (by omega)
  have p3 := Int.mul_nonneg (show (0 : Int) ≤ n by omega) (show (0 : Int) ≤ n by omega)
  have p4 := Int.mul_le_mul h2 h2 (by omega) (by omega)
  exact ⟨IntWalk.i64_in _ (by omega), IntWalk.i64_in _ (by omega), IntWalk.i64_in _ (by omega)⟩
set_option maxRecDepth 100000 in
set_option maxHeartbeats 4000000 in
theorem itpValid_calls (cs rs is : List ByteArray) (A0 A1 A2 : Option Addr) (d0 d1 d2 : Nat) (i : Itp) (p : ItpA) (ok : Nat → Prop) (w : World) (hi : ItpR ok w i p) (hle : ∀ l ∈ i.roles, l.length ≤ 1000000) :
    Calls Tryz.prog 78 #[.agg #[.slice A0 cs.length d0, .slice A1 rs.length d1, .slice A2 is.length d2], .agg #[.int .i64 i.size, .slice p.a0 i.cons.length p.c0, .slice p.a1 i.roles.length p.c1, .slice p.a2 i.inds.length p.c2]] w fun e w' => e = .returned (.bool (isItpB cs.length rs.length is.length i)) ∧ Keeps (fun _ => False) w w' := by
  have HC := Lib.hid hi.cons
  have HR := Lib.hid hi.roles
  have HN := Lib.hid hi.inds
  have hm0 : i.cons.length ≤ 9223372036854775807 := by have h1 := hi.l0; have h2 := hi.m0; simp only [maxLen] at h2; omega
  have hm1 : i.roles.length ≤ 9223372036854775807 := by have h1 := hi.l1; have h2 := hi.m1; simp only [maxLen] at h2; omega
  have hm2 : i.inds.length ≤ 9223372036854775807 := by have h1 := hi.l2; have h2 := hi.m2; simp only [maxLen] at h2; omega
  have HV : Hid (isItpB cs.length rs.length is.length i = (!headBad cs.length rs.length is.length i && (i.cons.all (risingB · i.size) && (i.roles.all (pairsOkB i.size) && i.inds.all (inB i.size))))) := by unfold Hid; rfl
  have HBAD : Hid (headBad cs.length rs.length is.length i = (decide (i.size < 1) || (decide (256 < i.size) || (decide ((i.cons.length : Int) ≠ cs.length) || (decide ((i.roles.length : Int) ≠ rs.length) || decide ((i.inds.length : Int) ≠ is.length)))))) := by unfold Hid; rfl
  generalize isItpB cs.length rs.length is.length i = rv at *
  generalize headBad cs.length rs.length is.length i = bad at *
  obtain ⟨size, cons, roles, inds⟩ := i
  obtain ⟨a0, a1, a2, c0, c1, c2⟩ := p
  have HLE := Lib.hid hle
  dsimp only at HC HR HN HV HBAD HLE hm0 hm1 hm2 ⊢
  clear hle
  clear hi
  go_enter Tryz.func78, Tryz.ntmps78
  go_upto_region 1 with fail
  generalize hW0 : World.alloc _ _ = W0
  have hK0 : Keeps (fun _ => False) w W0 := by rw [← hW0]; repeat (first | exact Keeps.refl _ _ | refine Keeps.drewN ?_ _ | refine Keeps.drew ?_ | refine Keeps.alloc ?_ _ | refine Keeps.set ?_ (Or.inl (by rfl)) _)
  have hb0 : W0.heap[w.heap.size + 1]? = some (.cells #[.int .i64 size, .slice a0 cons.length c0, .slice a1 roles.length c1, .slice a2 inds.length c2] 37 (0, 0)) := by rw [← hW0]; exact blkNew (by simp)
  have hn0 : W0.heap[w.heap.size]? = some (.cells #[.slice A0 cs.length d0, .slice A1 rs.length d1, .slice A2 is.length d2] 24 (0, 0)) := by rw [← hW0]; exact blkAlloc (blkNew rfl) _
  clear hW0
  have HB0 := Lib.hid hb0
  have HK0 := Lib.hid hK0
  obtain ⟨x0, x1, x2, x3⟩ := cells4 hb0
  obtain ⟨y0, y1, y2⟩ := cells3 hn0
  have hl0 := blkLt hb0
  have hl1 := blkLt hn0
  clear hb0 hK0 hn0
  go_cut [48] from 14 (fun v wc => v = .bool bad ∧ wc = W0)
  case first =>
    by_cases h1 : size < 1 <;> by_cases h2 : 256 < size <;> by_cases h3 : (cons.length : Int) = cs.length <;> by_cases h4 : (roles.length : Int) = rs.length <;> by_cases h5 : (inds.length : Int) = is.length
    all_goals (try (exfalso; omega))
    all_goals
      have HE : Hid (bad = _) := HBAD
      unfold Hid at HE
      simp only [h1, h2, h3, h4, h5, ne_eq, not_true_eq_false, not_false_eq_true, decide_true, decide_false, Bool.or_true, Bool.or_false, Bool.and_true, Bool.and_false, Bool.true_or, Bool.false_or] at HE
      subst HE
      clear HBAD HV
      go_wp2_with fail
      go_meet
      exact ⟨by first | rfl | (simp only [Value.bool.injEq, bne_iff_ne, ne_eq]; assumption), rfl⟩
  case rest =>
    obtain ⟨rfl, rfl⟩ := hcut
    clear x0 x1 x2 x3 y0 y1 y2 hl0 hl1
    cases bad
    case true =>
      have HO : Hid (rv = false) := by unfold Hid; rw [HV.out]; rfl
      go_wp2_with fail
      go_ret
      exact ⟨by rw [HO.out]; rfl, HK0.out⟩
    case false =>
      have HSZ : Hid (1 ≤ size ∧ size ≤ 256) := by unfold Hid; have h := HBAD.out.symm; simp only [Bool.or_eq_false_iff, decide_eq_false_iff_not] at h; omega
      have HV2 : Hid (rv = ((cons.drop 0).all (risingB · size) && (roles.all (pairsOkB size) && inds.all (inB size)))) := by unfold Hid; rw [HV.out]; rfl
      clear HV HBAD
      obtain ⟨x0, x1, x2, x3⟩ := cells4 HB0.out
      have hl0 := blkLt HB0.out
      go_wp2_with fail
      clear x0 x1 x2 x3 hl0
      go_loopw [52] (fun i wr => ∃ k : Nat, k ≤ cons.length ∧ i = .int .i64 k ∧ Hid (rv = ((cons.drop k).all (risingB · size) && (roles.all (pairsOkB size) && inds.all (inB size)))) ∧ Hid (Keeps (fun _ => False) wc wr)) (fun i _ => cons.length - (intOf i).toNat)
      case atStart => exact ⟨0, Nat.zero_le _, rfl, HV2, Keeps.refl _ _⟩
      case round =>
        obtain ⟨k, hk, rfl, HI, HK⟩ := hrel
        by_cases hlt : k < cons.length
        · obtain ⟨b, o, rfl, hob, hc⟩ := HC.out (by intro h; subst h; simp at hlt)
          obtain ⟨B, c, e0, hbc, hcm, hrow⟩ := hc k hlt
          have hb0 := World.block_lt_of_cell? w _ e0
          have e0 := (HK0.out.then_ HK.out).cell e0 (fun h => h)
          have HST := Lib.hid (listAll_drop (risingB · size) hlt)
          have i1 : (k : Int) < cons.length := by omega
          generalize cons[k] = x at *
          have HCALL := Lib.hid (fun W (hk : Keeps (fun _ => False) wr W) => kbRising_calls x size ok B c W (hrow.keep ((HK0.out.then_ HK.out).then_ hk) (fun _ _ h => h)) (by simp only [maxLen] at hcm; omega))
          clear hc hrow
          obtain ⟨x0, x1, x2, x3⟩ := cells4 (HK.out.blk HB0.out (fun h => h))
          have hl0 := blkLt (HK.out.blk HB0.out (fun h => h))
          generalize risingB x size = rx at *
          go_wp2_with fail
          refine (HCALL.out wr (Keeps.refl _ _)).mono ?_
          clear HCALL x0 x1 x2 x3 hl0
          rintro e w5 ⟨rfl, hk5⟩
          cases rx
          · have HO : Hid (rv = false) := by unfold Hid; rw [HI.out, HST.out]; rfl
            clear HI HST HV2
            go_wp2_with fail
            go_ret
            exact ⟨by rw [HO.out]; rfl, (HK0.out.then_ HK.out).then_ hk5⟩
          · have HO : Hid (rv = ((cons.drop (k + 1)).all (risingB · size) && (roles.all (pairsOkB size) && inds.all (inB size)))) := by unfold Hid; rw [HI.out, HST.out]; rfl
            have HK5 := Lib.hid (HK.out.then_ hk5)
            clear HI HST HV2 hk5
            go_wp2_with fail
            go_roundw
            case rel => exact ⟨k + 1, by omega, by go_num, HO, HK5⟩
            case measure => simp [intOf]; omega
        · obtain rfl : cons.length = k := by omega
          have HV3 : Hid (rv = ((roles.drop 0).all (pairsOkB size) && inds.all (inB size))) := by unfold Hid; rw [HI.out, List.drop_length]; rfl
          have HK1 := Lib.hid (HK0.out.then_ HK.out)
          have HB1 := Lib.hid (HK.out.blk HB0.out (fun h => h))
          obtain ⟨w1, hw1⟩ : ∃ x, x = wr := ⟨_, rfl⟩
          subst hw1
          clear HK HI HV2 HK0 HB0
          obtain ⟨x0, x1, x2, x3⟩ := cells4 HB1.out
          have hl0 := blkLt HB1.out
          go_wp2_with fail
          clear x0 x1 x2 x3 hl0
          go_loopw [65] (fun i wr => ∃ k : Nat, k ≤ roles.length ∧ i = .int .i64 k ∧ Hid (rv = ((roles.drop k).all (pairsOkB size) && inds.all (inB size))) ∧ Hid (Keeps (fun _ => False) w1 wr)) (fun i _ => roles.length - (intOf i).toNat)
          case atStart => exact ⟨0, Nat.zero_le _, rfl, HV3, Keeps.refl _ _⟩
          case round =>
            obtain ⟨k, hk, rfl, HI, HK⟩ := hrel
            by_cases hlt : k < roles.length
            · obtain ⟨b, o, rfl, hob, hc⟩ := HR.out (by intro h; subst h; simp at hlt)
              obtain ⟨B, c, e0, hbc, hcm, hrow⟩ := hc k hlt
              have hb0 := World.block_lt_of_cell? w _ e0
              have e0 := (HK1.out.then_ HK.out).cell e0 (fun h => h)
              have HST := Lib.hid (listAll_drop (pairsOkB size) hlt)
              have i1 : (k : Int) < roles.length := by omega
              have hx6 := HLE.out _ (List.getElem_mem hlt)
              have hxl : roles[k].length ≤ 9223372036854775807 := by simp only [maxLen] at hcm; omega
              generalize roles[k] = x at *
              have HROW := Lib.hid hrow
              have HX : Hid (pairsOkB size x = ((x.drop 0).all (inP size) && risingB (x.map (flatP size)) (size * size))) := by unfold Hid; rw [pairsOk_flat]; rfl
              have hxb : ∃ px, pairsOkB size x = px := ⟨_, rfl⟩
              obtain ⟨px, hpx⟩ := hxb
              rw [hpx] at HST HX
              clear hc hrow hpx
              obtain ⟨wk, hwk⟩ : ∃ y, y = wr := ⟨_, rfl⟩
              subst hwk
              have HS1 : Hid (1 ≤ size ∧ size ≤ 256) := HSZ
              go_wp2_with fail
              go_loopw [9, 71] (fun v i wr => ∃ j : Nat, j ≤ x.length ∧ i = .int .i64 j ∧ Hid (OwnInts wr wk.heap.size v ((x.take j).map (flatP size))) ∧ Hid (px = ((x.drop j).all (inP size) && risingB (x.map (flatP size)) (size * size))) ∧ Hid (Keeps (fun _ => False) wk wr)) (fun _ i _ => x.length - (intOf i).toNat)
              case atStart => exact ⟨0, Nat.zero_le _, rfl, OwnInts.nil _ _, HX, Keeps.refl _ _⟩
              case round =>
                obtain ⟨j, hj, rfl, HOW, HJ, HKJ⟩ := hrel
                by_cases hjl : j < x.length
                · obtain ⟨bx, ox, rfl, hobx, hcx⟩ := (HROW.out.keep ((HK1.out.then_ HK.out).then_ HKJ.out) (fun _ _ h => h)) (by intro h; subst h; simp at hjl)
                  obtain ⟨f0, f1⟩ := hcx j hjl
                  have i2 : (j : Int) < x.length := by omega
                  have HTK := Lib.hid (flat_take (n := size) hjl)
                  have HST2 := Lib.hid (listAll_drop (inP size) hjl)
                  generalize x[j] = xx at *
                  obtain ⟨xa, xb⟩ := xx
                  dsimp only at f0 f1
                  clear hcx
                  obtain ⟨b2, hb2⟩ : ∃ q, q = !inP size (xa, xb) := ⟨_, rfl⟩
                  have HB2 := Lib.hid hb2
                  have HST3 : Hid ((x.drop j).all (inP size) = (!b2 && (x.drop (j + 1)).all (inP size))) := by unfold Hid; rw [HST2.out, hb2, Bool.not_not]
                  clear HST2 hb2
                  have HST2 := HST3
                  clear HST3
                  go_upto_region 16 with fail
                  clear f0 f1
                  generalize hW4 : World.alloc _ _ = W4
                  have hK4 : Keeps (fun _ => False) wr W4 := by rw [← hW4]; repeat (first | exact Keeps.refl _ _ | refine Keeps.drewN ?_ _ | refine Keeps.drew ?_ | refine Keeps.alloc ?_ _ | refine Keeps.set ?_ (Or.inl (by rfl)) _)
                  have hb4 : W4.heap[wr.heap.size]? = some (.cells #[.int .i64 xa, .int .i64 xb] 99 (0, 0)) := by rw [← hW4]; exact blkNew rfl
                  clear hW4
                  have HK4 := Lib.hid hK4
                  have HB4 := Lib.hid hb4
                  have HBX := Lib.hid ((HK.out.then_ (HKJ.out.then_ hK4)).blk HB1.out (fun h => h))
                  obtain ⟨z0, z1⟩ := cells2 hb4
                  obtain ⟨x0, x1, x2, x3⟩ := cells4 HBX.out
                  have hlz := blkLt hb4
                  have hlx := blkLt HBX.out
                  clear hb4 hK4
                  go_cut [96] from 134 (fun v wc => v = .bool b2 ∧ wc = W4)
                  case first =>
                    by_cases g1 : xa < 0
                    · have HE : b2 = true := by rw [HB2.out, show inP size (xa, xb) = false from decide_eq_false (by omega)]; rfl
                      subst HE
                      clear HST HST2 HJ HI HX HV3 HTK HB2 HROW HC HR HN
                      have q1 : decide (xa < 0) = true := decide_eq_true (by omega)
                      go_wp2_with fail
                      go_meet
                      exact ⟨rfl, rfl⟩
                    by_cases g2 : size ≤ xa
                    · have HE : b2 = true := by rw [HB2.out, show inP size (xa, xb) = false from decide_eq_false (by omega)]; rfl
                      subst HE
                      clear HST HST2 HJ HI HX HV3 HTK HB2 HROW HC HR HN
                      have q1 : decide (xa < 0) = false := decide_eq_false (by omega)
                      have q2 : decide (size ≤ xa) = true := decide_eq_true (by omega)
                      go_wp2_with fail
                      go_meet
                      exact ⟨rfl, rfl⟩
                    by_cases g3 : xb < 0
                    · have HE : b2 = true := by rw [HB2.out, show inP size (xa, xb) = false from decide_eq_false (by omega)]; rfl
                      subst HE
                      clear HST HST2 HJ HI HX HV3 HTK HB2 HROW HC HR HN
                      have q1 : decide (xa < 0) = false := decide_eq_false (by omega)
                      have q2 : decide (size ≤ xa) = false := decide_eq_false (by omega)
                      have q3 : decide (xb < 0) = true := decide_eq_true (by omega)
                      go_wp2_with fail
                      go_meet
                      exact ⟨rfl, rfl⟩
                    by_cases g4 : size ≤ xb
                    · have HE : b2 = true := by rw [HB2.out, show inP size (xa, xb) = false from decide_eq_false (by omega)]; rfl
                      subst HE
                      clear HST HST2 HJ HI HX HV3 HTK HB2 HROW HC HR HN
                      have q1 : decide (xa < 0) = false := decide_eq_false (by omega)
                      have q2 : decide (size ≤ xa) = false := decide_eq_false (by omega)
                      have q3 : decide (xb < 0) = false := decide_eq_false (by omega)
                      have q4 : decide (size ≤ xb) = true := decide_eq_true (by omega)
                      go_wp2_with fail
                      go_meet
                      exact ⟨rfl, rfl⟩
                    · have HE : b2 = false := by rw [HB2.out, show inP size (xa, xb) = true from decide_eq_true (by omega)]; rfl
                      subst HE
                      clear HST HST2 HJ HI HX HV3 HTK HB2 HROW HC HR HN
                      have q1 : decide (xa < 0) = false := decide_eq_false (by omega)
                      have q2 : decide (size ≤ xa) = false := decide_eq_false (by omega)
                      have q3 : decide (xb < 0) = false := decide_eq_false (by omega)
                      have q4 : decide (size ≤ xb) = false := decide_eq_false (by omega)
                      go_wp2_with fail
                      go_meet
                      exact ⟨rfl, rfl⟩
                  case rest =>
                    obtain ⟨rfl, rfl⟩ := hcut
                    cases b2
                    case true =>
                      have HP : Hid (px = false) := by unfold Hid; rw [HJ.out, HST2.out]; rfl
                      have HO : Hid (rv = false) := by unfold Hid; rw [HI.out, HST.out, HP.out]; rfl
                      clear HI HST HV3 HP HX HJ HST2
                      go_wp2_with fail
                      go_ret
                      exact ⟨by rw [HO.out]; rfl, ((HK1.out.then_ HK.out).then_ HKJ.out).then_ HK4.out⟩
                    case false =>
                      have HO : Hid (px = ((x.drop (j + 1)).all (inP size) && risingB (x.map (flatP size)) (size * size))) := by unfold Hid; rw [HJ.out, HST2.out]; rfl
                      have hin : inP size (xa, xb) = true := by have := HB2.out; cases h : inP size (xa, xb) <;> rw [h] at this <;> simp at this ⊢
                      obtain ⟨n1, n2, n3, n4⟩ := inP_iff.1 hin
                      dsimp only at n1 n2 n3 n4
                      obtain ⟨m1, m2, m3⟩ := flat_vals HS1.out.1 HS1.out.2 n1 n2 n3 n4
                      clear HJ HST2 HX HB2
                      have HTK2 : Hid ((x.take (j + 1)).map (flatP size) = (x.take j).map (flatP size) ++ [xa * size + xb]) := HTK
                      have hlen : ((x.take j).map (flatP size)).length = j := by simp; omega
                      have HOW2 := Lib.hid (ownsKeep HOW.out HK4.out (fun _ _ h => h))
                      have hsz4 := (HKJ.out.then_ HK4.out).size
                      generalize (x.take j).map (flatP size) = l1 at *
                      clear HTK hin
                      go_wp2_with (at_builtin; refine wp_app1 rfl _ _ 35 35 rfl wk.heap.size 3 (.int .i64 0) 1 8 Tryz.underlying35 infoInt rfl (by decide) (by decide) _ _ _ (ownsKeep (S := fun _ => False) HOW2.out (by repeat (first | exact Keeps.refl _ _ | refine Keeps.drewN ?_ _ | refine Keeps.drew ?_ | refine Keeps.alloc ?_ _ | refine Keeps.set ?_ (Or.inl (by rfl)) _)) (fun _ _ h => h)) rfl _ 1 [.int .i64 (xa * size + xb)] (Src.ofBlock Tryz.underlying35 (cs := #[.int .i64 (xa * size + xb)]) (blkNew rfl) rfl (by simp [Value.oneCell'])) rfl (by decide) (by first | omega | (simp; omega)) (by first | (simp; omega) | omega) ?_; intro g cap w5 ho hk5 hat hcap hlt5)
                      have hA : OwnInts w5 wk.heap.size (.slice (some ⟨g, 0, none⟩) (j + 1) cap) ((x.take (j + 1)).map (flatP size)) := by unfold OwnInts; rw [HTK2.out]; simpa [hlen] using ho
                      have hB : Keeps (fun _ => False) wk w5 := (HKJ.out.then_ (HK4.out.alloc _)).trans hk5 (fun i hi => .inr (HOW2.out.lt i hi).1)
                      go_roundw
                      case rel => first | exact ⟨j + 1, by omega, by go_num, hA, HO, hB⟩ | ((repeat apply Exists.intro); exact ⟨⟨j + 1, by omega, by go_num, hA, HO, hB⟩, rfl⟩)
                      case measure => simp [intOf]; omega
                · obtain rfl : x.length = j := by omega
                  have HP : Hid (px = risingB (x.map (flatP size)) (size * size)) := by unfold Hid; rw [HJ.out, List.drop_length]; rfl
                  have hml : (x.map (flatP size)).length = x.length := by simp
                  rw [List.take_length] at HOW
                  have hsz0 : 0 < size := by have := HS1.out; omega
                  obtain ⟨m1, m2, m3⟩ := flat_vals (a := 0) (b := 0) HS1.out.1 HS1.out.2 (by omega) hsz0 (by omega) hsz0
                  have HK5 := Lib.hid (HK.out.then_ HKJ.out)
                  obtain ⟨hn1, AF, cF, rfl, hcF, hrowF⟩ := ownedRow1 HOW.out
                  have HCALL := Lib.hid (fun W (hk : Keeps (fun _ => False) wr W) => kbRising_calls (x.map (flatP size)) (size * size) _ AF cF W (hrowF.keep hk (fun _ _ h => h)) (by simp; omega))
                  rw [hml] at HCALL
                  generalize risingB (x.map (flatP size)) (size * size) = rx at *
                  clear HOW hn1 hrowF HJ HX m1 m2 hml
                  obtain ⟨x0, x1, x2, x3⟩ := cells4 (HK5.out.blk HB1.out (fun h => h))
                  have hl0 := blkLt (HK5.out.blk HB1.out (fun h => h))
                  go_wp2_with fail
                  refine (HCALL.out _ (by repeat (first | exact Keeps.refl _ _ | refine Keeps.drewN ?_ _ | refine Keeps.drew ?_ | refine Keeps.alloc ?_ _ | refine Keeps.set ?_ (Or.inl (by rfl)) _))).mono ?_
                  clear HCALL x0 x1 x2 x3 hl0
                  rintro e w6 ⟨rfl, hk6⟩
                  have HK6 := Lib.hid (HK5.out.then_ hk6)
                  cases rx
                  · have HO : Hid (rv = false) := by unfold Hid; rw [HI.out, HST.out, HP.out]; rfl
                    clear HI HST HV3 HP
                    go_wp2_with fail
                    go_ret
                    exact ⟨by rw [HO.out]; rfl, HK1.out.then_ HK6.out⟩
                  · have HO : Hid (rv = ((roles.drop (k + 1)).all (pairsOkB size) && inds.all (inB size))) := by unfold Hid; rw [HI.out, HST.out, HP.out]; rfl
                    clear HI HST HV3 HP
                    go_wp2_with fail
                    go_roundw
                    case rel => exact ⟨k + 1, by omega, by go_num, HO, HK6⟩
                    case measure => simp [intOf]; omega
            · obtain rfl : roles.length = k := by omega
              have HV4 : Hid (rv = (inds.drop 0).all (inB size)) := by unfold Hid; rw [HI.out, List.drop_length]; rfl
              have HK2 := Lib.hid (HK1.out.then_ HK.out)
              have HB2 := Lib.hid (HK.out.blk HB1.out (fun h => h))
              obtain ⟨w2, hw2⟩ : ∃ x, x = wr := ⟨_, rfl⟩
              subst hw2
              clear HK HI HV3 HK1 HB1
              obtain ⟨x0, x1, x2, x3⟩ := cells4 HB2.out
              have hl0 := blkLt HB2.out
              go_wp2_with fail
              clear x0 x1 x2 x3 hl0
              go_loopw [121] (fun i wr => ∃ k : Nat, k ≤ inds.length ∧ i = .int .i64 k ∧ Hid (rv = (inds.drop k).all (inB size)) ∧ Hid (Keeps (fun _ => False) w2 wr)) (fun i _ => inds.length - (intOf i).toNat)
              case atStart => exact ⟨0, Nat.zero_le _, rfl, HV4, Keeps.refl _ _⟩
              case round =>
                obtain ⟨k, hk, rfl, HI, HK⟩ := hrel
                by_cases hlt : k < inds.length
                · obtain ⟨b, o, rfl, hob, hc⟩ := (HN.out.keep (HK2.out.then_ HK.out) (fun _ _ h => h)) (by intro h; subst h; simp at hlt)
                  have e0 := hc k hlt
                  have HST := Lib.hid (listAll_drop (inB size) hlt)
                  have i1 : (k : Int) < inds.length := by omega
                  generalize inds[k] = x at *
                  clear hc
                  obtain ⟨x0, x1, x2, x3⟩ := cells4 (HK.out.blk HB2.out (fun h => h))
                  have hl0 := blkLt (HK.out.blk HB2.out (fun h => h))
                  by_cases hb : x < 0
                  · have HO : Hid (rv = false) := by unfold Hid; rw [HI.out, HST.out, show inB size x = false from decide_eq_false (by omega)]; rfl
                    clear HI HST HV4
                    go_wp2_with fail
                    go_ret
                    exact ⟨by rw [HO.out]; rfl, HK2.out.then_ HK.out⟩
                  by_cases hb2 : size ≤ x
                  · have HO : Hid (rv = false) := by unfold Hid; rw [HI.out, HST.out, show inB size x = false from decide_eq_false (by omega)]; rfl
                    clear HI HST HV4
                    go_wp2_with fail
                    go_ret
                    exact ⟨by rw [HO.out]; rfl, HK2.out.then_ HK.out⟩
                  have HO : Hid (rv = (inds.drop (k + 1)).all (inB size)) := by unfold Hid; rw [HI.out, HST.out, show inB size x = true from decide_eq_true (by omega)]; rfl
                  clear HI HST HV4
                  go_wp2_with fail
                  go_roundw
                  case rel => exact ⟨k + 1, by omega, by go_num, HO, HK⟩
                  case measure => simp [intOf]; omega
                · obtain rfl : inds.length = k := by omega
                  have HO : Hid (rv = true) := by unfold Hid; rw [HI.out, List.drop_length]; rfl
                  clear HI HV4
                  go_wp2_with fail
                  go_ret
                  exact ⟨by rw [HO.out]; rfl, HK2.out.then_ HK.out⟩
end Go.Proofs.YtknonaboaaiabaaGreatDoor
