/- isagogelaw19.ModuleGrows: the walk (begun). -/
import Derived.Test.YthiclhbnggehoaaGreatDoorAwake19
import Derived.Test.YthiclhbnggehoaaGreatDoorFew4
import Derived.Test.YthiclhbnggehoaaGreatDoorGrowsR
import Derived.Test.YthiclhbnggehoaaGreatDoorRegInv
import Derived.Test.YthiclhbnggehoaaGreatDoorLetters
import Derived.Test.YthiclhbnggehoaaGreatDoorModTop
import Derived.Deep.Cut
namespace Go.Proofs.YthiclhbnggehoaaGreatDoor
open Go.RowKit
set_option linter.unusedVariables false
set_option linter.unusedSimpArgs false
theorem few4_lens {b : Kb} (h : few4B b = true) : b.incls.length ≤ 200 ∧ b.roles.length ≤ 200 ∧ b.facts.length ≤ 200 ∧ b.links.length ≤ 200 ∧ b.cs.length ≤ 100 ∧ b.rs.length ≤ 100 ∧ b.is.length ≤ 100 := by
  simp only [few4B, fewNamesR, Bool.and_eq_true, decide_eq_true_eq, List.all_cons, List.all_nil] at h
  obtain ⟨h1, h2, h3, h4, h5, -⟩ := h
  simp only [fewL, Bool.and_eq_true, decide_eq_true_eq] at h5
  exact ⟨h1, h2, h3, h4, h5.1.1, h5.2.1.1, h5.2.2.1⟩
theorem sigsTwo {W : World} {g a1 a2 a3 a4 c1 c2 c3 c4 : Nat} {A1 A2 A3 A4 : Option Addr} {t : TypeId} (h : W.heap[g]? = some (.cells #[.slice A1 a1 c1, .slice A2 a2 c2, .slice A3 a3 c3, .slice A4 a4 c4] t (0, 0))) : SigsL W [(a1, a2), (a3, a4)] g 0 := fun i hi => by
  have hi2 : i < 2 := hi
  have : i = 0 ∨ i = 1 := by omega
  rcases this with rfl | rfl
  · exact ⟨A1, c1, A2, c2, (blkCell h _).trans rfl, (blkCell h _).trans rfl⟩
  · exact ⟨A3, c3, A4, c4, (blkCell h _).trans rfl, (blkCell h _).trans rfl⟩
/-- What is asked ahead of the calls. -/
def growsOk (b : Kb) (C R D F : List Int) (kind : Int) : Bool := lookedB b ⟨0, 0, []⟩ [(C.length, R.length), (D.length, F.length)] && (isKbR b && (sigB b C R && (sigB b D F && decide (kind = 0 ∨ kind = 1))))
set_option maxRecDepth 100000 in
set_option maxHeartbeats 40000000 in
theorem grows_walk (b : Kb) (p : KbA) (C R D F : List Int) (kind : Int) (AC AR AD AF : Option Addr) (cC cR cD cF : Nat) (m : Int) (w : World) (hm : w.cell? ⟨1, 0, none⟩ = some (.int .i64 m)) (ht : ArgsTab w) (hb : KbR (fun k => k < w.heap.size) w b p) (h1 : SigR (fun k => k < w.heap.size) w C R AC AR) (h2 : SigR (fun k => k < w.heap.size) w D F AD AF) :
    Calls Tryz.prog 4 #[.agg #[.slice p.a0 b.cs.length p.c0, .slice p.a1 b.rs.length p.c1, .slice p.a2 b.is.length p.c2, .slice p.a3 b.incls.length p.c3, .slice p.a4 b.roles.length p.c4, .slice p.a5 b.facts.length p.c5, .slice p.a6 b.links.length p.c6], .agg #[.slice AC C.length cC, .slice AR R.length cR], .agg #[.slice AD D.length cD, .slice AF F.length cF], .int .i64 kind] w fun e w' => e = .returned (.bool true) ∧ Keeps (fun _ => False) w w' := by
  have HAW : Hid (∀ W, Keeps (fun _ => False) w W → Calls Tryz.prog 8 #[] W fun e w' => e = .returned (.bool true) ∧ Keeps (fun _ => False) W w') := fun W h => awake19_calls m W (h.cell hm (fun h => h)) (ht.keep h (fun h => h))
  have HLK : Hid (∀ W g, Keeps (fun _ => False) w W → W.heap[g]? = some (.cells #[.slice AC C.length cC, .slice AR R.length cR, .slice AD D.length cD, .slice AF F.length cF] 33 (0, 0)) → Calls Tryz.prog 7 #[.agg #[.slice p.a0 b.cs.length p.c0, .slice p.a1 b.rs.length p.c1, .slice p.a2 b.is.length p.c2, .slice p.a3 b.incls.length p.c3, .slice p.a4 b.roles.length p.c4, .slice p.a5 b.facts.length p.c5, .slice p.a6 b.links.length p.c6], .agg #[.int .i64 0, .int .i64 0, .slice none 0 0], .slice (some ⟨g, 0, none⟩) 2 2] W fun e w' => e = .returned (.bool (lookedB b ⟨0, 0, []⟩ [(C.length, R.length), (D.length, F.length)])) ∧ Keeps (fun _ => False) W w') :=
    fun W g h hg => looked_calls b p ⟨0, 0, []⟩ none 0 [(C.length, R.length), (D.length, F.length)] g 0 2 _ W (hb.keep h (fun _ _ h => h)) (conR_leaf _ _ 0 0) (sigsTwo hg) (by simp) (blkLt hg)
  go_enter Tryz.func4, Tryz.ntmps4
  go_wp2_with fail
  generalize hW0 : World.alloc _ _ = W0
  have hk0 : Keeps (fun _ => False) w W0 := by rw [← hW0]; repeat (first | exact Keeps.refl _ _ | refine Keeps.drewN ?_ _ | refine Keeps.drew ?_ | refine Keeps.alloc ?_ _ | refine Keeps.set ?_ (Or.inl (by rfl)) _)
  have hb0 : W0.heap[w.heap.size]? = some (.cells #[.slice p.a0 b.cs.length p.c0, .slice p.a1 b.rs.length p.c1, .slice p.a2 b.is.length p.c2, .slice p.a3 b.incls.length p.c3, .slice p.a4 b.roles.length p.c4, .slice p.a5 b.facts.length p.c5, .slice p.a6 b.links.length p.c6] 30 (0, 0)) := by rw [← hW0]; exact blkAlloc (blkAlloc (blkAlloc (blkNew rfl) _) _) _
  have hs1 : W0.heap[w.heap.size + 1]? = some (.cells #[.slice AC C.length cC, .slice AR R.length cR] 33 (0, 0)) := by rw [← hW0]; exact blkAlloc (blkAlloc (blkNew (by simp)) _) _
  have hs2 : W0.heap[w.heap.size + 1 + 1]? = some (.cells #[.slice AD D.length cD, .slice AF F.length cF] 33 (0, 0)) := by rw [← hW0]; exact blkAlloc (blkNew (by simp)) _
  have hsl : W0.heap[w.heap.size + 1 + 1 + 1]? = some (.cells #[.slice AC C.length cC, .slice AR R.length cR, .slice AD D.length cD, .slice AF F.length cF] 33 (0, 0)) := by rw [← hW0]; exact blkNew (by simp)
  clear hW0
  have HK0 := Lib.hid hk0
  have HB0 := Lib.hid hb0
  have HS1 := Lib.hid hs1
  have HS2 := Lib.hid hs2
  have HSL := Lib.hid hsl
  clear hk0 hb0 hs1 hs2 hsl
  refine (HLK.out W0 _ HK0.out HSL.out).mono ?_
  rintro e w2 ⟨rfl, hk2⟩
  have HK2 := Lib.hid (HK0.out.then_ hk2)
  have HX2 := Lib.hid hk2
  clear hk2 HLK
  cases hlk : lookedB b ⟨0, 0, []⟩ [(C.length, R.length), (D.length, F.length)]
  · clear hlk
    go_wp2_with fail
    refine (HAW.out w2 HK2.out).mono ?_
    rintro e w9 ⟨rfl, hk9⟩
    go_wp2_with fail
    go_ret
    exact ⟨rfl, HK2.out.then_ hk9⟩
  · simp only [lookedB, Bool.and_eq_true, List.all_cons, List.all_nil, shortB, decide_eq_true_eq] at hlk
    obtain ⟨⟨⟨c1, c2⟩, ⟨c3, c4⟩, -⟩, hfew, -⟩ := hlk
    obtain ⟨l1, l2, l3, l4, l5, l6, l7⟩ := few4_lens hfew
    have HIS : Hid (∀ W, Keeps (fun _ => False) w W → Calls Tryz.prog 10 #[.agg #[.slice p.a0 b.cs.length p.c0, .slice p.a1 b.rs.length p.c1, .slice p.a2 b.is.length p.c2, .slice p.a3 b.incls.length p.c3, .slice p.a4 b.roles.length p.c4, .slice p.a5 b.facts.length p.c5, .slice p.a6 b.links.length p.c6]] W fun e w' => e = .returned (.bool (isKbR b)) ∧ Keeps (fun _ => False) W w') := fun W h => isKb_calls b p _ W (hb.keep h (fun _ _ h => h)) (by omega) (by omega) (by omega) (by omega) (by omega) (by omega) (by omega)
    have HG1 : Hid (∀ W, Keeps (fun _ => False) w W → Calls Tryz.prog 11 #[.agg #[.slice p.a0 b.cs.length p.c0, .slice p.a1 b.rs.length p.c1, .slice p.a2 b.is.length p.c2], .agg #[.slice AC C.length cC, .slice AR R.length cR]] W (SaysB (sigB b C R) W)) := fun W h => sig19_calls b C R p.a0 p.a1 p.a2 AC AR p.c0 p.c1 p.c2 cC cR _ W ⟨h1.c.keep h (fun _ _ h => h), h1.r.keep h (fun _ _ h => h)⟩ (by omega) (by omega)
    have HG2 : Hid (∀ W, Keeps (fun _ => False) w W → Calls Tryz.prog 11 #[.agg #[.slice p.a0 b.cs.length p.c0, .slice p.a1 b.rs.length p.c1, .slice p.a2 b.is.length p.c2], .agg #[.slice AD D.length cD, .slice AF F.length cF]] W (SaysB (sigB b D F) W)) := fun W h => sig19_calls b D F p.a0 p.a1 p.a2 AD AF p.c0 p.c1 p.c2 cD cF _ W ⟨h2.c.keep h (fun _ _ h => h), h2.r.keep h (fun _ _ h => h)⟩ (by omega) (by omega)
    obtain ⟨x0, x1, x2, x3, x4, x5, x6⟩ := cells7 (HX2.out.blk HB0.out (fun h => h))
    have u0 := blkLt (HX2.out.blk HB0.out (fun h => h))
    go_wp2_with fail
    refine (HIS.out w2 HK2.out).mono ?_
    rintro e w3 ⟨rfl, hk3⟩
    have HK3 := Lib.hid (HK2.out.then_ hk3)
    have HX3 := Lib.hid (HX2.out.then_ hk3)
    clear hk3 x0 x1 x2 x3 x4 x5 x6 u0 HIS
    cases hik : isKbR b
    · clear hik
      go_wp2_with fail
      refine (HAW.out w3 HK3.out).mono ?_
      rintro e w9 ⟨rfl, hk9⟩
      go_wp2_with fail
      go_ret
      exact ⟨rfl, HK3.out.then_ hk9⟩
    · have HIK := Lib.hid hik
      clear hik
      obtain ⟨x0, x1, x2, x3, x4, x5, x6⟩ := cells7 (HX3.out.blk HB0.out (fun h => h))
      obtain ⟨y0, y1⟩ := cells2 (HX3.out.blk HS1.out (fun h => h))
      have u0 := blkLt (HX3.out.blk HB0.out (fun h => h))
      have u1 := blkLt (HX3.out.blk HS1.out (fun h => h))
      go_wp2_with fail
      refine (HG1.out w3 HK3.out).mono ?_
      rintro e w4 ⟨rfl, hk4⟩
      have HK4 := Lib.hid (HK3.out.then_ hk4)
      have HX4 := Lib.hid (HX3.out.then_ hk4)
      clear hk4 x0 x1 x2 x3 x4 x5 x6 u0 u1 y0 y1 HG1
      cases hg1 : sigB b C R
      · clear hg1
        go_wp2_with fail
        refine (HAW.out w4 HK4.out).mono ?_
        rintro e w9 ⟨rfl, hk9⟩
        go_wp2_with fail
        go_ret
        exact ⟨rfl, HK4.out.then_ hk9⟩
      · have HSG1 := Lib.hid hg1
        clear hg1
        obtain ⟨x0, x1, x2, x3, x4, x5, x6⟩ := cells7 (HX4.out.blk HB0.out (fun h => h))
        obtain ⟨y0, y1⟩ := cells2 (HX4.out.blk HS2.out (fun h => h))
        have u0 := blkLt (HX4.out.blk HB0.out (fun h => h))
        have u1 := blkLt (HX4.out.blk HS2.out (fun h => h))
        go_wp2_with fail
        refine (HG2.out w4 HK4.out).mono ?_
        rintro e w5 ⟨rfl, hk5⟩
        have HK5 := Lib.hid (HK4.out.then_ hk5)
        have HX5 := Lib.hid (HX4.out.then_ hk5)
        clear hk5 x0 x1 x2 x3 x4 x5 x6 u0 u1 y0 y1 HG2
        cases hg2 : sigB b D F
        · clear hg2
          go_wp2_with fail
          refine (HAW.out w5 HK5.out).mono ?_
          rintro e w9 ⟨rfl, hk9⟩
          go_wp2_with fail
          go_ret
          exact ⟨rfl, HK5.out.then_ hk9⟩
        · have HSG2 := Lib.hid hg2
          clear hg2
          by_cases hkd : kind = 0 ∨ kind = 1
          · obtain ⟨y0, y1⟩ := cells2 (HX5.out.blk HS1.out (fun h => h))
            have u1 := blkLt (HX5.out.blk HS1.out (fun h => h))
            have HSC := Lib.hid (intSrc (cap := cC) (h1.c.keep HK5.out (fun _ _ h => h)))
            have HSR := Lib.hid (intSrc (cap := cR) (h1.r.keep HK5.out (fun _ _ h => h)))
            rcases hkd with hk0 | hk1
            case' inl => have q1 : kind = 0 := hk0
            case' inr => have q1 : kind = 1 := hk1
            all_goals
              subst q1
              go_upto_region 3 with fail
              go_cut [9] from 10 (fun v wc => ∃ g, v = .pointer (some ⟨g, 0, none⟩) ∧ Both w5 g C R wc)
              case rest =>
                obtain ⟨g, rfl, hB⟩ := hcut
                have HBO := Lib.hid hB
                obtain ⟨_, _, -, -, -, -, -, hkc⟩ := hB
                have hz5 := hkc.size
                have hz0 := HK5.out.size
                obtain ⟨z0, z1⟩ := cells2 (hkc.blk (HX5.out.blk HS2.out (fun h => h)) (fun h => h))
                have uz := blkLt (hkc.blk (HX5.out.blk HS2.out (fun h => h)) (fun h => h))
                clear hkc y0 y1 u1
                go_wp2_with fail
                go_loopw [65] (fun i wr => ∃ k : Nat, k ≤ D.length ∧ i = .int .i64 k ∧ Hid (Both w5 g (insAll C (D.take k)) R wr)) (fun i _ => D.length - (intOf i).toNat)
                case atStart => exact ⟨0, Nat.zero_le _, rfl, HBO⟩
                case round =>
                  obtain ⟨k, hk, rfl, HB⟩ := hrel
                  obtain ⟨v1, v2, hg, hge, o1, o2, hne, hkr⟩ := HB.out
                  have HG := Lib.hid hg
                  have HO1 := Lib.hid o1
                  have HO2 := Lib.hid o2
                  have HNE := Lib.hid hne
                  have HKR := Lib.hid hkr
                  have hzr := hkr.size
                  clear hg o1 o2 hne hkr
                  by_cases hlt : k < D.length
                  · obtain ⟨bD, oD, hae, hbD, hcD⟩ := h2.c (by intro h; rw [h] at hlt; simp at hlt)
                    have e1 : wr.cell? ⟨bD, oD + k, none⟩ = some (.int .i64 D[k]) := HKR.out.cell (HK5.out.cell (hcD k hlt) (fun h => h)) (fun h => h)
                    have i1 : (k : Int) < D.length := by omega
                    have HZ : Hid (insAll C (D.take (k + 1)) = insZ D[k] (insAll C (D.take k))) := by unfold Hid; rw [List.take_succ_eq_append_getElem hlt, insAll_snoc]
                    have hll : (insAll C (D.take k)).length ≤ 1000000 := by have h := insAll_len (l := C) (k := D.take k); rw [List.length_take] at h; omega
                    clear hcD
                    subst hae
                    generalize insAll C (D.take k) = L1 at *
                    generalize D[k] = x at *
                    obtain ⟨A1, d1, rfl, -⟩ := ownSl HO1.out
                    obtain ⟨A2, d2, rfl, -⟩ := ownSl HO2.out
                    have HINS := Lib.hid (insert_calls w5.heap.size x L1 (.slice A1 L1.length d1) wr hll hzr HO1.out)
                    obtain ⟨y0, y1⟩ := cells2 HG.out
                    have ug := blkLt HG.out
                    have hbl : bD < wr.heap.size := by have : bD < w.heap.size := hbD; omega
                    go_wp2_with fail
                    refine HINS.out.mono ?_
                    rintro e w6 ⟨v', rfl, ha⟩
                    obtain ⟨A6, d6, rfl, -⟩ := ownSl ha.own
                    have hg6 := ha.keep.blk HG.out (HO1.out.notBox HG.out)
                    obtain ⟨r0, r1⟩ := cells2 hg6
                    have f0 := blkFree hg6 0
                    have ug6 := blkLt hg6
                    have HA := Lib.hid ha
                    clear ha hg6 y0 y1 ug e1 HINS
                    go_wp2_with fail
                    go_roundw
                    case rel => exact ⟨k + 1, by omega, by go_num, by unfold Hid; rw [HZ.out]; exact both_ins1 HG.out hge HO1.out HO2.out HNE.out HKR.out HA.out⟩
                    case measure => simp [intOf]; omega
                  · obtain rfl : k = D.length := by omega
                    have HBD : Hid (Both w5 g (insAll C D) R wr) := by have h := HB.out; rw [List.take_length] at h; exact h
                    obtain ⟨z0, z1⟩ := cells2 (HKR.out.blk (HX5.out.blk HS2.out (fun h => h)) (fun h => h))
                    have uz := blkLt (HKR.out.blk (HX5.out.blk HS2.out (fun h => h)) (fun h => h))
                    clear HB HG HO1 HO2 HNE HKR hge
                    go_wp2_with fail
                    go_loopw [78] (fun i wr => ∃ k : Nat, k ≤ F.length ∧ i = .int .i64 k ∧ Hid (Both w5 g (insAll C D) (insAll R (F.take k)) wr)) (fun i _ => F.length - (intOf i).toNat)
                    case atStart => exact ⟨0, Nat.zero_le _, rfl, HBD⟩
                    case round =>
                      obtain ⟨k, hk, rfl, HB⟩ := hrel
                      obtain ⟨v1, v2, hg, hge, o1, o2, hne, hkr⟩ := HB.out
                      have HG := Lib.hid hg
                      have HO1 := Lib.hid o1
                      have HO2 := Lib.hid o2
                      have HNE := Lib.hid hne
                      have HKR := Lib.hid hkr
                      have hzr := hkr.size
                      clear hg o1 o2 hne hkr
                      by_cases hlt : k < F.length
                      · obtain ⟨bD, oD, hae, hbD, hcD⟩ := h2.r (by intro h; rw [h] at hlt; simp at hlt)
                        have e1 : wr.cell? ⟨bD, oD + k, none⟩ = some (.int .i64 F[k]) := HKR.out.cell (HK5.out.cell (hcD k hlt) (fun h => h)) (fun h => h)
                        have i1 : (k : Int) < F.length := by omega
                        have HZ : Hid (insAll R (F.take (k + 1)) = insZ F[k] (insAll R (F.take k))) := by unfold Hid; rw [List.take_succ_eq_append_getElem hlt, insAll_snoc]
                        have hll : (insAll R (F.take k)).length ≤ 1000000 := by have h := insAll_len (l := R) (k := F.take k); rw [List.length_take] at h; omega
                        clear hcD
                        subst hae
                        generalize insAll R (F.take k) = L1 at *
                        generalize F[k] = x at *
                        obtain ⟨A1, d1, rfl, -⟩ := ownSl HO1.out
                        obtain ⟨A2, d2, rfl, -⟩ := ownSl HO2.out
                        have HINS := Lib.hid (insert_calls w5.heap.size x L1 (.slice A2 L1.length d2) wr hll hzr HO2.out)
                        obtain ⟨y0, y1⟩ := cells2 HG.out
                        have ug := blkLt HG.out
                        have hbl : bD < wr.heap.size := by have : bD < w.heap.size := hbD; omega
                        go_wp2_with fail
                        refine HINS.out.mono ?_
                        rintro e w6 ⟨v', rfl, ha⟩
                        obtain ⟨A6, d6, rfl, -⟩ := ownSl ha.own
                        have hg6 := ha.keep.blk HG.out (HO2.out.notBox HG.out)
                        obtain ⟨r0, r1⟩ := cells2 hg6
                        have f0 := blkFree hg6 1
                        have ug6 := blkLt hg6
                        have HA := Lib.hid ha
                        clear ha hg6 y0 y1 ug e1 HINS
                        go_wp2_with fail
                        go_roundw
                        case rel => exact ⟨k + 1, by omega, by go_num, by unfold Hid; rw [HZ.out]; exact both_ins2 HG.out hge HO1.out HO2.out HNE.out HKR.out HA.out⟩
                        case measure => simp [intOf]; omega
                      · obtain rfl : k = F.length := by omega
                        rw [List.take_length] at HO2
                        have HSG : Hid (sigB b (insAll C D) (insAll R F) = true) := by
                          have h1 := HSG1.out
                          have h2 := HSG2.out
                          unfold sigB at h1 h2 ⊢
                          simp only [Bool.and_eq_true] at h1 h2
                          unfold Hid
                          rw [insAll_rising h1.1 (risL_bounds h2.1), insAll_rising h1.2 (risL_bounds h2.2)]
                          rfl
                        have hm1 : (insAll C D).length ≤ 1000000 := by have h := insAll_len (l := C) (k := D); omega
                        have hm2 : (insAll R F).length ≤ 1000000 := by have h := insAll_len (l := R) (k := F); omega
                        have HIN1 : Hid (∀ n ∈ C, n ∈ insAll C D) := fun n hn => insAll_sub hn
                        have HIN2 : Hid (∀ n ∈ R, n ∈ insAll R F) := fun n hn => insAll_sub hn
                        clear HBD HBO HNE hge
                        generalize insAll C D = LC at *
                        generalize insAll R F = LR at *
                        obtain ⟨A1, d1, rfl, row1⟩ := ownRowI HO1.out
                        obtain ⟨A2, d2, rfl, row2⟩ := ownRowI HO2.out
                        have HROW : Hid (SigR (fun k => k < wr.heap.size) wr LC LR A1 A2) := Lib.hid ⟨row1, row2⟩
                        have HKW := Lib.hid (HK5.out.then_ HKR.out)
                        have hzw := HKW.out.size
                        clear row1 row2 HO1 HO2
                        have HVAL : Hid (kbValidB b = true) := by unfold Hid; rw [kbValid_eq b (names_eq _ _ _)]; exact HIK.out
                        obtain ⟨x0, x1, x2, x3, x4, x5, x6⟩ := cells7 (HKR.out.blk (HX5.out.blk HB0.out (fun h => h)) (fun h => h))
                        obtain ⟨y0, y1⟩ := cells2 (HKR.out.blk (HX5.out.blk HS1.out (fun h => h)) (fun h => h))
                        have u0 := blkLt (HKR.out.blk (HX5.out.blk HB0.out (fun h => h)) (fun h => h))
                        have u1 := blkLt (HKR.out.blk (HX5.out.blk HS1.out (fun h => h)) (fun h => h))
                        have HM1 := Lib.hid (fun kd : Int => modTop_calls b p C R kd AC AR cC cR (fun k => k < wr.heap.size) m wr (HKW.out.cell hm (fun h => h)) (ht.keep HKW.out (fun h => h)) ((hb.keep HKW.out (fun _ _ h => h)).mono (fun k hk => Nat.lt_of_lt_of_le hk hzw)) (fun k hk => hk) (by omega) (by omega) (by omega) (by omega) ⟨(h1.c.keep HKW.out (fun _ _ h => h)).mono (fun k hk => Nat.lt_of_lt_of_le hk hzw), (h1.r.keep HKW.out (fun _ _ h => h)).mono (fun k hk => Nat.lt_of_lt_of_le hk hzw)⟩ (by omega) (by omega) (fun h => kbOk_of h))
                        go_wp2_with fail
                        refine (HM1.out _).mono ?_
                        rintro e w7 ⟨v7, l7, E7, rfl, ho7, hk7, -, -, hx7⟩
                        obtain ⟨rfl, hl7⟩ := hx7 HVAL.out (by show (sigB b C R && _) = true; rw [HSG1.out]; rfl)
                        have HO7 := Lib.hid ho7
                        have HK7 := Lib.hid hk7
                        have HL7 := Lib.hid hl7
                        have hz7 := hk7.size
                        clear ho7 hk7 hl7 hx7 HM1 x0 x1 x2 x3 x4 x5 x6 y0 y1 u0 u1
                        obtain ⟨x0, x1, x2, x3, x4, x5, x6⟩ := cells7 (HK7.out.blk (HKR.out.blk (HX5.out.blk HB0.out (fun h => h)) (fun h => h)) (fun h => h))
                        obtain ⟨y0, y1⟩ := cells2 (HK7.out.blk HG.out (fun h => h))
                        have u0 := blkLt (HK7.out.blk (HKR.out.blk (HX5.out.blk HB0.out (fun h => h)) (fun h => h)) (fun h => h))
                        have u1 := blkLt (HK7.out.blk HG.out (fun h => h))
                        have HKW7 := Lib.hid (HKW.out.then_ HK7.out)
                        have hzw7 := HKW7.out.size
                        have HM2 := Lib.hid (fun kd : Int => modTop_calls b p LC LR kd A1 A2 d1 d2 (fun k => k < wr.heap.size) m w7 (HKW7.out.cell hm (fun h => h)) (ht.keep HKW7.out (fun h => h)) ((hb.keep HKW7.out (fun _ _ h => h)).mono (fun k hk => Nat.lt_of_lt_of_le hk hzw)) (fun k hk => Nat.lt_of_lt_of_le hk hz7) (by omega) (by omega) (by omega) (by omega) (HROW.out.keep HK7.out (fun _ _ h => h)) hm1 hm2 (fun h => kbOk_of h))
                        obtain ⟨A7, c7, rfl, row7⟩ := ownRowI HO7.out
                        have HR7 := Lib.hid row7
                        clear row7
                        go_wp2_with fail
                        refine (HM2.out _).mono ?_
                        rintro e w8 ⟨v8, l8, E8, rfl, ho8, hk8, -, -, hx8⟩
                        obtain ⟨rfl, hl8⟩ := hx8 HVAL.out (by show (sigB b LC LR && _) = true; rw [HSG.out]; rfl)
                        obtain ⟨A8, c8, rfl, row8⟩ := ownRowI ho8
                        have hz8 := hk8.size
                        have HALL : Hid (((zs l7).all fun x => decide (x ∈ zs l8)) = true) := by
                          unfold Hid
                          rw [HL7.out, hl8, List.all_eq_true]
                          intro x hx
                          unfold zs at hx
                          obtain ⟨a, ha, rfl⟩ := List.mem_map.1 hx
                          refine decide_eq_true (zs_mem.2 ?_)
                          unfold moduleM at ha ⊢
                          rw [if_neg (by decide)] at ha ⊢
                          exact modL_grows HIN1.out HIN2.out a ha
                        have hn7 : (zs l7).length ≤ 1000000 := by
                          rw [zs_len, HL7.out]
                          unfold moduleM modL
                          rw [if_neg (by decide)]
                          have h := List.length_filter_le (α := Nat) (p := fun _ => true) []
                          refine Nat.le_trans (List.length_filter_le _ _) ?_
                          rw [List.length_range]; unfold kbCount; omega
                        have hn8 : (zs l8).length ≤ 1000000 := by
                          rw [zs_len, hl8]
                          unfold moduleM modL
                          rw [if_neg (by decide)]
                          refine Nat.le_trans (List.length_filter_le _ _) ?_
                          rw [List.length_range]; unfold kbCount; omega
                        have HSB := Lib.hid (subset_calls (zs l7) (zs l8) (fun k => k < w8.heap.size) A7 A8 c7 c8 w8 ((HR7.out.keep hk8 (fun _ _ h => h)).mono (fun k hk => Nat.lt_of_lt_of_le hk hz8)) row8 hn7 hn8)
                        rw [HALL.out] at HSB
                        have HKW8 := Lib.hid (HKW7.out.then_ hk8)
                        clear ho8 hk8 hl8 hx8 row8 HALL x0 x1 x2 x3 x4 x5 x6 y0 y1 u0 u1 HM2 HL7
                        go_wp2_with fail
                        refine HSB.out.mono ?_
                        rintro e w9 ⟨rfl, hk9⟩
                        have HKW9 := Lib.hid (HKW8.out.then_ hk9)
                        clear hk9 HSB
                        go_wp2_with fail
                        refine (HAW.out w9 HKW9.out).mono ?_
                        rintro e w10 ⟨rfl, hk10⟩
                        go_wp2_with fail
                        go_ret
                        exact ⟨rfl, HKW9.out.then_ hk10⟩
              case first =>
                refine wp_region_inv2 (fun a0 L a wc => ∃ (l0 l1 l2 l3 l4 l5 l6 l7 l8 l9 l10 : Bool) (t53 t54 t55 t56 t57 t58 t59 t60 t61 t9 : Value), L = #[l0, l1, l2, l3, l4, l5, l6, l7, l8, l9, l10] ∧ a = ((((((((((a0).put (some 53) t53).put (some 54) t54).put (some 55) t55).put (some 56) t56).put (some 57) t57).put (some 58) t58).put (some 59) t59).put (some 60) t60).put (some 61) t61).put (some 9) t9 ∧ GI w5 C R (.pointer (some ⟨w.heap.size + 1, 0, none⟩)) (.slice AC C.length cC) (.pointer (some ⟨w.heap.size + 1, 1, none⟩)) (.slice AR R.length cR) l0 l1 l2 l3 l4 l5 l6 l7 l8 l9 l10 t53 t54 t55 t56 t57 t58 t59 t60 t61 t9 wc) _ _ (by kernel_rfl) (by kernel_rfl) ?i0 ?ie ?is
                case i0 => exact ⟨false, false, false, false, false, false, false, false, false, false, false, undef, undef, undef, undef, undef, undef, undef, undef, undef, undef, rfl, by simp only [Act.put, List.setIfInBounds_toArray, List.set_cons_zero, List.set_cons_succ], by simp, by simp, by simp, by simp, by simp [cur], by simp [cur], by simp [cur], by simp, by simp, by simp, by simp, by simp, by simp, (Keeps.refl _ _).drew⟩
                case ie =>
                  rintro L a wc ⟨l0, l1, l2, l3, l4, l5, l6, l7, l8, l9, l10, t53, t54, t55, t56, t57, t58, t59, t60, t61, t9, rfl, rfl, hI⟩ hr
                  obtain rfl : l0 = true := hr 0 (by decide)
                  obtain rfl : l1 = true := hr 1 (by decide)
                  obtain rfl : l2 = true := hr 2 (by decide)
                  obtain rfl : l3 = true := hr 3 (by decide)
                  obtain rfl : l4 = true := hr 4 (by decide)
                  obtain rfl : l5 = true := hr 5 (by decide)
                  obtain rfl : l6 = true := hr 6 (by decide)
                  obtain rfl : l7 = true := hr 7 (by decide)
                  obtain rfl : l8 = true := hr 8 (by decide)
                  obtain rfl : l9 = true := hr 9 (by decide)
                  obtain rfl : l10 = true := hr 10 (by decide)
                  clear hr
                  simp only [Act.put, List.setIfInBounds_toArray, List.set_cons_zero, List.set_cons_succ]
                  obtain ⟨g, rfl, hB⟩ := hI.both
                  have HN := Lib.hid hB
                  clear hI hB
                  go_wp2_with fail
                  go_meet
                  exact ⟨g, rfl, HN.out⟩
                case is =>
                  rintro L a wc i ⟨l0, l1, l2, l3, l4, l5, l6, l7, l8, l9, l10, t53, t54, t55, t56, t57, t58, t59, t60, t61, t9, rfl, rfl, hI⟩ hi hf hd K hK
                  have hi' : i < 11 := hi
                  have hor : i = 0 ∨ i = 1 ∨ i = 2 ∨ i = 3 ∨ i = 4 ∨ i = 5 ∨ i = 6 ∨ i = 7 ∨ i = 8 ∨ i = 9 ∨ i = 10 := by omega
                  clear hi hi'
                  rcases hor with rfl | rfl | rfl | rfl | rfl | rfl | rfl | rfl | rfl | rfl | rfl
                  · obtain rfl : l0 = false := hf
                    clear hd
                    simp only [Act.put, List.setIfInBounds_toArray, List.set_cons_zero, List.set_cons_succ]
                    refine wpOp_step rfl (fun K' hK' => ?_)
                    go_simp
                    exact hK' _ _ (hK _ _ ⟨_, _, _, _, _, _, _, _, _, _, _, _, _, _, _, _, _, _, _, _, _, rfl, by simp only [Act.put, List.setIfInBounds_toArray, List.set_cons_zero, List.set_cons_succ], hI.s0⟩)
                  · obtain rfl : l1 = false := hf
                    clear hd
                    simp only [Act.put, List.setIfInBounds_toArray, List.set_cons_zero, List.set_cons_succ]
                    refine wpOp_step rfl (fun K' hK' => ?_)
                    go_simp
                    exact hK' _ _ (hK _ _ ⟨_, _, _, _, _, _, _, _, _, _, _, _, _, _, _, _, _, _, _, _, _, rfl, by simp only [Act.put, List.setIfInBounds_toArray, List.set_cons_zero, List.set_cons_succ], hI.s1⟩)
                  · obtain rfl : l2 = false := hf
                    have hd' := hd _ rfl
                    obtain rfl : l1 = true := by first | exact hd' 0 (by decide) | exact hd' 1 (by decide) | exact hd' 2 (by decide) | exact hd' 3 (by decide) | exact hd' 4 (by decide) | exact hd' 5 (by decide) | exact hd' 6 (by decide) | exact hd' 7 (by decide) | exact hd' 8 (by decide) | exact hd' 9 (by decide) | exact hd' 10 (by decide)
                    clear hd'
                    clear hd
                    have e1 := hI.a1 rfl
                    subst e1
                    obtain ⟨y0, y1⟩ := cells2 (hI.k.blk (HX5.out.blk HS1.out (fun h => h)) (fun h => h))
                    have ul := blkLt (hI.k.blk (HX5.out.blk HS1.out (fun h => h)) (fun h => h))
                    simp only [Act.put, List.setIfInBounds_toArray, List.set_cons_zero, List.set_cons_succ]
                    refine wpOp_step rfl (fun K' hK' => ?_)
                    go_simp
                    exact hK' _ _ (hK _ _ ⟨_, _, _, _, _, _, _, _, _, _, _, _, _, _, _, _, _, _, _, _, _, rfl, by simp only [Act.put, List.setIfInBounds_toArray, List.set_cons_zero, List.set_cons_succ], hI.s2⟩)
                  · obtain rfl : l3 = false := hf
                    have hd' := hd _ rfl
                    obtain rfl : l0 = true := by first | exact hd' 0 (by decide) | exact hd' 1 (by decide) | exact hd' 2 (by decide) | exact hd' 3 (by decide) | exact hd' 4 (by decide) | exact hd' 5 (by decide) | exact hd' 6 (by decide) | exact hd' 7 (by decide) | exact hd' 8 (by decide) | exact hd' 9 (by decide) | exact hd' 10 (by decide)
                    obtain rfl : l2 = true := by first | exact hd' 0 (by decide) | exact hd' 1 (by decide) | exact hd' 2 (by decide) | exact hd' 3 (by decide) | exact hd' 4 (by decide) | exact hd' 5 (by decide) | exact hd' 6 (by decide) | exact hd' 7 (by decide) | exact hd' 8 (by decide) | exact hd' 9 (by decide) | exact hd' 10 (by decide)
                    clear hd'
                    clear hd
                    have e2 := hI.a2 rfl
                    subst e2
                    have o1 : OwnInts wc w5.heap.size t53 [] := hI.r1 _ _ rfl
                    have hkI := hI.k
                    simp only [Act.put, List.setIfInBounds_toArray, List.set_cons_zero, List.set_cons_succ]
                    refine wpOp_step rfl (fun K' hK' => ?_)
                    refine step_appH (by rfl) _ _ 31 31 (by rfl) w5.heap.size 3 (.int .i64 0) 1 8 Tryz.underlying31 infoInt rfl (by decide) (by decide) t53 0 [] o1 (by rfl) (.slice AC C.length cC) _ _ (HSC.out wc hkI) (by rfl) (by omega) hkI.size ?_
                    intro v' w6 ho6 hk6 hat6
                    rw [List.nil_append, Nat.zero_add] at ho6
                    show K' (Act.put _ (some 56) _) _
                    simp only [Act.put, List.setIfInBounds_toArray, List.set_cons_zero, List.set_cons_succ]
                    exact hK' _ _ (hK _ _ ⟨_, _, _, _, _, _, _, _, _, _, _, _, _, _, _, _, _, _, _, _, _, rfl, by simp only [Act.put, List.setIfInBounds_toArray, List.set_cons_zero, List.set_cons_succ], hI.s3 ho6 hk6 hat6⟩)
                  · obtain rfl : l4 = false := hf
                    clear hd
                    simp only [Act.put, List.setIfInBounds_toArray, List.set_cons_zero, List.set_cons_succ]
                    refine wpOp_step rfl (fun K' hK' => ?_)
                    go_simp
                    exact hK' _ _ (hK _ _ ⟨_, _, _, _, _, _, _, _, _, _, _, _, _, _, _, _, _, _, _, _, _, rfl, by simp only [Act.put, List.setIfInBounds_toArray, List.set_cons_zero, List.set_cons_succ], hI.s4⟩)
                  · obtain rfl : l5 = false := hf
                    clear hd
                    simp only [Act.put, List.setIfInBounds_toArray, List.set_cons_zero, List.set_cons_succ]
                    refine wpOp_step rfl (fun K' hK' => ?_)
                    go_simp
                    exact hK' _ _ (hK _ _ ⟨_, _, _, _, _, _, _, _, _, _, _, _, _, _, _, _, _, _, _, _, _, rfl, by simp only [Act.put, List.setIfInBounds_toArray, List.set_cons_zero, List.set_cons_succ], hI.s5⟩)
                  · obtain rfl : l6 = false := hf
                    have hd' := hd _ rfl
                    obtain rfl : l5 = true := by first | exact hd' 0 (by decide) | exact hd' 1 (by decide) | exact hd' 2 (by decide) | exact hd' 3 (by decide) | exact hd' 4 (by decide) | exact hd' 5 (by decide) | exact hd' 6 (by decide) | exact hd' 7 (by decide) | exact hd' 8 (by decide) | exact hd' 9 (by decide) | exact hd' 10 (by decide)
                    clear hd'
                    clear hd
                    have e1 := hI.a5 rfl
                    subst e1
                    obtain ⟨y0, y1⟩ := cells2 (hI.k.blk (HX5.out.blk HS1.out (fun h => h)) (fun h => h))
                    have ul := blkLt (hI.k.blk (HX5.out.blk HS1.out (fun h => h)) (fun h => h))
                    simp only [Act.put, List.setIfInBounds_toArray, List.set_cons_zero, List.set_cons_succ]
                    refine wpOp_step rfl (fun K' hK' => ?_)
                    go_simp
                    exact hK' _ _ (hK _ _ ⟨_, _, _, _, _, _, _, _, _, _, _, _, _, _, _, _, _, _, _, _, _, rfl, by simp only [Act.put, List.setIfInBounds_toArray, List.set_cons_zero, List.set_cons_succ], hI.s6⟩)
                  · obtain rfl : l7 = false := hf
                    have hd' := hd _ rfl
                    obtain rfl : l4 = true := by first | exact hd' 0 (by decide) | exact hd' 1 (by decide) | exact hd' 2 (by decide) | exact hd' 3 (by decide) | exact hd' 4 (by decide) | exact hd' 5 (by decide) | exact hd' 6 (by decide) | exact hd' 7 (by decide) | exact hd' 8 (by decide) | exact hd' 9 (by decide) | exact hd' 10 (by decide)
                    obtain rfl : l6 = true := by first | exact hd' 0 (by decide) | exact hd' 1 (by decide) | exact hd' 2 (by decide) | exact hd' 3 (by decide) | exact hd' 4 (by decide) | exact hd' 5 (by decide) | exact hd' 6 (by decide) | exact hd' 7 (by decide) | exact hd' 8 (by decide) | exact hd' 9 (by decide) | exact hd' 10 (by decide)
                    clear hd'
                    clear hd
                    have e2 := hI.a6 rfl
                    subst e2
                    have o1 : OwnInts wc w5.heap.size t57 [] := hI.r2 _ _ rfl
                    have hkI := hI.k
                    simp only [Act.put, List.setIfInBounds_toArray, List.set_cons_zero, List.set_cons_succ]
                    refine wpOp_step rfl (fun K' hK' => ?_)
                    refine step_appH (by rfl) _ _ 31 31 (by rfl) w5.heap.size 3 (.int .i64 0) 1 8 Tryz.underlying31 infoInt rfl (by decide) (by decide) t57 0 [] o1 (by rfl) (.slice AR R.length cR) _ _ (HSR.out wc hkI) (by rfl) (by omega) hkI.size ?_
                    intro v' w6 ho6 hk6 hat6
                    rw [List.nil_append, Nat.zero_add] at ho6
                    show K' (Act.put _ (some 60) _) _
                    simp only [Act.put, List.setIfInBounds_toArray, List.set_cons_zero, List.set_cons_succ]
                    exact hK' _ _ (hK _ _ ⟨_, _, _, _, _, _, _, _, _, _, _, _, _, _, _, _, _, _, _, _, _, rfl, by simp only [Act.put, List.setIfInBounds_toArray, List.set_cons_zero, List.set_cons_succ], hI.s7 ho6 hk6 hat6⟩)
                  · obtain rfl : l8 = false := hf
                    have hd' := hd _ rfl
                    obtain rfl : l3 = true := by first | exact hd' 0 (by decide) | exact hd' 1 (by decide) | exact hd' 2 (by decide) | exact hd' 3 (by decide) | exact hd' 4 (by decide) | exact hd' 5 (by decide) | exact hd' 6 (by decide) | exact hd' 7 (by decide) | exact hd' 8 (by decide) | exact hd' 9 (by decide) | exact hd' 10 (by decide)
                    obtain rfl : l7 = true := by first | exact hd' 0 (by decide) | exact hd' 1 (by decide) | exact hd' 2 (by decide) | exact hd' 3 (by decide) | exact hd' 4 (by decide) | exact hd' 5 (by decide) | exact hd' 6 (by decide) | exact hd' 7 (by decide) | exact hd' 8 (by decide) | exact hd' 9 (by decide) | exact hd' 10 (by decide)
                    clear hd'
                    clear hd
                    obtain rfl : l0 = true := hI.d3 rfl
                    obtain rfl : l4 = true := hI.d7 rfl
                    obtain ⟨A1, d1, rfl, -⟩ := ownSl (hI.r1 _ _ rfl)
                    obtain ⟨A2, d2, rfl, -⟩ := ownSl (hI.r2 _ _ rfl)
                    simp only [Act.put, List.setIfInBounds_toArray, List.set_cons_zero, List.set_cons_succ]
                    refine wpOp_step rfl (fun K' hK' => ?_)
                    go_simp
                    exact hK' _ _ (hK _ _ ⟨_, _, _, _, _, _, _, _, _, _, _, _, _, _, _, _, _, _, _, _, _, rfl, by simp only [Act.put, List.setIfInBounds_toArray, List.set_cons_zero, List.set_cons_succ], hI.s8⟩)
                  · obtain rfl : l9 = false := hf
                    clear hd
                    simp only [Act.put, List.setIfInBounds_toArray, List.set_cons_zero, List.set_cons_succ]
                    refine wpOp_step rfl (fun K' hK' => ?_)
                    go_simp
                    exact hK' _ _ (hK _ _ ⟨_, _, _, _, _, _, _, _, _, _, _, _, _, _, _, _, _, _, _, _, _, rfl, by simp only [Act.put, List.setIfInBounds_toArray, List.set_cons_zero, List.set_cons_succ], hI.s9⟩)
                  · obtain rfl : l10 = false := hf
                    have hd' := hd _ rfl
                    obtain rfl : l8 = true := by first | exact hd' 0 (by decide) | exact hd' 1 (by decide) | exact hd' 2 (by decide) | exact hd' 3 (by decide) | exact hd' 4 (by decide) | exact hd' 5 (by decide) | exact hd' 6 (by decide) | exact hd' 7 (by decide) | exact hd' 8 (by decide) | exact hd' 9 (by decide) | exact hd' 10 (by decide)
                    obtain rfl : l9 = true := by first | exact hd' 0 (by decide) | exact hd' 1 (by decide) | exact hd' 2 (by decide) | exact hd' 3 (by decide) | exact hd' 4 (by decide) | exact hd' 5 (by decide) | exact hd' 6 (by decide) | exact hd' 7 (by decide) | exact hd' 8 (by decide) | exact hd' 9 (by decide) | exact hd' 10 (by decide)
                    clear hd'
                    clear hd
                    obtain ⟨rfl, rfl⟩ := hI.d8 rfl
                    obtain rfl : l0 = true := hI.d3 rfl
                    obtain rfl : l4 = true := hI.d7 rfl
                    obtain ⟨A1, d1, rfl, -⟩ := ownSl (hI.r1 _ _ rfl)
                    obtain ⟨A2, d2, rfl, -⟩ := ownSl (hI.r2 _ _ rfl)
                    obtain ⟨g, rfl, -, hb⟩ := hI.a9 rfl
                    have e8 := hI.a8 rfl
                    subst e8
                    rw [if_neg (by decide)] at hb
                    obtain ⟨x0, x1⟩ := cells2 hb
                    have f0 := blkFree hb 0
                    have f1 := blkFree hb 1
                    have ul := blkLt hb
                    clear hb
                    simp only [Act.put, List.setIfInBounds_toArray, List.set_cons_zero, List.set_cons_succ]
                    refine wpOp_step rfl (fun K' hK' => ?_)
                    go_simp
                    exact hK' _ _ (hK _ _ ⟨_, _, _, _, _, _, _, _, _, _, _, _, _, _, _, _, _, _, _, _, _, rfl, by simp only [Act.put, List.setIfInBounds_toArray, List.set_cons_zero, List.set_cons_succ], hI.s10⟩)
          · have q2 : ¬ kind = 0 := by omega
            have q3 : ¬ kind = 1 := by omega
            have q0 : (kind != 0) = true := by simp [q2]
            have q1 : (kind != 1) = true := by simp [q3]
            go_wp2_with fail
            refine (HAW.out w5 HK5.out).mono ?_
            rintro e w9 ⟨rfl, hk9⟩
            go_wp2_with fail
            go_ret
            exact ⟨rfl, HK5.out.then_ hk9⟩
end Go.Proofs.YthiclhbnggehoaaGreatDoor
