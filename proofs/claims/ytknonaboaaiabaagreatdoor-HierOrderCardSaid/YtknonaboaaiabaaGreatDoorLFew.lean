/- The law's few. -/
import Derived.Test.YtknonaboaaiabaaGreatDoorR2
namespace Go.Proofs.YtknonaboaaiabaaGreatDoor
open Go.RowKit
set_option linter.unusedVariables false
set_option linter.unusedSimpArgs false
set_option maxRecDepth 100000 in
set_option maxHeartbeats 4000000 in
theorem fewLaw_calls (b : Kb) (p : KbA) (more : List Con) (ok : Nat → Prop) (A : Option Addr) (cap : Nat) (w : World) (hb : KbR ok w b p) (hl : ConsAt ok w more A) (hn : more.length ≤ 4611686018427387904) :
    Calls Tryz.prog 20 #[.agg #[.slice p.a0 b.cs.length p.c0, .slice p.a1 b.rs.length p.c1, .slice p.a2 b.is.length p.c2, .slice p.a3 b.incls.length p.c3, .slice p.a4 b.roles.length p.c4, .slice p.a5 b.facts.length p.c5, .slice p.a6 b.links.length p.c6], .slice A more.length cap] w fun e w' => e = .returned (.bool (fewLawB b more)) ∧ Keeps (fun _ => False) w w' := by
  have HFK := Lib.hid (fun W (hk : Keeps (fun _ => False) w W) => fewKb_calls b p ok W (hb.keep hk (fun _ _ h => h)))
  have HV : Hid (fewLawB b more = (fitAll (more.drop 0) && (fewB b && decide (more.length ≤ 6)))) := rfl
  have HL := Lib.hid hl.lim
  generalize fewLawB b more = fv at *
  generalize fewB b = kv at *
  obtain ⟨a0, a1, a2, a3, a4, a5, a6, c0, c1, c2, c3, c4, c5, c6⟩ := p
  dsimp only at HFK ⊢
  clear hb hl
  go_enter Tryz.func20, Tryz.ntmps20
  go_wp2_with fail
  generalize hW0 : World.alloc _ _ = W0
  have hK0 : Keeps (fun _ => False) w W0 := by rw [← hW0]; repeat (first | exact Keeps.refl _ _ | refine Keeps.drewN ?_ _ | refine Keeps.drew ?_ | refine Keeps.alloc ?_ _ | refine Keeps.set ?_ (Or.inl (by rfl)) _)
  have hb0 : W0.heap[w.heap.size]? = some (.cells #[.slice a0 b.cs.length c0, .slice a1 b.rs.length c1, .slice a2 b.is.length c2, .slice a3 b.incls.length c3, .slice a4 b.roles.length c4, .slice a5 b.facts.length c5, .slice a6 b.links.length c6] 30 (0, 0)) := by rw [← hW0]; exact blkNew rfl
  clear hW0
  have HB0 := Lib.hid hb0
  clear hb0
  go_loopw [9] (fun i wr => ∃ k : Nat, k ≤ more.length ∧ i = .int .i64 k ∧ Hid (fv = (fitAll (more.drop k) && (kv && decide (more.length ≤ 6)))) ∧ Keeps (fun _ => False) W0 wr) (fun i _ => more.length - (intOf i).toNat)
  case atStart => exact ⟨0, Nat.zero_le _, rfl, HV, Keeps.refl _ _⟩
  case round =>
    obtain ⟨k, hk, rfl, HI, HK⟩ := hrel
    by_cases hlt : k < more.length
    · obtain ⟨bb, o, A', cap', rfl, hob, hbl, e0, e1, e2, hc⟩ := (HL.out.keep (hK0.then_ HK) (fun _ _ h => h)).get k hlt
      have HDR : Hid (fitAll (more.drop k) = (decide (more[k].size ≤ 500) && fitAll (more.drop (k + 1)))) := all_drop _ more k hlt
      generalize more[k] = d at *
      have HFIT := Lib.hid (fun W (hkw : Keeps (fun _ => False) wr W) => fits_calls d A' cap' _ W 500 (by omega) (by omega) (hc.keep hkw (fun _ _ h => h)))
      clear hc
      go_wp2_with fail
      refine (HFIT.out _ (by repeat (first | exact Keeps.refl _ _ | refine Keeps.drewN ?_ _ | refine Keeps.drew ?_ | refine Keeps.alloc ?_ _ | refine Keeps.set ?_ (Or.inl (by rfl)) _))).mono ?_
      clear HFIT
      rintro e w5 ⟨rfl, hk5⟩
      by_cases hs : d.size ≤ 500
      · have q1 : decide ((d.size : Int) ≤ 500) = true := by simp; omega
        have HO : Hid (fv = (fitAll (more.drop (k + 1)) && (kv && decide (more.length ≤ 6)))) := by unfold Hid; rw [HI.out, HDR.out, decide_eq_true hs]; rfl
        clear hs HI HDR
        go_wp2_with fail
        go_roundw
        case rel => exact ⟨k + 1, by omega, by go_num, HO, (HK.alloc _).then_ hk5⟩
        case measure => simp [intOf]; omega
      · have q1 : decide ((d.size : Int) ≤ 500) = false := by simp; omega
        have HO : Hid (fv = false) := by unfold Hid; rw [HI.out, HDR.out, decide_eq_false hs]; rfl
        clear hs HI HDR
        go_wp2_with fail
        go_ret
        exact ⟨by rw [HO.out]; rfl, (hK0.then_ (HK.alloc _)).then_ hk5⟩
    · obtain rfl : more.length = k := by omega
      have HV2 : Hid (fv = (kv && decide (more.length ≤ 6))) := by unfold Hid; rw [HI.out, List.drop_length]; rfl
      obtain ⟨x0, x1, x2, x3, x4, x5, x6⟩ := cells7 (HK.blk HB0.out (fun h => h))
      have h6 : decide ((more.length : Int) ≤ 6) = decide (more.length ≤ 6) := by congr 1; apply propext; omega
      have HKF := Lib.hid (HFK.out wr (hK0.then_ HK))
      clear HI HFK hlt hk
      go_wp2_with fail
      refine HKF.out.mono ?_
      clear HKF
      rintro e w5 ⟨rfl, hk5⟩
      cases kv
      · have HO : Hid (fv = false) := by unfold Hid; rw [HV2.out]; rfl
        clear HV2
        go_wp2_with fail
        go_ret
        exact ⟨by rw [HO.out]; rfl, (hK0.then_ HK).then_ hk5⟩
      · have HO : Hid (fv = decide (more.length ≤ 6)) := by unfold Hid; rw [HV2.out]; rfl
        have H6 := Lib.hid h6
        clear HV2 h6
        go_wp2_with fail
        go_ret
        exact ⟨by rw [HO.out, ← H6.out]; rfl, (hK0.then_ HK).then_ hk5⟩
end Go.Proofs.YtknonaboaaiabaaGreatDoor
