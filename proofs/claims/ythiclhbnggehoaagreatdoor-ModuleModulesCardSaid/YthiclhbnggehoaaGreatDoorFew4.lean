/- isagogeref02.Few at 400 nodes (printed out of XR2's text at 500 by gen_few4.py). -/
import Derived.Test.YthiclhbnggehoaaGreatDoorR2
import Derived.Test.YthiclhbnggehoaaGreatDoorRising
import Derived.Test.YthiclhbnggehoaaGreatDoorKnow
import Derived.Test.YthiclhbnggehoaaGreatDoorModule
namespace Go.Proofs.YthiclhbnggehoaaGreatDoor
open Go.RowKit
set_option linter.unusedVariables false
set_option linter.unusedSimpArgs false
def fitAll4 (l : List Con) : Bool := l.all fun c => decide (c.size ≤ 400)
def few4B (b : Kb) : Bool := decide (b.incls.length ≤ 200) && (decide (b.roles.length ≤ 200) && (decide (b.facts.length ≤ 200) && (decide (b.links.length ≤ 200) && (fewNamesR b.cs b.rs b.is && (fitAll4 (conceptsC b) && decide (Con.sizes (conceptsC b) ≤ 400))))))
set_option maxRecDepth 100000 in
set_option maxHeartbeats 4000000 in
theorem few4_calls (b : Kb) (p : KbA) (ok : Nat → Prop) (w : World) (hb : KbR ok w b p) :
    Calls Tryz.prog 31 #[.agg #[.slice p.a0 b.cs.length p.c0, .slice p.a1 b.rs.length p.c1, .slice p.a2 b.is.length p.c2, .slice p.a3 b.incls.length p.c3, .slice p.a4 b.roles.length p.c4, .slice p.a5 b.facts.length p.c5, .slice p.a6 b.links.length p.c6], .int .i64 400] w fun e w' => e = .returned (.bool (few4B b)) ∧ Keeps (fun _ => False) w w' := by
  have HFN := Lib.hid (fun W (hk : Keeps (fun _ => False) w W) => fewNames_calls b.cs b.rs b.is ok p.a0 p.a1 p.a2 p.c0 p.c1 p.c2 W (hb.cs.keep hk (fun _ _ h => h)) (hb.rs.keep hk (fun _ _ h => h)) (hb.is.keep hk (fun _ _ h => h)) hb.l0 hb.l1 hb.l2)
  have HCO := Lib.hid (fun W (hk : Keeps (fun _ => False) w W) => concepts_calls b p ok W (hb.keep hk (fun _ _ h => h)))
  have HV : Hid (few4B b = (decide (b.incls.length ≤ 200) && (decide (b.roles.length ≤ 200) && (decide (b.facts.length ≤ 200) && (decide (b.links.length ≤ 200) && (fewNamesR b.cs b.rs b.is && (fitAll4 (conceptsC b) && decide (Con.sizes (conceptsC b) ≤ 400)))))))) := rfl
  unfold RetCons at HCO
  generalize few4B b = fv at *
  generalize fewNamesR b.cs b.rs b.is = fn at *
  have hcl : (conceptsC b).length = 2 * b.incls.length + b.facts.length := by simp [conceptsC, pairL_len]
  generalize conceptsC b = cl at *
  obtain ⟨a0, a1, a2, a3, a4, a5, a6, c0, c1, c2, c3, c4, c5, c6⟩ := p
  dsimp only at HFN HCO ⊢
  clear hb
  by_cases h3 : b.incls.length ≤ 200
  · have d3 : decide (200 < (b.incls.length : Int)) = false := by simp; omega
    by_cases h4 : b.roles.length ≤ 200
    · have d4 : decide (200 < (b.roles.length : Int)) = false := by simp; omega
      by_cases h5 : b.facts.length ≤ 200
      · have d5 : decide (200 < (b.facts.length : Int)) = false := by simp; omega
        by_cases h6 : b.links.length ≤ 200
        · have d6 : decide (200 < (b.links.length : Int)) = false := by simp; omega
          have hcl2 : cl.length ≤ 1000 := by omega
          clear hcl
          have HV2 : Hid (fv = (fn && (fitAll4 cl && decide (Con.sizes cl ≤ 400)))) := by unfold Hid; rw [HV.out, decide_eq_true h3, decide_eq_true h4, decide_eq_true h5, decide_eq_true h6]; rfl
          clear HV
          go_enter Tryz.func31, Tryz.ntmps31
          go_wp2_with fail
          generalize hW0 : World.alloc _ _ = W0
          have hK0 : Keeps (fun _ => False) w W0 := by rw [← hW0]; repeat (first | exact Keeps.refl _ _ | refine Keeps.drewN ?_ _ | refine Keeps.drew ?_ | refine Keeps.alloc ?_ _ | refine Keeps.set ?_ (Or.inl (by rfl)) _)
          have hB0 : W0.heap[w.heap.size]? = some (.cells #[.slice a0 b.cs.length c0, .slice a1 b.rs.length c1, .slice a2 b.is.length c2, .slice a3 b.incls.length c3, .slice a4 b.roles.length c4, .slice a5 b.facts.length c5, .slice a6 b.links.length c6] 30 (0, 0)) := by rw [← hW0]; exact blkNew rfl
          clear hW0
          refine (HFN.out W0 hK0).mono ?_
          clear HFN
          rintro e w1 ⟨rfl, hk1⟩
          have hK1 := hK0.then_ hk1
          obtain ⟨x0, x1, x2, x3, x4, x5, x6⟩ := cells7 (hk1.blk hB0 (fun h => h))
          clear hB0
          cases fn
          · have HO : Hid (fv = false) := by unfold Hid; rw [HV2.out]; rfl
            clear HV2 HCO
            go_wp2_with fail
            go_ret
            exact ⟨by rw [HO.out]; rfl, hK1⟩
          · have HV3 : Hid (fv = (fitAll4 cl && decide (Con.sizes cl ≤ 400))) := by unfold Hid; rw [HV2.out]; rfl
            clear HV2
            go_wp2_with fail
            refine (HCO.out w1 hK1 (by omega) (by omega)).mono ?_
            clear HCO
            rintro e w2 ⟨v, vs, rfl, ho, hr, hk2⟩
            obtain ⟨AA, capA, rfl, hca⟩ := retRow ho hr
            have HCA := Lib.hid hca
            have hK2 := hK1.then_ hk2
            clear ho hr hca x0 x1 x2 x3 x4 x5 x6 d3 d4 d5 d6
            go_wp2_with fail
            go_loopw [5, 41] (fun nv i wr => ∃ (k : Nat) (x : Int), k ≤ cl.length ∧ nv = .int .i64 x ∧ i = .int .i64 k ∧ Hid (fitAll4 cl = fitAll4 (cl.drop k)) ∧ Hid (x = Con.sizes (cl.take k)) ∧ 0 ≤ x ∧ x ≤ 400 * k ∧ Keeps (fun _ => False) w2 wr) (fun _ i _ => cl.length - (intOf i).toNat)
            case atStart => exact ⟨0, 0, Nat.zero_le _, rfl, rfl, rfl, by unfold Hid; simp [Con.sizes], by omega, by omega, Keeps.refl _ _⟩
            case round =>
              obtain ⟨k, x, hk, rfl, rfl, HI, HX, hx0, hx1, HK⟩ := hrel
              have hk1000 : k ≤ 1000 := by omega
              by_cases hlt : k < cl.length
              · obtain ⟨bb, o, A', cap', rfl, hob, hbl, e0, e1, e2, hc⟩ := (HCA.out.lim.keep HK (fun _ _ h => h)).get k hlt
                have HSS := Lib.hid (sizes_succ cl k hlt)
                have HFA : Hid (fitAll4 (cl.drop k) = (decide (cl[k].size ≤ 400) && fitAll4 (cl.drop (k + 1)))) := all_drop _ cl k hlt
                generalize cl[k] = d at *
                have HC := Lib.hid hc
                have HFIT := Lib.hid (fun W (hkw : Keeps (fun _ => False) wr W) => fits_calls d A' cap' _ W 400 (by omega) (by omega) (HC.out.keep hkw (fun _ _ h => h)))
                have HSIZ := Lib.hid (fun W (hkw : Keeps (fun _ => False) wr W) (h : d.size ≤ 400) => size_calls (d.size + 1) d A' cap' _ W (by omega) (by omega) (HC.out.keep hkw (fun _ _ h => h)))
                clear hc
                generalize depthC d = dd at *
                go_wp2_with fail
                generalize hW4 : World.alloc _ _ = W4
                have hK4 : Keeps (fun _ => False) wr W4 := by rw [← hW4]; repeat (first | exact Keeps.refl _ _ | refine Keeps.drewN ?_ _ | refine Keeps.drew ?_ | refine Keeps.alloc ?_ _ | refine Keeps.set ?_ (Or.inl (by rfl)) _)
                have hb4 : W4.heap[wr.heap.size]? = some (.cells #[.int .i64 d.op, .int .i64 d.n, .slice A' d.args.length cap'] 37 (0, 0)) := by rw [← hW4]; exact blkNew rfl
                clear hW4
                refine (HFIT.out W4 hK4).mono ?_
                clear HFIT
                rintro e w5 ⟨rfl, hk5⟩
                obtain ⟨y0, y1, y2⟩ := cells3 (hk5.blk hb4 (fun h => h))
                by_cases hs : d.size ≤ 400
                · have q1 : decide ((d.size : Int) ≤ 400) = true := by simp; omega
                  have HS2 := Lib.hid (HSIZ.out w5 (hK4.then_ hk5) hs)
                  have hxs : x + d.size ≤ 400 * (k + 1) := by omega
                  have hx9 : 0 ≤ x + (d.size : Int) := by omega
                  have HI2 : Hid (fitAll4 cl = fitAll4 (cl.drop (k + 1))) := by unfold Hid; rw [HI.out, HFA.out, decide_eq_true hs]; rfl
                  clear HSIZ hs HI HFA
                  generalize hds : (d.size : Int) = ds at *
                  have HDS := Lib.hid hds
                  clear hds
                  go_wp2_with fail
                  refine HS2.out.mono ?_
                  clear HS2
                  rintro e w6 ⟨rfl, hk6⟩
                  go_wp2_with fail
                  go_roundw
                  case rel => exact ⟨k + 1, x + ds, by omega, by go_num, by go_num, HI2, by unfold Hid; have := HX.out; have := HDS.out; rw [HSS.out]; push_cast; omega, by omega, by push_cast; omega, ((HK.then_ hK4).then_ hk5).then_ hk6⟩
                  case measure => simp [intOf]; omega
                · have q1 : decide ((d.size : Int) ≤ 400) = false := by simp; omega
                  have HO : Hid (fv = false) := by unfold Hid; rw [HV3.out, HI.out, HFA.out, decide_eq_false hs]; rfl
                  clear HSIZ hs HI HFA HV3
                  go_wp2_with fail
                  go_ret
                  exact ⟨by rw [HO.out]; rfl, ((hK2.then_ HK).then_ hK4).then_ hk5⟩
              · obtain rfl : k = cl.length := by omega
                have hXX := HX.out
                rw [List.take_length] at hXX
                have HO : Hid (fv = decide (x ≤ 400)) := by
                  unfold Hid
                  rw [HV3.out, HI.out, List.drop_length, hXX]
                  simp [fitAll4]
                  omega
                clear HV3 HI HX hXX
                go_wp2_with fail
                go_ret
                exact ⟨by rw [HO.out]; rfl, hK2.then_ HK⟩
        · have d6 : decide (200 < (b.links.length : Int)) = true := by simp; omega
          have HO : Hid (fv = false) := by unfold Hid; rw [HV.out, decide_eq_true h3, decide_eq_true h4, decide_eq_true h5, decide_eq_false h6]; rfl
          clear HV HFN HCO hcl h3 h4 h5 h6
          go_enter Tryz.func31, Tryz.ntmps31
          go_wp2_with fail
          go_ret
          exact ⟨by rw [HO.out]; rfl, by repeat (first | exact Keeps.refl _ _ | refine Keeps.drewN ?_ _ | refine Keeps.drew ?_ | refine Keeps.alloc ?_ _ | refine Keeps.set ?_ (Or.inl (by rfl)) _)⟩
      · have d5 : decide (200 < (b.facts.length : Int)) = true := by simp; omega
        have HO : Hid (fv = false) := by unfold Hid; rw [HV.out, decide_eq_true h3, decide_eq_true h4, decide_eq_false h5]; rfl
        clear HV HFN HCO hcl h3 h4 h5
        go_enter Tryz.func31, Tryz.ntmps31
        go_wp2_with fail
        go_ret
        exact ⟨by rw [HO.out]; rfl, by repeat (first | exact Keeps.refl _ _ | refine Keeps.drewN ?_ _ | refine Keeps.drew ?_ | refine Keeps.alloc ?_ _ | refine Keeps.set ?_ (Or.inl (by rfl)) _)⟩
    · have d4 : decide (200 < (b.roles.length : Int)) = true := by simp; omega
      have HO : Hid (fv = false) := by unfold Hid; rw [HV.out, decide_eq_true h3, decide_eq_false h4]; rfl
      clear HV HFN HCO hcl h3 h4
      go_enter Tryz.func31, Tryz.ntmps31
      go_wp2_with fail
      go_ret
      exact ⟨by rw [HO.out]; rfl, by repeat (first | exact Keeps.refl _ _ | refine Keeps.drewN ?_ _ | refine Keeps.drew ?_ | refine Keeps.alloc ?_ _ | refine Keeps.set ?_ (Or.inl (by rfl)) _)⟩
  · have d3 : decide (200 < (b.incls.length : Int)) = true := by simp; omega
    have HO : Hid (fv = false) := by unfold Hid; rw [HV.out, decide_eq_false h3]; rfl
    clear HV HFN HCO hcl h3
    go_enter Tryz.func31, Tryz.ntmps31
    go_wp2_with fail
    go_ret
    exact ⟨by rw [HO.out]; rfl, by repeat (first | exact Keeps.refl _ _ | refine Keeps.drewN ?_ _ | refine Keeps.drew ?_ | refine Keeps.alloc ?_ _ | refine Keeps.set ?_ (Or.inl (by rfl)) _)⟩
end Go.Proofs.YthiclhbnggehoaaGreatDoor
/- isagogelaw19.looked: the bounds of the laws. -/
namespace Go.Proofs.YthiclhbnggehoaaGreatDoor
open Go.RowKit
set_option linter.unusedVariables false
set_option linter.unusedSimpArgs false
/-- Signatures in a row: only how long their slices are is asked. -/
def SigsL (w : World) (ls : List (Nat × Nat)) (g o : Nat) : Prop := ∀ i (h : i < ls.length), ∃ A1 c1 A2 c2, w.cell? ⟨g, o + i * 2, none⟩ = some (.slice A1 ls[i].1 c1) ∧ w.cell? ⟨g, o + i * 2 + 1, none⟩ = some (.slice A2 ls[i].2 c2)
def shortB (x : Nat × Nat) : Bool := decide (x.1 ≤ 100) && decide (x.2 ≤ 100)
theorem all_dropS {l : List (Nat × Nat)} {k : Nat} (h : k < l.length) : (l.drop k).all shortB = (shortB l[k] && (l.drop (k + 1)).all shortB) := by rw [List.drop_eq_getElem_cons h]; rfl
def lookedB (b : Kb) (c : Con) (ls : List (Nat × Nat)) : Bool := ls.all shortB && (few4B b && decide (c.size ≤ 400))
set_option maxRecDepth 100000 in
set_option maxHeartbeats 4000000 in
theorem looked_calls (b : Kb) (p : KbA) (c : Con) (A : Option Addr) (cap : Nat) (ls : List (Nat × Nat)) (g o cl : Nat) (ok : Nat → Prop) (w : World) (hb : KbR ok w b p) (hc : ConR ok w c [.int .i64 c.op, .int .i64 c.n, .slice A c.args.length cap]) (hl : SigsL w ls g o) (hll : ls.length ≤ 10) (hg : g < w.heap.size) :
    Calls Tryz.prog 7 #[.agg #[.slice p.a0 b.cs.length p.c0, .slice p.a1 b.rs.length p.c1, .slice p.a2 b.is.length p.c2, .slice p.a3 b.incls.length p.c3, .slice p.a4 b.roles.length p.c4, .slice p.a5 b.facts.length p.c5, .slice p.a6 b.links.length p.c6], .agg #[.int .i64 c.op, .int .i64 c.n, .slice A c.args.length cap], .slice (some ⟨g, o, none⟩) ls.length cl] w fun e w' => e = .returned (.bool (lookedB b c ls)) ∧ Keeps (fun _ => False) w w' := by
  have HF : Hid (∀ W, Keeps (fun _ => False) w W → Calls Tryz.prog 31 #[.agg #[.slice p.a0 b.cs.length p.c0, .slice p.a1 b.rs.length p.c1, .slice p.a2 b.is.length p.c2, .slice p.a3 b.incls.length p.c3, .slice p.a4 b.roles.length p.c4, .slice p.a5 b.facts.length p.c5, .slice p.a6 b.links.length p.c6], .int .i64 400] W fun e w' => e = .returned (.bool (few4B b)) ∧ Keeps (fun _ => False) W w') := fun W h => few4_calls b p ok W (hb.keep h (fun _ _ h => h))
  have HT : Hid (∀ W, Keeps (fun _ => False) w W → Calls Tryz.prog 32 #[.agg #[.int .i64 c.op, .int .i64 c.n, .slice A c.args.length cap], .int .i64 400] W fun e w' => e = .returned (.bool (decide (c.size ≤ 400))) ∧ Keeps (fun _ => False) W w') := fun W h => by
    have h2 := fits_calls c A cap ok W 400 (by omega) (by omega) (hc.keep h (fun _ _ h => h))
    have e : decide ((c.size : Int) ≤ 400) = decide (c.size ≤ 400) := by congr 1; apply propext; omega
    rw [e] at h2; exact h2
  obtain ⟨rv, hrv⟩ : ∃ rv, rv = lookedB b c ls := ⟨_, rfl⟩
  rw [← hrv]
  unfold lookedB at hrv
  have HV : Hid (rv = ((ls.drop 0).all shortB && (few4B b && decide (c.size ≤ 400)))) := by unfold Hid; rw [List.drop_zero]; exact hrv
  have HL := Lib.hid hl
  clear hb hc hrv hl
  generalize few4B b = f1 at *
  generalize decide (c.size ≤ 400) = f2 at *
  obtain ⟨a0, a1, a2, a3, a4, a5, a6, c0, c1, c2, c3, c4, c5, c6⟩ := p
  obtain ⟨op, n, args⟩ := c
  simp only [Con.op, Con.n, Con.args] at HF HT ⊢
  go_enter Tryz.func7, Tryz.ntmps7
  go_wp2_with fail
  generalize hW0 : World.alloc _ _ = W0
  have hk0 : Keeps (fun _ => False) w W0 := by rw [← hW0]; repeat (first | exact Keeps.refl _ _ | refine Keeps.drewN ?_ _ | refine Keeps.drew ?_ | refine Keeps.alloc ?_ _ | refine Keeps.set ?_ (Or.inl (by rfl)) _)
  have hb1 : W0.heap[w.heap.size]? = some (.cells #[.slice a0 b.cs.length c0, .slice a1 b.rs.length c1, .slice a2 b.is.length c2, .slice a3 b.incls.length c3, .slice a4 b.roles.length c4, .slice a5 b.facts.length c5, .slice a6 b.links.length c6] 30 (0, 0)) := by rw [← hW0]; exact blkAlloc (blkNew rfl) _
  have hb2 : W0.heap[w.heap.size + 1]? = some (.cells #[.int .i64 op, .int .i64 n, .slice A args.length cap] 37 (0, 0)) := by rw [← hW0]; exact blkNew (by simp)
  clear hW0
  have HB1 := Lib.hid hb1
  have HB2 := Lib.hid hb2
  have HK0 := Lib.hid hk0
  have hz1 := blkLt hb1
  have hz2 := blkLt hb2
  clear hb1 hb2 hk0
  go_loopw [11] (fun i wr => ∃ k : Nat, k ≤ ls.length ∧ i = .int .i64 k ∧ Hid (rv = ((ls.drop k).all shortB && (f1 && f2))) ∧ Hid (Keeps (fun _ => False) W0 wr)) (fun i _ => ls.length - (intOf i).toNat)
  case atStart => exact ⟨0, Nat.zero_le _, rfl, HV.out, Keeps.refl _ _⟩
  case round =>
    obtain ⟨k, hk, rfl, HI, HK⟩ := hrel
    have hzr := HK.out.size
    by_cases hlt : k < ls.length
    · obtain ⟨A1, d1, A2, d2, z0, z1⟩ := HL.out k hlt
      have u0 := HK.out.cell (HK0.out.cell z0 (fun h => h)) (fun h => h)
      have u1 := HK.out.cell (HK0.out.cell z1 (fun h => h)) (fun h => h)
      have HST := Lib.hid (all_dropS hlt)
      have i1 : (k : Int) < ls.length := by omega
      generalize ls[k] = x at *
      obtain ⟨m1, m2⟩ := x
      simp only at z0 z1 u0 u1
      clear z0 z1
      by_cases h1 : m1 ≤ 100
      · have j1 : ¬ ((m1 : Int) > 100) := by omega
        by_cases h2 : m2 ≤ 100
        · have j2 : ¬ ((m2 : Int) > 100) := by omega
          have HO : Hid (rv = ((ls.drop (k + 1)).all shortB && (f1 && f2))) := by unfold Hid; rw [HI.out, HST.out]; simp [shortB, h1, h2]
          go_wp2_with fail
          go_roundw
          case rel =>
            first
              | exact ⟨k + 1, by omega, by go_num, HO.out, by refine Keeps.then_ HK.out ?_; repeat (first | exact Keeps.refl _ _ | refine Keeps.drewN ?_ _ | refine Keeps.drew ?_ | refine Keeps.alloc ?_ _ | refine Keeps.set ?_ (Or.inl (by rfl)) _)⟩
              | ((repeat apply Exists.intro); exact ⟨⟨k + 1, by omega, by go_num, HO.out, by refine Keeps.then_ HK.out ?_; repeat (first | exact Keeps.refl _ _ | refine Keeps.drewN ?_ _ | refine Keeps.drew ?_ | refine Keeps.alloc ?_ _ | refine Keeps.set ?_ (Or.inl (by rfl)) _)⟩, rfl⟩)
              | fail
          case measure => simp [intOf]; omega
        · have j2 : ((m2 : Int) > 100) := by omega
          have HO : Hid (rv = false) := by unfold Hid; rw [HI.out, HST.out]; simp [shortB, h2]
          go_wp2_with fail
          go_ret
          exact ⟨by rw [HO.out]; rfl, by refine Keeps.then_ (HK0.out.then_ HK.out) ?_; repeat (first | exact Keeps.refl _ _ | refine Keeps.drewN ?_ _ | refine Keeps.drew ?_ | refine Keeps.alloc ?_ _ | refine Keeps.set ?_ (Or.inl (by rfl)) _)⟩
      · have j1 : ((m1 : Int) > 100) := by omega
        have HO : Hid (rv = false) := by unfold Hid; rw [HI.out, HST.out]; simp [shortB, h1]
        go_wp2_with fail
        go_ret
        exact ⟨by rw [HO.out]; rfl, by refine Keeps.then_ (HK0.out.then_ HK.out) ?_; repeat (first | exact Keeps.refl _ _ | refine Keeps.drewN ?_ _ | refine Keeps.drew ?_ | refine Keeps.alloc ?_ _ | refine Keeps.set ?_ (Or.inl (by rfl)) _)⟩
    · obtain rfl : ls.length = k := by omega
      have HO : Hid (rv = (f1 && f2)) := by unfold Hid; rw [HI.out, List.drop_length]; simp
      obtain ⟨x0, x1, x2, x3, x4, x5, x6⟩ := cells7 (HK.out.blk HB1.out (fun h => h))
      have hlr : w.heap.size < wr.heap.size := by omega
      cases f1
      · go_wp2_with (go_at_call 31; refine (HF.out wr (HK0.out.then_ HK.out)).mono ?_; clear HF; rintro e w5 ⟨rfl, hk5⟩; have HK5 := Lib.hid hk5; clear hk5)
        go_ret
        exact ⟨by rw [HO.out]; rfl, (HK0.out.then_ HK.out).then_ HK5.out⟩
      · go_wp2_with (first | (go_at_call 31; refine (HF.out wr (HK0.out.then_ HK.out)).mono ?_; clear HF; rintro e w5 ⟨rfl, hk5⟩; have HK5 := Lib.hid hk5; obtain ⟨y0, y1, y2⟩ := cells3 (hk5.blk (HK.out.blk HB2.out (fun h => h)) (fun h => h)); have hl5 : w.heap.size + 1 < w5.heap.size := (by have := hk5.size; omega); clear hk5) | (go_at_call 32; refine (HT.out w5 ((HK0.out.then_ HK.out).then_ HK5.out)).mono ?_; clear HT; rintro e w6 ⟨rfl, hk6⟩; have HK6 := Lib.hid hk6; clear hk6) | fail)
        go_ret
        exact ⟨by rw [HO.out]; cases f2 <;> rfl, ((HK0.out.then_ HK.out).then_ HK5.out).then_ HK6.out⟩
end Go.Proofs.YthiclhbnggehoaaGreatDoor
/- isagogeref19: Sig, Subset. -/
namespace Go.Proofs.YthiclhbnggehoaaGreatDoor
open Go.RowKit
set_option linter.unusedVariables false
set_option linter.unusedSimpArgs false
def sigB (b : Kb) (C R : List Int) : Bool := risingB C b.cs.length && risingB R b.rs.length
set_option maxRecDepth 100000 in
set_option maxHeartbeats 4000000 in
theorem sig19_calls (b : Kb) (C R : List Int) (A0 A1 A2 AS BS : Option Addr) (c0 c1 c2 cS dS : Nat) (ok : Nat → Prop) (w : World) (hs : SigR ok w C R AS BS) (hC : C.length ≤ 1000000) (hR : R.length ≤ 1000000) :
    Calls Tryz.prog 11 #[.agg #[.slice A0 b.cs.length c0, .slice A1 b.rs.length c1, .slice A2 b.is.length c2], .agg #[.slice AS C.length cS, .slice BS R.length dS]] w (SaysB (sigB b C R) w) := by
  have H1 : Hid (∀ W, Keeps (fun _ => False) w W → Calls Tryz.prog 24 #[.slice AS C.length cS, .int .i64 b.cs.length] W (SaysB (risingB C b.cs.length) W)) := fun W h => refRising_calls C _ ok AS cS W (hs.c.keep h (fun _ _ h => h)) (by omega)
  have H2 : Hid (∀ W, Keeps (fun _ => False) w W → Calls Tryz.prog 24 #[.slice BS R.length dS, .int .i64 b.rs.length] W (SaysB (risingB R b.rs.length) W)) := fun W h => refRising_calls R _ ok BS dS W (hs.r.keep h (fun _ _ h => h)) (by omega)
  clear hs hC hR
  unfold sigB
  generalize risingB C b.cs.length = v1 at *
  generalize risingB R b.rs.length = v2 at *
  go_enter Tryz.func11, Tryz.ntmps11
  cases v1
  · go_wp2_with (go_at_call 24; refine (H1.out _ (by repeat (first | exact Keeps.refl _ _ | refine Keeps.drewN ?_ _ | refine Keeps.drew ?_ | refine Keeps.alloc ?_ _ | refine Keeps.set ?_ (Or.inl (by rfl)) _))).mono ?_; rintro e w2 ⟨rfl, hk2⟩; have HK2 := Lib.hid (Keeps.then_ (a := w) (by repeat (first | exact Keeps.refl _ _ | refine Keeps.drewN ?_ _ | refine Keeps.drew ?_ | refine Keeps.alloc ?_ _ | refine Keeps.set ?_ (Or.inl (by rfl)) _)) hk2); clear hk2)
    go_ret
    exact ⟨by simp, HK2.out⟩
  · go_wp2_with (first | ((with_reducible show Calls _ _ #[.slice AS _ _, _] _ _); go_at_call 24; refine (H1.out _ (by repeat (first | exact Keeps.refl _ _ | refine Keeps.drewN ?_ _ | refine Keeps.drew ?_ | refine Keeps.alloc ?_ _ | refine Keeps.set ?_ (Or.inl (by rfl)) _))).mono ?_; rintro e w2 ⟨rfl, hk2⟩; have HK2 := Lib.hid (Keeps.then_ (a := w) (by repeat (first | exact Keeps.refl _ _ | refine Keeps.drewN ?_ _ | refine Keeps.drew ?_ | refine Keeps.alloc ?_ _ | refine Keeps.set ?_ (Or.inl (by rfl)) _)) hk2); have hb1 := hk2.blk (blkNew (w := w.alloc _) rfl) (fun h => h); have hb0 := hk2.blk (blkAlloc (blkNew (w := w) rfl) _) (fun h => h); obtain ⟨x0, x1⟩ := cells2 (v0 := .slice AS C.length cS) (v1 := .slice BS R.length dS) (t := 33) (fz := (0, 0)) (g := w.heap.size + 1) (w := w2) (by have h := hb1; simp at h; exact h); obtain ⟨y0, y1, y2⟩ := cells3 hb0; have hl0 := blkLt hb0; have hl1 : w.heap.size + 1 < w2.heap.size := (by have h := blkLt hb1; simp at h; exact h); clear hk2 hb1 hb0) | (go_at_call 24; refine (H2.out w2 HK2.out).mono ?_; rintro e w3 ⟨rfl, hk3⟩; have HK3 := Lib.hid (HK2.out.then_ hk3); clear hk3) | fail)
    go_ret
    exact ⟨by simp, HK3.out⟩
set_option maxRecDepth 100000 in
set_option maxHeartbeats 4000000 in
theorem subset_calls (l m : List Int) (ok : Nat → Prop) (A B : Option Addr) (cl cm : Nat) (w : World) (hl : Row1 ok w (Value.int .i64) l A) (hm : Row1 ok w (Value.int .i64) m B) (hll : l.length ≤ 1000000) (hml : m.length ≤ 1000000) :
    Calls Tryz.prog 15 #[.slice A l.length cl, .slice B m.length cm] w (SaysB (l.all fun x => decide (x ∈ m)) w) := by
  obtain ⟨rv, hrv⟩ : ∃ rv, rv = l.all fun x => decide (x ∈ m) := ⟨_, rfl⟩
  have HV : Hid (rv = (l.drop 0).all fun x => decide (x ∈ m)) := by unfold Hid; rw [List.drop_zero]; exact hrv
  rw [← hrv]
  have HL := Lib.hid hl
  have HM := Lib.hid hm
  clear hl hm hrv
  go_enter Tryz.func15, Tryz.ntmps15
  go_wp2_with fail
  go_loopw [9] (fun i wr => ∃ k : Nat, k ≤ l.length ∧ i = .int .i64 k ∧ Hid (rv = (l.drop k).all fun x => decide (x ∈ m)) ∧ Hid (Keeps (fun _ => False) w wr)) (fun i _ => l.length - (intOf i).toNat)
  case atStart => exact ⟨0, Nat.zero_le _, rfl, HV.out, Keeps.refl _ _⟩
  case round =>
    obtain ⟨k, hk, rfl, HI, HK⟩ := hrel
    by_cases hlt : k < l.length
    · obtain ⟨b, o, rfl, _, hc⟩ := HL.out.keep HK.out (fun _ _ h => h) (by intro h; subst h; simp at hlt)
      have f0 := hc k hlt
      have HST := Lib.hid (listAll_drop (fun x => decide (x ∈ m)) hlt)
      have i1 : (k : Int) < l.length := by omega
      generalize l[k] = x at *
      have hcall := has_calls m x ok B cm wr (HM.out.keep HK.out (fun _ _ h => h)) (by omega)
      generalize hd : decide (x ∈ m) = d at *
      have HCALL := Lib.hid hcall
      have HD := Lib.hid hd
      clear hc hcall hd
      cases d
      · go_wp2_with (go_at_call 43; refine HCALL.out.mono ?_; clear HCALL; rintro e w5 ⟨rfl, hk5⟩; have HK5 := Lib.hid hk5; clear hk5)
        have HO : Hid (rv = false) := by unfold Hid; rw [HI.out, HST.out]; rfl
        go_ret
        exact ⟨by rw [HO.out]; rfl, HK.out.then_ HK5.out⟩
      · have HO : Hid (rv = (l.drop (k + 1)).all fun x => decide (x ∈ m)) := by unfold Hid; rw [HI.out, HST.out]; rfl
        go_wp2_with (go_at_call 43; refine HCALL.out.mono ?_; clear HCALL; rintro e w5 ⟨rfl, hk5⟩; have HK5 := Lib.hid hk5; clear hk5)
        go_roundw
        case rel =>
          first
            | exact ⟨k + 1, by omega, by go_num, HO.out, HK.out.then_ HK5.out⟩
            | ((repeat apply Exists.intro); exact ⟨⟨k + 1, by omega, by go_num, HO.out, HK.out.then_ HK5.out⟩, rfl⟩)
            | fail
        case measure => simp [intOf]; omega
    · obtain rfl : l.length = k := by omega
      have HO : Hid (rv = true) := by unfold Hid; rw [HI.out, List.drop_length]; rfl
      go_wp2_with fail
      go_ret
      exact ⟨by rw [HO.out]; rfl, HK.out⟩
end Go.Proofs.YthiclhbnggehoaaGreatDoor
