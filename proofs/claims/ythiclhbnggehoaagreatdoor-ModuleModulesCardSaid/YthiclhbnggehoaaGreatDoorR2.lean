/- The reference's Concepts: the concepts of a knowledge base, in order. -/
import Derived.Test.YthiclhbnggehoaaGreatDoorBase
import Derived.Test.YthiclhbnggehoaaGreatDoorR1
import Derived.Test.YthiclhbnggehoaaGreatDoorReads
namespace Go.Proofs.YthiclhbnggehoaaGreatDoor
open Go.RowKit
set_option linter.unusedVariables false
set_option linter.unusedSimpArgs false
def pairL (l : List (Con × Con)) : List Con := l.flatMap fun p => [p.1, p.2]
theorem pairL_snoc (l : List (Con × Con)) (p : Con × Con) : pairL (l ++ [p]) = (pairL l ++ [p.1]) ++ [p.2] := by simp [pairL]
theorem pairL_len (l : List (Con × Con)) : (pairL l).length = 2 * l.length := by
  induction l with
  | nil => rfl
  | cons p r ih => simp only [pairL, List.flatMap_cons, List.length_append, List.length_cons, List.length_nil] at ih ⊢; omega
def conceptsC (b : Kb) : List Con := pairL b.incls ++ b.facts.map (·.2)
def RetCons (ok : Nat → Prop) (l : List Con) (w : World) (e : Ending) (w' : World) : Prop :=
  ∃ v vs, e = .returned v ∧ w'.ownsRow w.heap.size 37 3 v l.length vs ∧ Reads ok w' l vs ∧ Keeps (fun _ => False) w w'
theorem takeP {α : Type} (l : List α) (k : Nat) (h : k < l.length) : l.take (k + 1) = l.take k ++ [l[k]] := List.take_succ_eq_append_getElem h
set_option maxRecDepth 100000 in
set_option maxHeartbeats 4000000 in
theorem concepts_calls (b : Kb) (p : KbA) (ok : Nat → Prop) (w : World) (hb : KbR ok w b p) (hli : b.incls.length ≤ 1000) (hlf : b.facts.length ≤ 1000) :
    Calls Tryz.prog 38 #[.agg #[.slice p.a0 b.cs.length p.c0, .slice p.a1 b.rs.length p.c1, .slice p.a2 b.is.length p.c2, .slice p.a3 b.incls.length p.c3, .slice p.a4 b.roles.length p.c4, .slice p.a5 b.facts.length p.c5, .slice p.a6 b.links.length p.c6]] w (RetCons (fun k => ok k ∧ k < w.heap.size) (conceptsC b) w) := by
  obtain ⟨a0, a1, a2, a3, a4, a5, a6, c0, c1, c2, c3, c4, c5, c6⟩ := p
  have HIN := Lib.hid hb.lim.incls
  have HFA := Lib.hid hb.lim.facts
  have HCC : Hid (conceptsC b = pairL b.incls ++ b.facts.map (·.2)) := rfl
  dsimp only at HIN HFA ⊢
  clear hb
  generalize conceptsC b = cl at *
  go_enter Tryz.func38, Tryz.ntmps38
  go_wp2_with fail
  generalize hW0 : World.alloc _ _ = W0
  have hK0 : Keeps (fun _ => False) w W0 := by rw [← hW0]; repeat (first | exact Keeps.refl _ _ | refine Keeps.drewN ?_ _ | refine Keeps.drew ?_ | refine Keeps.alloc ?_ _ | refine Keeps.set ?_ (Or.inl (by rfl)) _)
  have hB0 : W0.heap[w.heap.size]? = some (.cells #[.slice a0 b.cs.length c0, .slice a1 b.rs.length c1, .slice a2 b.is.length c2, .slice a3 b.incls.length c3, .slice a4 b.roles.length c4, .slice a5 b.facts.length c5, .slice a6 b.links.length c6] 30 (0, 0)) := by rw [← hW0]; exact blkNew rfl
  have hz0 : w.heap.size ≤ W0.heap.size := hK0.size
  clear hW0
  have HB0 := Lib.hid hB0
  clear hB0
  go_loopw [3, 11] (fun v i wr => ∃ (k : Nat) (vs : List Value), k ≤ b.incls.length ∧ i = .int .i64 k ∧ Hid (wr.ownsRow W0.heap.size 37 3 v (pairL (b.incls.take k)).length vs) ∧ Hid (Reads (fun k => ok k ∧ k < w.heap.size) wr (pairL (b.incls.take k)) vs) ∧ Keeps (fun _ => False) W0 wr) (fun _ i _ => b.incls.length - (intOf i).toNat)
  case atStart => exact ⟨0, [], Nat.zero_le _, rfl, World.ownsRow_nil _ _ _ _, ⟨rfl, by simp, fun i h => absurd h (Nat.not_lt_zero _)⟩, Keeps.refl _ _⟩
  case round =>
    obtain ⟨k, vs, hk, rfl, HO, HR, HK⟩ := hrel
    have hszr := HK.size
    obtain ⟨x0, x1, x2, x3, x4, x5, x6⟩ := cells7 (HK.blk HB0.out (fun h => h))
    by_cases hlt : k < b.incls.length
    · obtain ⟨bb, o, rfl, hob, hc⟩ := (HIN.out.keep (hK0.then_ HK) (fun _ _ h => h)) (by intro h; rw [h] at hlt; simp at hlt)
      obtain ⟨A1, d1, A2, d2, e0, e1, e2, e3, e4, e5, h1, h2⟩ := hc k hlt
      have hbl := World.block_lt_of_cell? wr _ e0
      simp only at hbl
      have HTK : Hid (pairL (b.incls.take (k + 1)) = (pairL (b.incls.take k) ++ [b.incls[k].1]) ++ [b.incls[k].2]) := by unfold Hid; rw [takeP _ _ hlt, pairL_snoc]
      have hpl : (pairL (b.incls.take k)).length ≤ 2000 := by rw [pairL_len, List.length_take]; omega
      generalize b.incls[k].1 = x at *
      generalize b.incls[k].2 = y at *
      generalize pairL (b.incls.take k) = l at *
      have HX := Lib.hid h1
      have HY := Lib.hid h2
      clear hc h1 h2
      go_wp2_with (at_builtin; refine wp_app1 rfl _ _ 35 35 rfl W0.heap.size 37 _ 3 40 Tryz.underlying35 infoCon rfl (by decide) (by decide) u3 l.length vs (ownsKeep (S := fun _ => False) HO.out (by repeat (first | exact Keeps.refl _ _ | refine Keeps.drewN ?_ _ | refine Keeps.drew ?_ | refine Keeps.alloc ?_ _ | refine Keeps.set ?_ (Or.inl (by rfl)) _)) (fun _ _ h => h)) rfl _ 2 [.int .i64 x.op, .int .i64 x.n, .slice A1 x.args.length d1, .int .i64 y.op, .int .i64 y.n, .slice A2 y.args.length d2] (Src.ofBlock Tryz.underlying35 (cs := #[.int .i64 x.op, .int .i64 x.n, .slice A1 x.args.length d1, .int .i64 y.op, .int .i64 y.n, .slice A2 y.args.length d2]) (blkNew (by simp)) rfl (by simp [Value.oneCell'])) rfl (by decide) (by omega) (by simp; omega) ?_; intro g5 cap6 w6 ho6 hk6 hat6 hcap6 hlt6)
      have hka := ((Keeps.refl (fun _ => False) wr).alloc (.cells #[.int .i64 x.op, .int .i64 x.n, .slice A1 x.args.length d1, .int .i64 y.op, .int .i64 y.n, .slice A2 y.args.length d2] 92)).alloc (.cells #[.int .i64 x.op, .int .i64 x.n, .slice A1 x.args.length d1, .int .i64 y.op, .int .i64 y.n, .slice A2 y.args.length d2] 37)
      have hkT := hka.of0.then_ hk6
      go_roundw
      case rel =>
        refine ⟨k + 1, vs ++ [.int .i64 x.op, .int .i64 x.n, .slice A1 x.args.length d1] ++ [.int .i64 y.op, .int .i64 y.n, .slice A2 y.args.length d2], by omega, by go_num, ?_, ?_, (HK.then_ hka).trans hk6 (fun i hi => .inr (HO.out.lt i hi).1)⟩
        · unfold Hid; rw [HTK.out]; simpa using ho6
        · unfold Hid; rw [HTK.out]
          exact ((HR.out.snoc HX.out).snoc HY.out).keep hkT (fun k hk1 hS => by have := (HO.out.lt k hS).1; omega)
      case measure => simp [intOf]; omega
    · obtain rfl : k = b.incls.length := by omega
      clear hlt hk
      go_wp2_with fail
      go_loopw [3, 26] (fun v i wr => ∃ (k : Nat) (vs : List Value), k ≤ b.facts.length ∧ i = .int .i64 k ∧ Hid (wr.ownsRow W0.heap.size 37 3 v (pairL b.incls ++ (b.facts.take k).map (·.2)).length vs) ∧ Hid (Reads (fun k => ok k ∧ k < w.heap.size) wr (pairL b.incls ++ (b.facts.take k).map (·.2)) vs) ∧ Keeps (fun _ => False) W0 wr) (fun _ i _ => b.facts.length - (intOf i).toNat)
      case atStart => exact ⟨0, vs, Nat.zero_le _, rfl, by have h := HO.out; rw [List.take_length] at h; unfold Hid; simpa using h, by have h := HR.out; rw [List.take_length] at h; unfold Hid; simpa using h, HK⟩
      case round =>
        clear HO HR HK hszr x0 x1 x2 x3 x4 x5 x6
        obtain ⟨k, vs, hk, rfl, HO, HR, HK⟩ := hrel
        have hszr := HK.size
        by_cases hlt : k < b.facts.length
        · obtain ⟨bb, o, rfl, hob, hc⟩ := (HFA.out.keep (hK0.then_ HK) (fun _ _ h => h)) (by intro h; rw [h] at hlt; simp at hlt)
          obtain ⟨A1, d1, e0, e1, e2, e3, h1⟩ := hc k hlt
          have hbl := World.block_lt_of_cell? wr _ e0
          simp only at hbl
          have HTK : Hid (pairL b.incls ++ (b.facts.take (k + 1)).map (·.2) = (pairL b.incls ++ (b.facts.take k).map (·.2)) ++ [b.facts[k].2]) := by unfold Hid; rw [takeP _ _ hlt, List.map_append, List.append_assoc]; rfl
          have hpl : (pairL b.incls ++ (b.facts.take k).map (·.2)).length ≤ 4000 := by rw [List.length_append, pairL_len, List.length_map, List.length_take]; omega
          generalize b.facts[k].2 = x at *
          generalize b.facts[k].1 = ind at *
          generalize pairL b.incls ++ (b.facts.take k).map (·.2) = l at *
          have HX := Lib.hid h1
          clear hc h1
          go_wp2_with (at_builtin; refine wp_app1 rfl _ _ 35 35 rfl W0.heap.size 37 _ 3 40 Tryz.underlying35 infoCon rfl (by decide) (by decide) u3 l.length vs (ownsKeep (S := fun _ => False) HO.out (by repeat (first | exact Keeps.refl _ _ | refine Keeps.drewN ?_ _ | refine Keeps.drew ?_ | refine Keeps.alloc ?_ _ | refine Keeps.set ?_ (Or.inl (by rfl)) _)) (fun _ _ h => h)) rfl _ 1 [.int .i64 x.op, .int .i64 x.n, .slice A1 x.args.length d1] (Src.ofBlock Tryz.underlying35 (cs := #[.int .i64 x.op, .int .i64 x.n, .slice A1 x.args.length d1]) (blkNew (by simp)) rfl (by simp [Value.oneCell'])) rfl (by decide) (by omega) (by simp; omega) ?_; intro g5 cap6 w6 ho6 hk6 hat6 hcap6 hlt6)
          have hka := ((Keeps.refl (fun _ => False) wr).alloc (.cells #[.int .i64 ind, .int .i64 x.op, .int .i64 x.n, .slice A1 x.args.length d1] 87)).alloc (.cells #[.int .i64 x.op, .int .i64 x.n, .slice A1 x.args.length d1] 37)
          have hkT := hka.of0.then_ hk6
          go_roundw
          case rel =>
            refine ⟨k + 1, vs ++ [.int .i64 x.op, .int .i64 x.n, .slice A1 x.args.length d1], by omega, by go_num, ?_, ?_, (HK.then_ hka).trans hk6 (fun i hi => .inr (HO.out.lt i hi).1)⟩
            · unfold Hid; rw [HTK.out]; simpa using ho6
            · unfold Hid; rw [HTK.out]
              exact (HR.out.snoc HX.out).keep hkT (fun k hk1 hS => by have := (HO.out.lt k hS).1; omega)
          case measure => simp [intOf]; omega
        · obtain rfl : k = b.facts.length := by omega
          have hO := HO.out
          have hR := HR.out
          rw [List.take_length, ← HCC.out] at hO hR
          have HOO := Lib.hid hO
          have HRR := Lib.hid hR
          clear HO HR hO hR hlt hk
          go_wp2_with fail
          go_ret
          exact ⟨u3, vs, rfl, World.ownsRow.mono HOO.out hz0, HRR.out, hK0.then_ HK⟩
end Go.Proofs.YthiclhbnggehoaaGreatDoor
/- The reference's Few. -/
namespace Go.Proofs.YthiclhbnggehoaaGreatDoor
open Go.RowKit
set_option linter.unusedVariables false
set_option linter.unusedSimpArgs false
theorem retRow {ok : Nat → Prop} {w : World} {base : Nat} {v : Value} {l : List Con} {vs : List Value} (ho : w.ownsRow base 37 3 v l.length vs) (hr : Reads ok w l vs) : ∃ A cap, v = .slice A l.length cap ∧ ConsAt (fun k => ok k ∨ base ≤ k) w l A := by
  have ho' := ho
  rcases ho'.2 with ⟨rfl, h0⟩ | ⟨g, cap, cur, rfl, hb, hg, _⟩
  · exact ⟨none, 0, by rw [h0], fun hl => absurd (List.eq_nil_of_length_eq_zero h0) hl⟩
  · exact ⟨_, cap, rfl, (hr.mono (fun _ h => .inl h)).consAt ho (.inr hb)⟩
def fitAll (l : List Con) : Bool := l.all fun c => decide (c.size ≤ 500)
def fewB (b : Kb) : Bool := decide (b.incls.length ≤ 200) && (decide (b.roles.length ≤ 200) && (decide (b.facts.length ≤ 200) && (decide (b.links.length ≤ 200) && (fewNamesR b.cs b.rs b.is && (fitAll (conceptsC b) && decide (Con.sizes (conceptsC b) ≤ 500))))))
set_option maxRecDepth 100000 in
set_option maxHeartbeats 4000000 in
theorem fewKb_calls (b : Kb) (p : KbA) (ok : Nat → Prop) (w : World) (hb : KbR ok w b p) :
    Calls Tryz.prog 31 #[.agg #[.slice p.a0 b.cs.length p.c0, .slice p.a1 b.rs.length p.c1, .slice p.a2 b.is.length p.c2, .slice p.a3 b.incls.length p.c3, .slice p.a4 b.roles.length p.c4, .slice p.a5 b.facts.length p.c5, .slice p.a6 b.links.length p.c6], .int .i64 500] w fun e w' => e = .returned (.bool (fewB b)) ∧ Keeps (fun _ => False) w w' := by
  have HFN := Lib.hid (fun W (hk : Keeps (fun _ => False) w W) => fewNames_calls b.cs b.rs b.is ok p.a0 p.a1 p.a2 p.c0 p.c1 p.c2 W (hb.cs.keep hk (fun _ _ h => h)) (hb.rs.keep hk (fun _ _ h => h)) (hb.is.keep hk (fun _ _ h => h)) hb.l0 hb.l1 hb.l2)
  have HCO := Lib.hid (fun W (hk : Keeps (fun _ => False) w W) => concepts_calls b p ok W (hb.keep hk (fun _ _ h => h)))
  have HV : Hid (fewB b = (decide (b.incls.length ≤ 200) && (decide (b.roles.length ≤ 200) && (decide (b.facts.length ≤ 200) && (decide (b.links.length ≤ 200) && (fewNamesR b.cs b.rs b.is && (fitAll (conceptsC b) && decide (Con.sizes (conceptsC b) ≤ 500)))))))) := rfl
  unfold RetCons at HCO
  generalize fewB b = fv at *
  generalize fewNamesR b.cs b.rs b.is = fn at *
  have hcl : (conceptsC b).length = 2 * b.incls.length + b.facts.length := by simp [conceptsC, pairL_len]
  generalize conceptsC b = cl at *
  obtain ⟨a0, a1, a2, a3, a4, a5, a6, c0, c1, c2, c3, c4, c5, c6⟩ := p
  dsimp only at HFN HCO ⊢
  clear hb
  by_cases h3 : b.incls.length ≤ 200
  · have d3 : decide (200 < (b.incls.length : Int)) = false := by simp; omega
    by_cases h4 : b.roles.length ≤ 200
    · have d4 : decide (200 < (b.roles.length : Int)) = false := by simp; omega
      by_cases h5 : b.facts.length ≤ 200
      · have d5 : decide (200 < (b.facts.length : Int)) = false := by simp; omega
        by_cases h6 : b.links.length ≤ 200
        · have d6 : decide (200 < (b.links.length : Int)) = false := by simp; omega
          have hcl2 : cl.length ≤ 1000 := by omega
          clear hcl
          have HV2 : Hid (fv = (fn && (fitAll cl && decide (Con.sizes cl ≤ 500)))) := by unfold Hid; rw [HV.out, decide_eq_true h3, decide_eq_true h4, decide_eq_true h5, decide_eq_true h6]; rfl
          clear HV
          go_enter Tryz.func31, Tryz.ntmps31
          go_wp2_with fail
          generalize hW0 : World.alloc _ _ = W0
          have hK0 : Keeps (fun _ => False) w W0 := by rw [← hW0]; repeat (first | exact Keeps.refl _ _ | refine Keeps.drewN ?_ _ | refine Keeps.drew ?_ | refine Keeps.alloc ?_ _ | refine Keeps.set ?_ (Or.inl (by rfl)) _)
          have hB0 : W0.heap[w.heap.size]? = some (.cells #[.slice a0 b.cs.length c0, .slice a1 b.rs.length c1, .slice a2 b.is.length c2, .slice a3 b.incls.length c3, .slice a4 b.roles.length c4, .slice a5 b.facts.length c5, .slice a6 b.links.length c6] 30 (0, 0)) := by rw [← hW0]; exact blkNew rfl
          clear hW0
          refine (HFN.out W0 hK0).mono ?_
          clear HFN
          rintro e w1 ⟨rfl, hk1⟩
          have hK1 := hK0.then_ hk1
          obtain ⟨x0, x1, x2, x3, x4, x5, x6⟩ := cells7 (hk1.blk hB0 (fun h => h))
          clear hB0
          cases fn
          · have HO : Hid (fv = false) := by unfold Hid; rw [HV2.out]; rfl
            clear HV2 HCO
            go_wp2_with fail
            go_ret
            exact ⟨by rw [HO.out]; rfl, hK1⟩
          · have HV3 : Hid (fv = (fitAll cl && decide (Con.sizes cl ≤ 500))) := by unfold Hid; rw [HV2.out]; rfl
            clear HV2
            go_wp2_with fail
            refine (HCO.out w1 hK1 (by omega) (by omega)).mono ?_
            clear HCO
            rintro e w2 ⟨v, vs, rfl, ho, hr, hk2⟩
            obtain ⟨AA, capA, rfl, hca⟩ := retRow ho hr
            have HCA := Lib.hid hca
            have hK2 := hK1.then_ hk2
            clear ho hr hca x0 x1 x2 x3 x4 x5 x6 d3 d4 d5 d6
            go_wp2_with fail
            go_loopw [5, 41] (fun nv i wr => ∃ (k : Nat) (x : Int), k ≤ cl.length ∧ nv = .int .i64 x ∧ i = .int .i64 k ∧ Hid (fitAll cl = fitAll (cl.drop k)) ∧ Hid (x = Con.sizes (cl.take k)) ∧ 0 ≤ x ∧ x ≤ 500 * k ∧ Keeps (fun _ => False) w2 wr) (fun _ i _ => cl.length - (intOf i).toNat)
            case atStart => exact ⟨0, 0, Nat.zero_le _, rfl, rfl, rfl, by unfold Hid; simp [Con.sizes], by omega, by omega, Keeps.refl _ _⟩
            case round =>
              obtain ⟨k, x, hk, rfl, rfl, HI, HX, hx0, hx1, HK⟩ := hrel
              have hk1000 : k ≤ 1000 := by omega
              by_cases hlt : k < cl.length
              · obtain ⟨bb, o, A', cap', rfl, hob, hbl, e0, e1, e2, hc⟩ := (HCA.out.lim.keep HK (fun _ _ h => h)).get k hlt
                have HSS := Lib.hid (sizes_succ cl k hlt)
                have HFA : Hid (fitAll (cl.drop k) = (decide (cl[k].size ≤ 500) && fitAll (cl.drop (k + 1)))) := all_drop _ cl k hlt
                generalize cl[k] = d at *
                have HC := Lib.hid hc
                have HFIT := Lib.hid (fun W (hkw : Keeps (fun _ => False) wr W) => fits_calls d A' cap' _ W 500 (by omega) (by omega) (HC.out.keep hkw (fun _ _ h => h)))
                have HSIZ := Lib.hid (fun W (hkw : Keeps (fun _ => False) wr W) (h : d.size ≤ 500) => size_calls (d.size + 1) d A' cap' _ W (by omega) (by omega) (HC.out.keep hkw (fun _ _ h => h)))
                clear hc
                generalize depthC d = dd at *
                go_wp2_with fail
                generalize hW4 : World.alloc _ _ = W4
                have hK4 : Keeps (fun _ => False) wr W4 := by rw [← hW4]; repeat (first | exact Keeps.refl _ _ | refine Keeps.drewN ?_ _ | refine Keeps.drew ?_ | refine Keeps.alloc ?_ _ | refine Keeps.set ?_ (Or.inl (by rfl)) _)
                have hb4 : W4.heap[wr.heap.size]? = some (.cells #[.int .i64 d.op, .int .i64 d.n, .slice A' d.args.length cap'] 37 (0, 0)) := by rw [← hW4]; exact blkNew rfl
                clear hW4
                refine (HFIT.out W4 hK4).mono ?_
                clear HFIT
                rintro e w5 ⟨rfl, hk5⟩
                obtain ⟨y0, y1, y2⟩ := cells3 (hk5.blk hb4 (fun h => h))
                by_cases hs : d.size ≤ 500
                · have q1 : decide ((d.size : Int) ≤ 500) = true := by simp; omega
                  have HS2 := Lib.hid (HSIZ.out w5 (hK4.then_ hk5) hs)
                  have hxs : x + d.size ≤ 500 * (k + 1) := by omega
                  have hx9 : 0 ≤ x + (d.size : Int) := by omega
                  have HI2 : Hid (fitAll cl = fitAll (cl.drop (k + 1))) := by unfold Hid; rw [HI.out, HFA.out, decide_eq_true hs]; rfl
                  clear HSIZ hs HI HFA
                  generalize hds : (d.size : Int) = ds at *
                  have HDS := Lib.hid hds
                  clear hds
                  go_wp2_with fail
                  refine HS2.out.mono ?_
                  clear HS2
                  rintro e w6 ⟨rfl, hk6⟩
                  go_wp2_with fail
                  go_roundw
                  case rel => exact ⟨k + 1, x + ds, by omega, by go_num, by go_num, HI2, by unfold Hid; have := HX.out; have := HDS.out; rw [HSS.out]; push_cast; omega, by omega, by push_cast; omega, ((HK.then_ hK4).then_ hk5).then_ hk6⟩
                  case measure => simp [intOf]; omega
                · have q1 : decide ((d.size : Int) ≤ 500) = false := by simp; omega
                  have HO : Hid (fv = false) := by unfold Hid; rw [HV3.out, HI.out, HFA.out, decide_eq_false hs]; rfl
                  clear HSIZ hs HI HFA HV3
                  go_wp2_with fail
                  go_ret
                  exact ⟨by rw [HO.out]; rfl, ((hK2.then_ HK).then_ hK4).then_ hk5⟩
              · obtain rfl : k = cl.length := by omega
                have hXX := HX.out
                rw [List.take_length] at hXX
                have HO : Hid (fv = decide (x ≤ 500)) := by
                  unfold Hid
                  rw [HV3.out, HI.out, List.drop_length, hXX]
                  simp [fitAll]
                  omega
                clear HV3 HI HX hXX
                go_wp2_with fail
                go_ret
                exact ⟨by rw [HO.out]; rfl, hK2.then_ HK⟩
        · have d6 : decide (200 < (b.links.length : Int)) = true := by simp; omega
          have HO : Hid (fv = false) := by unfold Hid; rw [HV.out, decide_eq_true h3, decide_eq_true h4, decide_eq_true h5, decide_eq_false h6]; rfl
          clear HV HFN HCO hcl h3 h4 h5 h6
          go_enter Tryz.func31, Tryz.ntmps31
          go_wp2_with fail
          go_ret
          exact ⟨by rw [HO.out]; rfl, by repeat (first | exact Keeps.refl _ _ | refine Keeps.drewN ?_ _ | refine Keeps.drew ?_ | refine Keeps.alloc ?_ _ | refine Keeps.set ?_ (Or.inl (by rfl)) _)⟩
      · have d5 : decide (200 < (b.facts.length : Int)) = true := by simp; omega
        have HO : Hid (fv = false) := by unfold Hid; rw [HV.out, decide_eq_true h3, decide_eq_true h4, decide_eq_false h5]; rfl
        clear HV HFN HCO hcl h3 h4 h5
        go_enter Tryz.func31, Tryz.ntmps31
        go_wp2_with fail
        go_ret
        exact ⟨by rw [HO.out]; rfl, by repeat (first | exact Keeps.refl _ _ | refine Keeps.drewN ?_ _ | refine Keeps.drew ?_ | refine Keeps.alloc ?_ _ | refine Keeps.set ?_ (Or.inl (by rfl)) _)⟩
    · have d4 : decide (200 < (b.roles.length : Int)) = true := by simp; omega
      have HO : Hid (fv = false) := by unfold Hid; rw [HV.out, decide_eq_true h3, decide_eq_false h4]; rfl
      clear HV HFN HCO hcl h3 h4
      go_enter Tryz.func31, Tryz.ntmps31
      go_wp2_with fail
      go_ret
      exact ⟨by rw [HO.out]; rfl, by repeat (first | exact Keeps.refl _ _ | refine Keeps.drewN ?_ _ | refine Keeps.drew ?_ | refine Keeps.alloc ?_ _ | refine Keeps.set ?_ (Or.inl (by rfl)) _)⟩
  · have d3 : decide (200 < (b.incls.length : Int)) = true := by simp; omega
    have HO : Hid (fv = false) := by unfold Hid; rw [HV.out, decide_eq_false h3]; rfl
    clear HV HFN HCO hcl h3
    go_enter Tryz.func31, Tryz.ntmps31
    go_wp2_with fail
    go_ret
    exact ⟨by rw [HO.out]; rfl, by repeat (first | exact Keeps.refl _ _ | refine Keeps.drewN ?_ _ | refine Keeps.drew ?_ | refine Keeps.alloc ?_ _ | refine Keeps.set ?_ (Or.inl (by rfl)) _)⟩
end Go.Proofs.YthiclhbnggehoaaGreatDoor
/- The reference's Is of knowledge bases. -/
namespace Go.Proofs.YthiclhbnggehoaaGreatDoor
open Go.RowKit
set_option linter.unusedVariables false
set_option linter.unusedSimpArgs false
def isAll (nc nr : Nat) (l : List Con) : Bool := l.all (isR nc nr)
def factsI (ni : Nat) (l : List (Int × Con)) : Bool := l.all fun x => indOk ni x.1
def isKbR (b : Kb) : Bool := namesR b.cs b.rs b.is && (decide (kbCount b ≤ 60) && (isAll b.cs.length b.rs.length (conceptsC b) && (rolesV b.rs.length b.roles && (factsI b.is.length b.facts && (linksV b.rs.length b.is.length b.links && decide (Con.sizes (conceptsC b) ≤ 400))))))
theorem isR_small {nc nr : Nat} {c : Con} (h : isR nc nr c = true) : c.size ≤ 400 := by
  simp only [isR, smallR, Bool.and_eq_true, decide_eq_true_eq] at h; exact h.1.1
set_option maxRecDepth 100000 in
set_option maxHeartbeats 4000000 in
theorem isKb_calls (b : Kb) (p : KbA) (ok : Nat → Prop) (w : World) (hb : KbR ok w b p) (h3 : b.incls.length ≤ 1000) (h4 : b.roles.length ≤ 1000) (h5 : b.facts.length ≤ 1000) (h6 : b.links.length ≤ 1000) (hn0 : b.cs.length ≤ 100000) (hn1 : b.rs.length ≤ 100000) (hn2 : b.is.length ≤ 100000) :
    Calls Tryz.prog 10 #[.agg #[.slice p.a0 b.cs.length p.c0, .slice p.a1 b.rs.length p.c1, .slice p.a2 b.is.length p.c2, .slice p.a3 b.incls.length p.c3, .slice p.a4 b.roles.length p.c4, .slice p.a5 b.facts.length p.c5, .slice p.a6 b.links.length p.c6]] w fun e w' => e = .returned (.bool (isKbR b)) ∧ Keeps (fun _ => False) w w' := by
  have HNM := Lib.hid (fun W (hk : Keeps (fun _ => False) w W) => names_loop_calls b.cs b.rs b.is ok p.a0 p.a1 p.a2 p.c0 p.c1 p.c2 W (hb.cs.keep hk (fun _ _ h => h)) (hb.rs.keep hk (fun _ _ h => h)) (hb.is.keep hk (fun _ _ h => h)) hb.l0 hb.l1 hb.l2 hb.strs (by omega) (by omega) (by omega))
  have HAX := Lib.hid (fun W => axiomsR_calls b p W (by omega) (by omega) (by omega) (by omega))
  have HCO := Lib.hid (fun W (hk : Keeps (fun _ => False) w W) => concepts_calls b p ok W (hb.keep hk (fun _ _ h => h)) h3 h5)
  have HRO := Lib.hid hb.lim.roles
  have HFA := Lib.hid hb.lim.facts
  have HLI := Lib.hid hb.lim.links
  have HRNG := Lib.hid hb.rng
  have HV : Hid (isKbR b = (namesR b.cs b.rs b.is && (decide (kbCount b ≤ 60) && (isAll b.cs.length b.rs.length (conceptsC b) && (rolesV b.rs.length b.roles && (factsI b.is.length b.facts && (linksV b.rs.length b.is.length b.links && decide (Con.sizes (conceptsC b) ≤ 400)))))))) := rfl
  unfold RetCons at HCO
  have hcl : (conceptsC b).length ≤ 4000 := by have : (conceptsC b).length = 2 * b.incls.length + b.facts.length := by simp [conceptsC, pairL_len]
                                               omega
  generalize isKbR b = fv at *
  generalize namesR b.cs b.rs b.is = nm at *
  generalize conceptsC b = cl at *
  have hcnt : (kbCount b : Int) ≤ 4000 := by unfold kbCount; omega
  generalize hkc : kbCount b = kc at *
  clear hkc
  obtain ⟨a0, a1, a2, a3, a4, a5, a6, c0, c1, c2, c3, c4, c5, c6⟩ := p
  dsimp only at HNM HAX HCO HRO HFA HLI ⊢
  clear hb
  go_enter Tryz.func10, Tryz.ntmps10
  go_wp2_with fail
  generalize hW0 : World.alloc _ _ = W0
  have hK0 : Keeps (fun _ => False) w W0 := by rw [← hW0]; repeat (first | exact Keeps.refl _ _ | refine Keeps.drewN ?_ _ | refine Keeps.drew ?_ | refine Keeps.alloc ?_ _ | refine Keeps.set ?_ (Or.inl (by rfl)) _)
  have hB0 : W0.heap[w.heap.size]? = some (.cells #[.slice a0 b.cs.length c0, .slice a1 b.rs.length c1, .slice a2 b.is.length c2, .slice a3 b.incls.length c3, .slice a4 b.roles.length c4, .slice a5 b.facts.length c5, .slice a6 b.links.length c6] 30 (0, 0)) := by rw [← hW0]; exact blkNew rfl
  clear hW0
  refine (HNM.out W0 hK0).mono ?_
  clear HNM
  rintro e w1 ⟨rfl, hk1⟩
  have hK1 := hK0.then_ hk1
  have HB1 := Lib.hid (hk1.blk hB0 (fun h => h))
  obtain ⟨x0, x1, x2, x3, x4, x5, x6⟩ := cells7 HB1.out
  clear hB0 hk1 hK0
  cases nm
  · have HO : Hid (fv = false) := by unfold Hid; rw [HV.out]; rfl
    clear HV HCO HAX
    go_wp2_with fail
    go_ret
    exact ⟨by rw [HO.out]; rfl, hK1⟩
  · go_wp2_with fail
    refine (HAX.out w1).mono ?_
    clear HAX
    rintro e w2 ⟨rfl, hk2⟩
    have hK2 := hK1.then_ hk2
    have HB2 := Lib.hid (hk2.blk HB1.out (fun h => h))
    clear x0 x1 x2 x3 x4 x5 x6 HB1 hk2
    obtain ⟨x0, x1, x2, x3, x4, x5, x6⟩ := cells7 HB2.out
    by_cases h60 : kc ≤ 60
    · have q60 : decide (60 < (kc : Int)) = false := by simp; omega
      have HV2 : Hid (fv = (isAll b.cs.length b.rs.length cl && (rolesV b.rs.length b.roles && (factsI b.is.length b.facts && (linksV b.rs.length b.is.length b.links && decide (Con.sizes cl ≤ 400)))))) := by unfold Hid; rw [HV.out, decide_eq_true h60]; rfl
      clear HV h60
      go_wp2_with fail
      refine (HCO.out w2 hK2).mono ?_
      clear HCO
      rintro e w3 ⟨v, vs, rfl, ho, hr, hk3⟩
      obtain ⟨AA, capA, rfl, hca⟩ := retRow ho hr
      have HCA := Lib.hid hca
      have hK3 := hK2.then_ hk3
      have HB3 := Lib.hid (hk3.blk HB2.out (fun h => h))
      clear ho hr hca x0 x1 x2 x3 x4 x5 x6 HB2 hk3
      go_wp2_with fail
      go_loopw [3, 26] (fun nv i wr => ∃ (k : Nat) (x : Int), k ≤ cl.length ∧ nv = .int .i64 x ∧ i = .int .i64 k ∧ Hid (isAll b.cs.length b.rs.length cl = isAll b.cs.length b.rs.length (cl.drop k)) ∧ Hid (x = Con.sizes (cl.take k)) ∧ 0 ≤ x ∧ x ≤ 500 * k ∧ Keeps (fun _ => False) w3 wr) (fun _ i _ => cl.length - (intOf i).toNat)
      case atStart => exact ⟨0, 0, Nat.zero_le _, rfl, rfl, rfl, by unfold Hid; simp [Con.sizes], by omega, by omega, Keeps.refl _ _⟩
      case round =>
        obtain ⟨k, x, hk, rfl, rfl, HI, HX, hx0, hx1, HK⟩ := hrel
        have hk1000 : k ≤ 4000 := by omega
        have HBR := Lib.hid (HK.blk HB3.out (fun h => h))
        obtain ⟨x0, x1, x2, x3, x4, x5, x6⟩ := cells7 HBR.out
        have hbw := blkLt HBR.out
        by_cases hlt : k < cl.length
        · obtain ⟨bb, o, A', cap', rfl, hob, hbl, e0, e1, e2, hc⟩ := (HCA.out.lim.keep HK (fun _ _ h => h)).get k hlt
          have HSS := Lib.hid (sizes_succ cl k hlt)
          have HFAA : Hid (isAll b.cs.length b.rs.length (cl.drop k) = (isR b.cs.length b.rs.length cl[k] && isAll b.cs.length b.rs.length (cl.drop (k + 1)))) := all_drop _ cl k hlt
          have hsm := @isR_small b.cs.length b.rs.length cl[k]
          generalize cl[k] = d at *
          have HC := Lib.hid hc
          have HISC := Lib.hid (fun W (hkw : Keeps (fun _ => False) wr W) => is_calls b.cs.length b.rs.length a0 a1 c0 c1 (.slice a2 b.is.length c2) (by omega) (by omega) d A' cap' _ W (HC.out.keep hkw (fun _ _ h => h)))
          have HSIZ := Lib.hid (fun W (hkw : Keeps (fun _ => False) wr W) (h : d.size ≤ 400) => size_calls (d.size + 1) d A' cap' _ W (by omega) (by omega) (HC.out.keep hkw (fun _ _ h => h)))
          clear hc
          generalize isR b.cs.length b.rs.length d = ir at *
          have HSM := Lib.hid hsm
          clear hsm
          generalize depthC d = dd at *
          go_wp2_with fail
          generalize hW4 : World.alloc _ _ = W4
          have hK4 : Keeps (fun _ => False) wr W4 := by rw [← hW4]; repeat (first | exact Keeps.refl _ _ | refine Keeps.drewN ?_ _ | refine Keeps.drew ?_ | refine Keeps.alloc ?_ _ | refine Keeps.set ?_ (Or.inl (by rfl)) _)
          have hb4 : W4.heap[wr.heap.size]? = some (.cells #[.int .i64 d.op, .int .i64 d.n, .slice A' d.args.length cap'] 37 (0, 0)) := by rw [← hW4]; exact blkNew rfl
          clear hW4
          refine (HISC.out W4 hK4).mono ?_
          clear HISC
          rintro e w5 ⟨rfl, hk5⟩
          obtain ⟨y0, y1, y2⟩ := cells3 (hk5.blk hb4 (fun h => h))
          cases ir
          · have HO : Hid (fv = false) := by unfold Hid; rw [HV2.out, HI.out, HFAA.out]; rfl
            clear HSIZ HI HFAA HV2
            go_wp2_with fail
            go_ret
            exact ⟨by rw [HO.out]; rfl, ((hK3.then_ HK).then_ hK4).then_ hk5⟩
          · have hs := HSM.out rfl
            have HS2 := Lib.hid (HSIZ.out w5 (hK4.then_ hk5) hs)
            have hxs : x + d.size ≤ 500 * (k + 1) := by omega
            have hx9 : 0 ≤ x + (d.size : Int) := by omega
            have HI2 : Hid (isAll b.cs.length b.rs.length cl = isAll b.cs.length b.rs.length (cl.drop (k + 1))) := by unfold Hid; rw [HI.out, HFAA.out]; rfl
            clear HSIZ hs HI HFAA
            generalize hds : (d.size : Int) = ds at *
            have HDS := Lib.hid hds
            clear hds
            go_wp2_with fail
            refine HS2.out.mono ?_
            clear HS2
            rintro e w6 ⟨rfl, hk6⟩
            go_wp2_with fail
            go_roundw
            case rel => exact ⟨k + 1, x + ds, by omega, by go_num, by go_num, HI2, by unfold Hid; have := HX.out; have := HDS.out; rw [HSS.out]; push_cast; omega, by omega, by push_cast; omega, ((HK.then_ hK4).then_ hk5).then_ hk6⟩
            case measure => simp [intOf]; omega
        · obtain rfl : k = cl.length := by omega
          have hXX := HX.out
          rw [List.take_length] at hXX
          have HV3 : Hid (fv = (rolesV b.rs.length (b.roles.drop 0) && (factsI b.is.length b.facts && (linksV b.rs.length b.is.length b.links && decide (x ≤ 400))))) := by
            unfold Hid
            rw [HV2.out, HI.out, List.drop_length, hXX, show decide (Con.sizes cl ≤ 400) = decide ((Con.sizes cl : Int) ≤ 400) by congr 1; apply propext; omega]
            rfl
          have hKA := hK3.then_ HK
          have HB4 := HBR
          clear HV2 HI HX hXX hlt hk HCA hK3 HK HB3 HBR
          go_wp2_with fail
          go_loopw [47] (fun i wr => ∃ k : Nat, k ≤ b.roles.length ∧ i = .int .i64 k ∧ Hid (fv = (rolesV b.rs.length (b.roles.drop k) && (factsI b.is.length b.facts && (linksV b.rs.length b.is.length b.links && decide (x ≤ 400))))) ∧ Hid (wr.heap[w.heap.size]? = some (.cells #[.slice a0 b.cs.length c0, .slice a1 b.rs.length c1, .slice a2 b.is.length c2, .slice a3 b.incls.length c3, .slice a4 b.roles.length c4, .slice a5 b.facts.length c5, .slice a6 b.links.length c6] 30 (0, 0))) ∧ Keeps (fun _ => False) w wr) (fun i _ => b.roles.length - (intOf i).toNat)
          case atStart => exact ⟨0, Nat.zero_le _, rfl, HV3, HB4, hKA⟩
          case round =>
            clear HV3 HB4 hKA x0 x1 x2 x3 x4 x5 x6
            obtain ⟨k, hk, rfl, HI, HBR, HK⟩ := hrel
            obtain ⟨x0, x1, x2, x3, x4, x5, x6⟩ := cells7 HBR.out
            have hbw := blkLt HBR.out
            by_cases hlt : k < b.roles.length
            · obtain ⟨bb, o, rfl, hob, hc⟩ := (HRO.out.keep HK (fun _ _ h => h)) (by intro h; rw [h] at hlt; simp at hlt)
              obtain ⟨e0, e1⟩ := hc k hlt
              have hbl := World.block_lt_of_cell? wr _ e0
              simp only at hbl
              have HDR : Hid (rolesV b.rs.length (b.roles.drop k) = (roleP b.rs.length b.roles[k] && rolesV b.rs.length (b.roles.drop (k + 1)))) := all_drop _ b.roles k hlt
              have HLL : Hid (roleP b.rs.length b.roles[k] = (roleOk b.rs.length b.roles[k].1 && roleOk b.rs.length b.roles[k].2)) := rfl
              generalize b.roles[k].1 = l1 at *
              generalize b.roles[k].2 = l2 at *
              generalize roleP b.rs.length b.roles[k] = lo at *
              have HI2 := Lib.hid (fun W => roleR_calls b.rs.length l1 (.slice a0 b.cs.length c0) (.slice a2 b.is.length c2) a1 c1 W (by omega))
              have HI3 := Lib.hid (fun W => roleR_calls b.rs.length l2 (.slice a0 b.cs.length c0) (.slice a2 b.is.length c2) a1 c1 W (by omega))
              generalize roleOk b.rs.length l1 = i2 at *
              generalize roleOk b.rs.length l2 = i3 at *
              clear hc
              go_wp2_with fail
              generalize hW4 : World.alloc _ _ = W4
              have hK4 : Keeps (fun _ => False) wr W4 := by rw [← hW4]; repeat (first | exact Keeps.refl _ _ | refine Keeps.drewN ?_ _ | refine Keeps.drew ?_ | refine Keeps.alloc ?_ _ | refine Keeps.set ?_ (Or.inl (by rfl)) _)
              have hb4 : W4.heap[wr.heap.size]? = some (.cells #[.int .i64 l1, .int .i64 l2] 84 (0, 0)) := by rw [← hW4]; exact blkNew rfl
              clear hW4
              refine (HI2.out W4).mono ?_
              clear HI2
              rintro e w5 ⟨rfl, hk5⟩
              have hb5 := hk5.blk hb4 (fun h => h)
              obtain ⟨y0, y1⟩ := cells2 hb5
              have hB5 := hk5.blk (hK4.blk HBR.out (fun h => h)) (fun h => h)
              clear x0 x1 x2 x3 x4 x5 x6
              obtain ⟨x0, x1, x2, x3, x4, x5, x6⟩ := cells7 hB5
              have HB5 := Lib.hid hB5
              clear hb4 hB5 hb5
              cases i2
              · have HO : Hid (fv = false) := by unfold Hid; rw [HI.out, HDR.out, HLL.out]; rfl
                clear HI HDR HLL
                go_wp2_with fail
                go_ret
                exact ⟨by rw [HO.out]; rfl, (HK.then_ hK4).then_ hk5⟩
              · go_wp2_with fail
                refine (HI3.out w5).mono ?_
                clear HI3
                rintro e w6 ⟨rfl, hk6⟩
                have HKX := ((HK.then_ hK4).then_ hk5).then_ hk6
                have HBX := Lib.hid (hk6.blk HB5.out (fun h => h))
                cases i3
                · have HO : Hid (fv = false) := by unfold Hid; rw [HI.out, HDR.out, HLL.out]; rfl
                  clear HI HDR HLL
                  go_wp2_with fail
                  go_ret
                  exact ⟨by rw [HO.out]; rfl, HKX⟩
                · have HO : Hid (fv = (rolesV b.rs.length (b.roles.drop (k + 1)) && (factsI b.is.length b.facts && (linksV b.rs.length b.is.length b.links && decide (x ≤ 400))))) := by unfold Hid; rw [HI.out, HDR.out, HLL.out]; rfl
                  clear HI HDR HLL
                  go_wp2_with fail
                  go_roundw
                  case rel => exact ⟨k + 1, by omega, by go_num, HO, HBX, HKX⟩
                  case measure => simp [intOf]; omega
            · obtain rfl : k = b.roles.length := by omega
              have HV4 : Hid (fv = (factsI b.is.length (b.facts.drop 0) && (linksV b.rs.length b.is.length b.links && decide (x ≤ 400)))) := by unfold Hid; rw [HI.out, List.drop_length]; rfl
              have HB4 := HBR
              have hKA := HK
              clear HI HBR HK hlt hk
              go_wp2_with fail
              go_loopw [69] (fun i wr => ∃ k : Nat, k ≤ b.facts.length ∧ i = .int .i64 k ∧ Hid (fv = (factsI b.is.length (b.facts.drop k) && (linksV b.rs.length b.is.length b.links && decide (x ≤ 400)))) ∧ Hid (wr.heap[w.heap.size]? = some (.cells #[.slice a0 b.cs.length c0, .slice a1 b.rs.length c1, .slice a2 b.is.length c2, .slice a3 b.incls.length c3, .slice a4 b.roles.length c4, .slice a5 b.facts.length c5, .slice a6 b.links.length c6] 30 (0, 0))) ∧ Keeps (fun _ => False) w wr) (fun i _ => b.facts.length - (intOf i).toNat)
              case atStart => exact ⟨0, Nat.zero_le _, rfl, HV4, HB4, hKA⟩
              case round =>
                clear HV4 HB4 hKA x0 x1 x2 x3 x4 x5 x6
                obtain ⟨k, hk, rfl, HI, HBR, HK⟩ := hrel
                obtain ⟨x0, x1, x2, x3, x4, x5, x6⟩ := cells7 HBR.out
                have hbw := blkLt HBR.out
                by_cases hlt : k < b.facts.length
                · obtain ⟨bb, o, rfl, hob, hc⟩ := (HFA.out.keep HK (fun _ _ h => h)) (by intro h; rw [h] at hlt; simp at hlt)
                  obtain ⟨A1, d1, e0, e1, e2, e3, _⟩ := hc k hlt
                  have hbl := World.block_lt_of_cell? wr _ e0
                  simp only at hbl
                  have HDR : Hid (factsI b.is.length (b.facts.drop k) = (indOk b.is.length b.facts[k].1 && factsI b.is.length (b.facts.drop (k + 1)))) := all_drop _ b.facts k hlt
                  generalize b.facts[k].1 = l1 at *
                  generalize b.facts[k].2 = dd at *
                  have HI2 := Lib.hid (fun W => indR_calls b.is.length l1 (.slice a0 b.cs.length c0) (.slice a1 b.rs.length c1) a2 c2 W)
                  generalize indOk b.is.length l1 = i2 at *
                  clear hc
                  go_wp2_with fail
                  generalize hW4 : World.alloc _ _ = W4
                  have hK4 : Keeps (fun _ => False) wr W4 := by rw [← hW4]; repeat (first | exact Keeps.refl _ _ | refine Keeps.drewN ?_ _ | refine Keeps.drew ?_ | refine Keeps.alloc ?_ _ | refine Keeps.set ?_ (Or.inl (by rfl)) _)
                  clear hW4
                  refine (HI2.out W4).mono ?_
                  clear HI2
                  rintro e w5 ⟨rfl, hk5⟩
                  have HKX := (HK.then_ hK4).then_ hk5
                  have HBX := Lib.hid (hk5.blk (hK4.blk HBR.out (fun h => h)) (fun h => h))
                  cases i2
                  · have HO : Hid (fv = false) := by unfold Hid; rw [HI.out, HDR.out]; rfl
                    clear HI HDR
                    go_wp2_with fail
                    go_ret
                    exact ⟨by rw [HO.out]; rfl, HKX⟩
                  · have HO : Hid (fv = (factsI b.is.length (b.facts.drop (k + 1)) && (linksV b.rs.length b.is.length b.links && decide (x ≤ 400)))) := by unfold Hid; rw [HI.out, HDR.out]; rfl
                    clear HI HDR
                    go_wp2_with fail
                    go_roundw
                    case rel => exact ⟨k + 1, by omega, by go_num, HO, HBX, HKX⟩
                    case measure => simp [intOf]; omega
                · obtain rfl : k = b.facts.length := by omega
                  have HV5 : Hid (fv = (linksV b.rs.length b.is.length (b.links.drop 0) && decide (x ≤ 400))) := by unfold Hid; rw [HI.out, List.drop_length]; rfl
                  have HB4 := HBR
                  have hKA := HK
                  clear HI HBR HK hlt hk
                  go_wp2_with fail
                  go_loopw [83] (fun i wr => ∃ k : Nat, k ≤ b.links.length ∧ i = .int .i64 k ∧ Hid (fv = (linksV b.rs.length b.is.length (b.links.drop k) && decide (x ≤ 400))) ∧ Hid (wr.heap[w.heap.size]? = some (.cells #[.slice a0 b.cs.length c0, .slice a1 b.rs.length c1, .slice a2 b.is.length c2, .slice a3 b.incls.length c3, .slice a4 b.roles.length c4, .slice a5 b.facts.length c5, .slice a6 b.links.length c6] 30 (0, 0))) ∧ Keeps (fun _ => False) w wr) (fun i _ => b.links.length - (intOf i).toNat)
                  case atStart => exact ⟨0, Nat.zero_le _, rfl, HV5, HB4, hKA⟩
                  case round =>
                    clear HV5 HB4 hKA x0 x1 x2 x3 x4 x5 x6
                    obtain ⟨k, hk, rfl, HI, HBR, HK⟩ := hrel
                    obtain ⟨x0, x1, x2, x3, x4, x5, x6⟩ := cells7 HBR.out
                    have hbw := blkLt HBR.out
                    by_cases hlt : k < b.links.length
                    · obtain ⟨bb, o, rfl, hob, hc⟩ := (HLI.out.keep HK (fun _ _ h => h)) (by intro h; rw [h] at hlt; simp at hlt)
                      obtain ⟨e0, e1, e2⟩ := hc k hlt
                      have hbl := World.block_lt_of_cell? wr _ e0
                      simp only at hbl
                      have HDR : Hid (linksV b.rs.length b.is.length (b.links.drop k) = (linkOk b.rs.length b.is.length b.links[k] && linksV b.rs.length b.is.length (b.links.drop (k + 1)))) := all_drop _ b.links k hlt
                      have HLO : Hid (linkOk b.rs.length b.is.length b.links[k] = (decide (0 ≤ b.links[k].1 ∧ b.links[k].1 < b.rs.length) && indOk b.is.length b.links[k].2.1 && indOk b.is.length b.links[k].2.2)) := rfl
                      generalize b.links[k].1 = l1 at *
                      generalize b.links[k].2.1 = l2 at *
                      generalize b.links[k].2.2 = l3 at *
                      generalize linkOk b.rs.length b.is.length b.links[k] = lo at *
                      have HI2 := Lib.hid (fun W => indR_calls b.is.length l2 (.slice a0 b.cs.length c0) (.slice a1 b.rs.length c1) a2 c2 W)
                      have HI3 := Lib.hid (fun W => indR_calls b.is.length l3 (.slice a0 b.cs.length c0) (.slice a1 b.rs.length c1) a2 c2 W)
                      generalize indOk b.is.length l2 = i2 at *
                      generalize indOk b.is.length l3 = i3 at *
                      clear hc
                      by_cases hl0 : l1 < 0
                      · have q0 : decide (l1 < 0) = true := by simpa using hl0
                        have HO : Hid (fv = false) := by unfold Hid; rw [HI.out, HDR.out, HLO.out, decide_eq_false (by omega)]; rfl
                        clear HI HDR HLO hl0
                        go_wp2_with fail
                        go_ret
                        exact ⟨by rw [HO.out]; rfl, HK.alloc _⟩
                      · have q0 : decide (l1 < 0) = false := by simpa using hl0
                        by_cases hl1 : (b.rs.length : Int) ≤ l1
                        · have q1 : decide ((b.rs.length : Int) ≤ l1) = true := by simpa using hl1
                          have HO : Hid (fv = false) := by unfold Hid; rw [HI.out, HDR.out, HLO.out, decide_eq_false (by omega)]; rfl
                          clear HI HDR HLO hl0 hl1
                          go_wp2_with fail
                          go_ret
                          exact ⟨by rw [HO.out]; rfl, HK.alloc _⟩
                        · have q1 : decide ((b.rs.length : Int) ≤ l1) = false := by simpa using hl1
                          have HLL : Hid (lo = (i2 && i3)) := by unfold Hid; rw [HLO.out, decide_eq_true (by omega)]; rfl
                          clear HLO hl0 hl1
                          go_wp2_with fail
                          generalize hW4 : World.alloc _ _ = W4
                          have hK4 : Keeps (fun _ => False) wr W4 := by rw [← hW4]; repeat (first | exact Keeps.refl _ _ | refine Keeps.drewN ?_ _ | refine Keeps.drew ?_ | refine Keeps.alloc ?_ _ | refine Keeps.set ?_ (Or.inl (by rfl)) _)
                          have hb4 : W4.heap[wr.heap.size]? = some (.cells #[.int .i64 l1, .int .i64 l2, .int .i64 l3] 89 (0, 0)) := by rw [← hW4]; exact blkNew rfl
                          clear hW4
                          refine (HI2.out W4).mono ?_
                          clear HI2
                          rintro e w5 ⟨rfl, hk5⟩
                          have hb5 := hk5.blk hb4 (fun h => h)
                          obtain ⟨y0, y1, y2⟩ := cells3 hb5
                          have hB5 := hk5.blk (hK4.blk HBR.out (fun h => h)) (fun h => h)
                          clear x0 x1 x2 x3 x4 x5 x6
                          obtain ⟨x0, x1, x2, x3, x4, x5, x6⟩ := cells7 hB5
                          have HB5 := Lib.hid hB5
                          clear hb4 hB5 hb5
                          cases i2
                          · have HO : Hid (fv = false) := by unfold Hid; rw [HI.out, HDR.out, HLL.out]; rfl
                            clear HI HDR HLL
                            go_wp2_with fail
                            go_ret
                            exact ⟨by rw [HO.out]; rfl, (HK.then_ hK4).then_ hk5⟩
                          · go_wp2_with fail
                            refine (HI3.out w5).mono ?_
                            clear HI3
                            rintro e w6 ⟨rfl, hk6⟩
                            have HKX := ((HK.then_ hK4).then_ hk5).then_ hk6
                            have HBX := Lib.hid (hk6.blk HB5.out (fun h => h))
                            cases i3
                            · have HO : Hid (fv = false) := by unfold Hid; rw [HI.out, HDR.out, HLL.out]; rfl
                              clear HI HDR HLL
                              go_wp2_with fail
                              go_ret
                              exact ⟨by rw [HO.out]; rfl, HKX⟩
                            · have HO : Hid (fv = (linksV b.rs.length b.is.length (b.links.drop (k + 1)) && decide (x ≤ 400))) := by unfold Hid; rw [HI.out, HDR.out, HLL.out]; rfl
                              clear HI HDR HLL
                              go_wp2_with fail
                              go_roundw
                              case rel => exact ⟨k + 1, by omega, by go_num, HO, HBX, HKX⟩
                              case measure => simp [intOf]; omega
                    · obtain rfl : k = b.links.length := by omega
                      have HO : Hid (fv = decide (x ≤ 400)) := by unfold Hid; rw [HI.out, List.drop_length]; rfl
                      clear HI
                      go_wp2_with fail
                      go_ret
                      exact ⟨by rw [HO.out]; rfl, HK⟩
    · have q60 : decide (60 < (kc : Int)) = true := by simp; omega
      have HO : Hid (fv = false) := by unfold Hid; rw [HV.out, decide_eq_false h60]; rfl
      clear HV HCO
      go_wp2_with fail
      go_ret
      exact ⟨by rw [HO.out]; rfl, hK2⟩
end Go.Proofs.YthiclhbnggehoaaGreatDoor
/- What the reference's Fault and the law's few answer. -/
namespace Go.Proofs.YthiclhbnggehoaaGreatDoor
open Go.RowKit
set_option linter.unusedVariables false
set_option linter.unusedSimpArgs false
def faultE (b : Kb) (l : List Con) : Int := if isKbR b then if isAll b.cs.length b.rs.length l then 0 else 10 else 20
def fewLawB (b : Kb) (more : List Con) : Bool := fitAll more && (fewB b && decide (more.length ≤ 6))
end Go.Proofs.YthiclhbnggehoaaGreatDoor
/- The program's validity of concepts and knowledge bases is the reference's (but for names). -/
namespace Go.Proofs.YthiclhbnggehoaaGreatDoor
open Go.RowKit
set_option linter.unusedVariables false
set_option linter.unusedSimpArgs false
mutual
theorem validC_iff {nc nr : Nat} : ∀ (c : Con) (x y : Int), 0 ≤ x → 1 ≤ y → ((validC nc nr c x y).1 = true ↔ ((c.size : Int) ≤ x ∧ y - 1 + depthC c ≤ 20 ∧ fitC nc nr c = true))
  | ⟨op, n, args⟩, x, y, hx, hy => by
    have hd := depthL_le args
    simp only [validC, Con.size, depthC]
    by_cases hb : x - 1 < 0 ∨ 20 < y ∨ op < 0 ∨ 7 < op ∨ (args.length : Int) ≠ arityZ op
    · rw [if_pos hb]
      simp only [Bool.false_eq_true, false_iff]
      rintro ⟨h1, h2, h3⟩
      obtain ⟨f1, f2, _, _⟩ := fit_parts h3
      push_cast at h1
      rcases hb with hb | hb | hb | hb | hb
      · omega
      · omega
      · omega
      · omega
      · exact hb f2
    · rw [if_neg hb]
      by_cases hn : nodeOk nc nr op n = true
      · rw [if_pos hn]
        have h := validL_iff (nc := nc) (nr := nr) args (x - 1) (y + 1) (by omega) (by omega) (by omega)
        rw [h]
        push_cast
        constructor
        · rintro ⟨h1, h2, h3⟩
          exact ⟨by omega, by omega, fit_mk (by omega) (by omega) hn h3⟩
        · rintro ⟨h1, h2, h3⟩
          exact ⟨by omega, by omega, (fit_parts h3).2.2.2⟩
      · rw [if_neg hn]
        simp only [Bool.false_eq_true, false_iff]
        rintro ⟨h1, h2, h3⟩
        exact hn (fit_parts h3).2.2.1
theorem validL_iff {nc nr : Nat} : ∀ (l : List Con) (x y : Int), 0 ≤ x → 1 ≤ y → y ≤ 21 → ((validL nc nr l x y).1 = true ↔ ((Con.sizes l : Int) ≤ x ∧ y - 1 + depthL l ≤ 20 ∧ fitL nc nr l = true))
  | [], x, y, hx, hy, hy2 => by simp only [validL, Con.sizes, depthL, fitL]; simp; omega
  | c :: r, x, y, hx, hy, hy2 => by
    have h1 := validC_iff (nc := nc) (nr := nr) c x y hx hy
    have hdc := depth_le c
    have hdr := depthL_le r
    simp only [validL, Con.sizes, depthL, fitL, Bool.and_eq_true]
    push_cast
    by_cases hc : (validC nc nr c x y).1 = true
    · rw [if_pos hc]
      obtain ⟨e1, e2⟩ := validC_size hc
      rw [e1]
      rw [validL_iff r _ y (by omega) hy hy2]
      obtain ⟨g1, g2, g3⟩ := h1.1 hc
      constructor
      · rintro ⟨k1, k2, k3⟩; exact ⟨by omega, by omega, g3, k3⟩
      · rintro ⟨k1, k2, k3, k4⟩; exact ⟨by omega, by omega, k4⟩
    · rw [if_neg hc]
      constructor
      · intro h; exact absurd h hc
      · rintro ⟨k1, k2, k3, k4⟩
        exact absurd (h1.2 ⟨by omega, by omega, k3⟩) hc
end
theorem okC_isR (nc nr : Nat) (c : Con) : okC nc nr c = isR nc nr c := by
  unfold okC
  rw [Bool.eq_iff_iff, validC_iff c 400 1 (by omega) (by omega)]
  simp only [isR, smallR, Bool.and_eq_true, decide_eq_true_eq]
  constructor
  · rintro ⟨h1, h2, h3⟩; exact ⟨⟨by omega, by omega⟩, h3⟩
  · rintro ⟨⟨h1, h2⟩, h3⟩; exact ⟨by omega, by omega, h3⟩
theorem allOk_isAll (nc nr : Nat) (l : List Con) : allOk nc nr l = isAll nc nr l := by
  unfold allOk isAll
  congr 1
  funext c
  exact okC_isR nc nr c
theorem inclsV_iff {nc nr : Nat} : ∀ (l : List (Con × Con)) (x : Int), 0 ≤ x → x ≤ 400 → ((inclsV nc nr l x).1 = true ↔ (((Con.sizes (pairL l) : Nat) : Int) ≤ x ∧ isAll nc nr (pairL l) = true))
  | [], x, hx, _ => by simp [inclsV, pairL, Con.sizes, isAll]; exact hx
  | p :: r, x, hx, hx4 => by
    have h1 := validC_iff (nc := nc) (nr := nr) p.1 x 1 hx (by omega)
    have hsz : Con.sizes (pairL (p :: r)) = p.1.size + (p.2.size + Con.sizes (pairL r)) := by simp [pairL, Con.sizes]
    have hall : isAll nc nr (pairL (p :: r)) = (isR nc nr p.1 && (isR nc nr p.2 && isAll nc nr (pairL r))) := by simp [pairL, isAll]
    rw [hsz, hall]
    simp only [inclsV, Bool.and_eq_true]
    have small : ∀ c : Con, isR nc nr c = true ↔ (c.size ≤ 400 ∧ depthC c ≤ 20 ∧ fitC nc nr c = true) := fun c => by
      simp only [isR, smallR, Bool.and_eq_true, decide_eq_true_eq]; exact ⟨fun h => ⟨h.1.1, h.1.2, h.2⟩, fun h => ⟨⟨h.1, h.2.1⟩, h.2.2⟩⟩
    by_cases hc : (validC nc nr p.1 x 1).1 = true
    · rw [if_pos hc]
      obtain ⟨e1, e2⟩ := validC_size hc
      rw [e1]
      have h2 := validC_iff (nc := nc) (nr := nr) p.2 (x - p.1.size) 1 e2 (by omega)
      obtain ⟨g1, g2, g3⟩ := h1.1 hc
      by_cases hc2 : (validC nc nr p.2 (x - p.1.size) 1).1 = true
      · rw [if_pos hc2]
        obtain ⟨e3, e4⟩ := validC_size hc2
        obtain ⟨g4, g5, g6⟩ := h2.1 hc2
        rw [e3, inclsV_iff r _ e4 (by omega), small, small]
        push_cast
        constructor
        · rintro ⟨k1, k2⟩; exact ⟨by omega, ⟨by omega, by omega, g3⟩, ⟨by omega, by omega, g6⟩, k2⟩
        · rintro ⟨k1, _, _, k2⟩; exact ⟨by omega, k2⟩
      · rw [if_neg hc2]
        constructor
        · intro h; exact absurd h hc2
        · rintro ⟨k1, k2, k3, k4⟩
          rw [small] at k3
          push_cast at k1
          exact absurd (h2.2 ⟨by omega, by omega, k3.2.2⟩) hc2
    · rw [if_neg hc]
      constructor
      · intro h; exact absurd h hc
      · rintro ⟨k1, k2, k3, k4⟩
        rw [small] at k2
        push_cast at k1
        exact absurd (h1.2 ⟨by omega, by omega, k2.2.2⟩) hc
theorem factsV_iff {nc nr ni : Nat} : ∀ (l : List (Int × Con)) (x : Int), 0 ≤ x → x ≤ 400 → ((factsV nc nr ni l x).1 = true ↔ (((Con.sizes (l.map (·.2)) : Nat) : Int) ≤ x ∧ isAll nc nr (l.map (·.2)) = true ∧ factsI ni l = true))
  | [], x, hx, _ => by simp [factsV, Con.sizes, isAll, factsI]; exact hx
  | p :: r, x, hx, hx4 => by
    have h1 := validC_iff (nc := nc) (nr := nr) p.2 x 1 hx (by omega)
    have hsz : Con.sizes ((p :: r).map (·.2)) = p.2.size + Con.sizes (r.map (·.2)) := by simp [Con.sizes]
    have hall : isAll nc nr ((p :: r).map (·.2)) = (isR nc nr p.2 && isAll nc nr (r.map (·.2))) := by simp [isAll]
    have hfi : factsI ni (p :: r) = (indOk ni p.1 && factsI ni r) := by simp [factsI]
    rw [hsz, hall, hfi]
    simp only [factsV, Bool.and_eq_true]
    have small : ∀ c : Con, isR nc nr c = true ↔ (c.size ≤ 400 ∧ depthC c ≤ 20 ∧ fitC nc nr c = true) := fun c => by
      simp only [isR, smallR, Bool.and_eq_true, decide_eq_true_eq]; exact ⟨fun h => ⟨h.1.1, h.1.2, h.2⟩, fun h => ⟨⟨h.1, h.2.1⟩, h.2.2⟩⟩
    by_cases hi : indOk ni p.1 = true
    · rw [if_pos hi]
      by_cases hc : (validC nc nr p.2 x 1).1 = true
      · rw [if_pos hc]
        obtain ⟨e1, e2⟩ := validC_size hc
        obtain ⟨g1, g2, g3⟩ := h1.1 hc
        rw [e1, factsV_iff r _ e2 (by omega), small]
        push_cast
        constructor
        · rintro ⟨k1, k2, k3⟩; exact ⟨by omega, ⟨⟨by omega, by omega, g3⟩, k2⟩, hi, k3⟩
        · rintro ⟨k1, ⟨_, k2⟩, _, k3⟩; exact ⟨by omega, k2, k3⟩
      · rw [if_neg hc]
        constructor
        · intro h; exact absurd h hc
        · rintro ⟨k1, ⟨k2, _⟩, _⟩
          rw [small] at k2
          push_cast at k1
          exact absurd (h1.2 ⟨by omega, by omega, k2.2.2⟩) hc
    · rw [if_neg hi]
      simp only [Bool.false_eq_true, false_iff]
      rintro ⟨_, _, k, _⟩
      exact hi k
theorem isAll_append (nc nr : Nat) (a b : List Con) : isAll nc nr (a ++ b) = (isAll nc nr a && isAll nc nr b) := by simp [isAll]
theorem kbBody_eq (nc nr ni : Nat) (b : Kb) : kbBody nc nr ni b = (isAll nc nr (conceptsC b) && (rolesV nr b.roles && (factsI ni b.facts && (linksV nr ni b.links && decide (Con.sizes (conceptsC b) ≤ 400))))) := by
  unfold kbBody
  rw [Bool.eq_iff_iff]
  simp only [Bool.and_eq_true, decide_eq_true_eq]
  have h1 := inclsV_iff (nc := nc) (nr := nr) b.incls 400 (by omega) (by omega)
  have hc : conceptsC b = pairL b.incls ++ b.facts.map (·.2) := rfl
  rw [hc, isAll_append, sizes_append, Bool.and_eq_true]
  by_cases hi : (inclsV nc nr b.incls 400).1 = true
  · obtain ⟨g1, g2⟩ := h1.1 hi
    obtain ⟨i1, i2, _⟩ := inclsV_facts hi
    have hsz : inclsSz b.incls = Con.sizes (pairL b.incls) := by
      clear hc h1 hi g1 g2 i1 i2
      generalize b.incls = l
      induction l with
      | nil => rfl
      | cons p r ih => simp only [inclsSz, List.map_cons, List.sum_cons, pairL, List.flatMap_cons, List.cons_append, List.nil_append, Con.sizes] at ih ⊢; omega
    rw [hsz] at i1 i2
    rw [i1, factsV_iff b.facts _ (i2 (by omega)) (by omega)]
    constructor
    · rintro ⟨⟨⟨_, k2⟩, k3, k4, k5⟩, k6⟩; exact ⟨⟨g2, k4⟩, k2, k5, k6, by omega⟩
    · rintro ⟨⟨_, k4⟩, k2, k5, k6, k7⟩; exact ⟨⟨⟨hi, k2⟩, by omega, k4, k5⟩, k6⟩
  · constructor
    · rintro ⟨⟨⟨k1, _⟩, _⟩, _⟩; exact absurd k1 hi
    · rintro ⟨⟨k1, _⟩, _, _, _, k7⟩
      exact absurd (h1.2 ⟨by omega, k1⟩) hi
theorem kbValid_eq (b : Kb) (hn : validNamesB b.cs b.rs b.is = namesR b.cs b.rs b.is) : kbValidB b = isKbR b := by
  unfold kbValidB isKbR
  rw [hn, kbBody_eq, Bool.and_assoc]
theorem fault_eq (b : Kb) (l : List Con) (hn : validNamesB b.cs b.rs b.is = namesR b.cs b.rs b.is) : fineE (kbValidB b) b.cs.length b.rs.length l = faultE b l := by
  unfold fineE faultE
  rw [kbValid_eq b hn, allOk_isAll]
end Go.Proofs.YthiclhbnggehoaaGreatDoor
/- The program's names are the reference's: a word stands in the list of reserved ones, or its padded form in their string. -/
namespace Go.Proofs.YthiclhbnggehoaaGreatDoor
open Go.RowKit Go.Lib
set_option linter.unusedVariables false
set_option linter.unusedSimpArgs false
def containsR : List UInt8 → List UInt8 → Bool
  | [], sub => sub.isEmpty
  | b :: l, sub => sub.isPrefixOf (b :: l) || containsR l sub
theorem index_R (l sub : List UInt8) : 0 ≤ index l sub ↔ containsR l sub = true := by
  induction l with
  | nil => cases sub <;> simp [index, containsR]
  | cons b l ih =>
    have hg := index_ge l sub
    simp only [index, containsR, Bool.or_eq_true]
    by_cases hp : sub.isPrefixOf (b :: l) = true
    · rw [if_pos hp]
      exact ⟨fun _ => .inl hp, fun _ => by omega⟩
    · rw [if_neg hp]
      by_cases h1 : index l sub = -1
      · rw [if_pos (by simp [h1])]
        constructor
        · intro h; omega
        · rintro (h | h)
          · exact absurd h hp
          · have := ih.2 h; omega
      · rw [if_neg (by simpa using h1)]
        constructor
        · intro h; exact .inr (ih.1 (by omega))
        · rintro (h | h)
          · exact absurd h hp
          · have := ih.2 h; omega
theorem contains_R (l sub : List UInt8) : Lib.contains l sub = containsR l sub := by
  unfold Lib.contains
  rw [Bool.eq_iff_iff, decide_eq_true_eq]
  exact index_R l sub
theorem pre_word : ∀ (t w rest : List UInt8), (32 : UInt8) ∉ t → (32 : UInt8) ∉ w → (t ++ [32]).isPrefixOf (w ++ 32 :: rest) = decide (t = w)
  | [], [], rest, _, _ => by simp [List.isPrefixOf]
  | [], b :: w, rest, _, hw => by
    have hb : ¬ (32 : UInt8) = b := fun e => hw (by simp [← e])
    simp [List.isPrefixOf, hb]
  | a :: t, [], rest, ht, _ => by
    have ha : ¬ a = (32 : UInt8) := fun e => ht (by simp [e])
    simp [List.isPrefixOf, ha]
  | a :: t, b :: w, rest, ht, hw => by
    have h := pre_word t w rest (fun h => ht (List.mem_cons_of_mem _ h)) (fun h => hw (List.mem_cons_of_mem _ h))
    simp only [List.cons_append, List.isPrefixOf, h]
    rw [Bool.eq_iff_iff]
    simp
theorem skip_word (p : List UInt8) : ∀ (w l : List UInt8), (32 : UInt8) ∉ w → containsR (w ++ l) (32 :: p) = containsR l (32 :: p)
  | [], l, _ => rfl
  | b :: w, l, hw => by
    have hb : ¬ (32 : UInt8) = b := fun e => hw (by simp [← e])
    have h := skip_word p w l (fun h => hw (List.mem_cons_of_mem _ h))
    simp only [List.cons_append, containsR, h]
    simp [List.isPrefixOf, hb]
theorem cont_word (t w rest : List UInt8) (ht : (32 : UInt8) ∉ t) (hw : (32 : UInt8) ∉ w) : containsR (32 :: (w ++ 32 :: rest)) (32 :: (t ++ [32])) = (decide (t = w) || containsR (32 :: rest) (32 :: (t ++ [32]))) := by
  rw [containsR, skip_word _ w _ hw]
  congr 1
  simp only [List.isPrefixOf, beq_self_eq_true, Bool.true_and]
  exact pre_word t w rest ht hw
theorem cont_end (t : List UInt8) : containsR [32] (32 :: (t ++ [32])) = false := by
  simp only [containsR, List.isPrefixOf, beq_self_eq_true, Bool.true_and, List.isEmpty_cons, Bool.or_false]
  cases t <;> rfl
theorem reserved_eq (s : ByteArray) (hs : (32 : UInt8) ∉ s.data.toList) : Lib.contains reservedL (padL s) = reservedR s := by
  rw [contains_R]
  unfold padL reservedR
  rw [ByteArray.toList_eq]
  generalize s.data.toList = t at *
  rw [show reservedL = 32 :: ([116, 111, 112] ++ 32 :: ([98, 111, 116] ++ 32 :: ([110, 111, 116] ++ 32 :: ([97, 110, 100] ++ 32 :: ([111, 114] ++ 32 :: ([115, 111, 109, 101] ++ 32 :: ([97, 108, 108] ++ 32 :: ([99, 111, 110, 99, 101, 112, 116] ++ 32 :: ([114, 111, 108, 101] ++ 32 :: ([105, 110, 100] ++ 32 :: [])))))))))) from rfl]
  rw [cont_word _ _ _ hs (by decide), cont_word _ _ _ hs (by decide), cont_word _ _ _ hs (by decide), cont_word _ _ _ hs (by decide), cont_word _ _ _ hs (by decide), cont_word _ _ _ hs (by decide), cont_word _ _ _ hs (by decide), cont_word _ _ _ hs (by decide), cont_word _ _ _ hs (by decide), cont_word _ _ _ hs (by decide), cont_end]
  rw [Bool.eq_iff_iff]
  simp [reservedS]
theorem within_ok {s : ByteArray} {i : Nat} (h : i ≠ 0) : okAt s i = withinB (bAt s i) := by
  unfold okAt withinB digitB
  have : decide (i = 0) = false := decide_eq_false h
  rw [this]
  cases letterB (bAt s i) <;> simp
theorem inside_word {s : ByteArray} : insideB s 1 = wordFrom s 1 := by
  unfold insideB wordFrom
  rw [Bool.eq_iff_iff, List.all_eq_true, List.all_eq_true]
  constructor <;> intro h i hi <;> have h1 := h i hi <;> (have h2 : i ≠ 0 := by rw [List.mem_range'] at hi; obtain ⟨j, _, rfl⟩ := hi; omega)
  · rw [within_ok h2]; exact h1
  · rw [within_ok h2] at h1; exact h1
theorem no_space {s : ByteArray} (h : insideB s 0 = true) : (32 : UInt8) ∉ s.data.toList := by
  intro hm
  obtain ⟨i, hi, he⟩ := List.getElem_of_mem hm
  have hi2 : i < s.size := by simpa using hi
  unfold insideB at h
  rw [List.all_eq_true] at h
  have := h i (by rw [List.mem_range']; exact ⟨i, by omega, by omega⟩)
  have hb : bAt s i = 32 := by
    unfold bAt
    rw [dif_pos hi2]
    have : s[i] = (32 : UInt8) := by have h := he; simp only [Array.getElem_toList] at h; exact h
    rw [this]; rfl
  rw [hb] at this
  revert this
  decide
theorem name_eq (s : ByteArray) : nameB s = nameR s := by
  unfold nameB nameR wordR
  by_cases h0 : s.size = 0
  · simp [h0]
  · have hp : 0 < s.size := by omega
    have e1 : insideB s 0 = (withinB (bAt s 0) && insideB s 1) := insideB_step hp
    have e2 : wordFrom s 0 = (okAt s 0 && wordFrom s 1) := wordFrom_step hp
    have e3 : okAt s 0 = letterB (bAt s 0) := by unfold okAt; simp
    cases hl : letterB (bAt s 0)
    · rw [e2, e3, hl]; simp
    · have e4 : withinB (bAt s 0) = true := by unfold withinB; rw [hl]; rfl
      rw [e2, e3, hl, e1, e4, inside_word]
      cases hw : wordFrom s 1
      · simp
      · have hin : insideB s 0 = true := by rw [e1, e4, inside_word, hw]; rfl
        rw [reserved_eq s (no_space hin)]
        simp [h0]
theorem namesFrom_eq (l : List ByteArray) (k : Nat) : namesFrom l k = namesFromR l k := by
  unfold namesFrom namesFromR
  congr 1
  funext i
  rw [name_eq]
theorem names_eq (cs rs is : List ByteArray) : validNamesB cs rs is = namesR cs rs is := by
  unfold validNamesB namesR
  rw [namesFrom_eq, List.append_assoc]
end Go.Proofs.YthiclhbnggehoaaGreatDoor
