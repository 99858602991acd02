/-
  HierTrue (isagogelaw05): returns true for every knowledge base, list of concepts, int and concept, and leaves its arguments as they were: True reports whether the concept is true in the type, or the error.
  Conditions: those of the given card alone (the arguments can be read as data; the two tables of package concept hold what the program's text lays, which the card ties).
-/
/- The walk of isagogelaw05.HierTrue. -/
import Derived.Test.YtoafelppnagpbaaGreatDoorAwake
import Derived.Test.YtoafelppnagpbaaGreatDoorMarked
import Derived.Test.YtoafelppnagpbaaGreatDoorRCov
import Derived.Test.YtoafelppnagpbaaGreatDoorHTrue
import Derived.Test.YtoafelppnagpbaaGreatDoorConsRow
import Derived.Test.YtoafelppnagpbaaGreatDoorPTypes
import Derived.Test.YtoafelppnagpbaaGreatDoorPRef
import Derived.Test.YtoafelppnagpbaaGreatDoorCardKit
namespace Go.Proofs.YtoafelppnagpbaaGreatDoor
open Go.RowKit
set_option linter.unusedVariables false
set_option linter.unusedSimpArgs false
/-- Fault of a concept ahead of a list, as the law calls it. -/
theorem faultCons_calls (b : Kb) (p : KbA) (more : List Con) (c : Con) (vs : List Value) (A' : Option Addr) (cap' : Nat) (w : World) (hb : KbR (fun _ => True) w b p) (hv : Reads (fun _ => True) w more vs) (hc : ConR (fun _ => True) w c [.int .i64 c.op, .int .i64 c.n, .slice A' c.args.length cap']) (hf : fewLawB b (c :: more) = true)
    (g6 cap6 base : Nat) (w6 : World) (hk : Keeps (fun _ => False) w w6) (ho : w6.ownsRow base 39 3 (.slice (some ⟨g6, 0, none⟩) (1 + more.length) cap6) (1 + more.length) ([.int .i64 c.op, .int .i64 c.n, .slice A' c.args.length cap'] ++ vs)) :
    Calls Tryz.prog 12 #[.agg #[.slice p.a0 b.cs.length p.c0, .slice p.a1 b.rs.length p.c1, .slice p.a2 b.is.length p.c2, .slice p.a3 b.incls.length p.c3, .slice p.a4 b.roles.length p.c4, .slice p.a5 b.facts.length p.c5, .slice p.a6 b.links.length p.c6], .slice (some ⟨g6, 0, none⟩) (1 + more.length) cap6] w6 fun e w' => e = .returned (.int .i64 (faultE b (c :: more))) ∧ Keeps (fun _ => False) w6 w' := by
  obtain ⟨g3, g4, g5, g6', g0, g1, g2, g8⟩ := fewCons_parts hf
  have h := fault_calls b p (c :: more) (fun _ => True) (some ⟨g6, 0, none⟩) cap6 w6 (hb.keep hk (fun _ _ h => h)) (by omega) (by omega) (by omega) (by omega) (by omega) (by omega) (by omega) (((hv.cons hc).keep hk (fun _ _ h => h)).consAt ho trivial) (by simp; omega)
  rw [List.length_cons, Nat.add_comm] at h
  exact h
/-- What the law asks of the reference's side. -/
structure TrueOk (b : Kb) (more : List Con) (c : Con) : Prop where
  ref : RefOk b more
  sh : shapeC c = true
  shf : shapeC (nnfC c false) = true
  sz : (nnfC c false).size ≤ 40000
set_option maxRecDepth 100000 in
set_option maxHeartbeats 4000000 in
theorem hierTrue_walk (b : Kb) (p : KbA) (more : List Con) (t : Int) (c : Con) (A A' : Option Addr) (cap cap' : Nat) (w : World) (m : Int) (hm : w.cell? ⟨2, 0, none⟩ = some (.int .i64 m)) (ht : ArgsTab w) (hd : DualsTab w) (hb : KbR (fun _ => True) w b p)
    (hl : ConsAt (fun _ => True) w more A) (hcap : more.length ≤ cap) (hreach : more.length * 40 ≤ 140737488351232) (hc : ConR (fun _ => True) w c [.int .i64 c.op, .int .i64 c.n, .slice A' c.args.length cap'])
    (hpure : truthE b more t c = refTruthE (faultE b (c :: more)) (refMarks b more) (nnfC c false) t) (hok : fewLawB b (c :: more) = true → faultE b (c :: more) = 0 → TrueOk b more c) :
    Calls Tryz.prog 4 #[.agg #[.slice p.a0 b.cs.length p.c0, .slice p.a1 b.rs.length p.c1, .slice p.a2 b.is.length p.c2, .slice p.a3 b.incls.length p.c3, .slice p.a4 b.roles.length p.c4, .slice p.a5 b.facts.length p.c5, .slice p.a6 b.links.length p.c6], .slice A more.length cap, .int .i64 t, .agg #[.int .i64 c.op, .int .i64 c.n, .slice A' c.args.length cap']] w fun e w' => e = .returned (.bool true) ∧ Keeps (fun _ => False) w w' := by
  obtain ⟨vs, hvs, hsrc⟩ := hl.src (cap := cap)
  have HSRC := Lib.hid hsrc
  have HAW := Lib.hid (fun W (hk : Keeps (fun _ => False) w W) => awake_calls W m (hk.cell hm (fun h => h)) (ht.keep hk (fun h => h)) (hd.keep hk (fun h => h)))
  have HFEW := Lib.hid (fun g6 cap6 base w6 (hk : Keeps (fun _ => False) w w6) => fewCons_calls b p more c vs A' cap' w hb hvs hc (by omega) g6 cap6 base w6 hk)
  have HFT := Lib.hid (fun (hf : fewLawB b (c :: more) = true) g6 cap6 base w6 (hk : Keeps (fun _ => False) w w6) => faultCons_calls b p more c vs A' cap' w hb hvs hc hf g6 cap6 base w6 hk)
  have HMK := Lib.hid (fun W (hk : Keeps (fun _ => False) w W) (hR : RefOk b more) => marksR_calls b p more (fun _ => True) A cap W (hb.keep hk (fun _ _ h => h)) (hl.keep hk (fun _ _ h => h)) hR.hli hR.hlf hR.hlm hR.hfi hR.hff hR.hfm hR.s0 hR.s1 hR.s2 hR.s3 hR.hsi hR.hsf hR.hsm)
  have HFM := Lib.hid (fun W (hk : Keeps (fun _ => False) w W) (hs : shapeC c = true) => form_calls (c.size + 1) c false A' cap' (fun _ => True) W (by omega) hs (hc.keep hk (fun _ _ h => h)))
  have HTR := Lib.hid (fun W (hk : Keeps (fun _ => False) w W) (hf : fewLawB b (c :: more) = true) => by
    obtain ⟨g3, g4, g5, g6, g0, g1, g2, g8⟩ := fewCons_parts hf
    exact truth_calls b p more t c (fun _ => True) A A' cap cap' W m (hk.cell hm (fun h => h)) (ht.keep hk (fun h => h)) (hd.keep hk (fun h => h)) (hb.keep hk (fun _ _ h => h)) (by omega) (by omega) (by omega) (by omega) (hl.keep hk (fun _ _ h => h)) hcap (by omega) (hc.keep hk (fun _ _ h => h)))
  have HPU := Lib.hid hpure
  have HOK := Lib.hid hok
  clear hsrc hm ht hd hb hl hc hvs hpure hok
  have HCVD := Lib.hid (fun ms AL capL okl hll A1 cap1 ok W hl hc h1 h2 => covR_calls ms AL capL okl hll ((nnfC c false).size + 1) (nnfC c false) A1 cap1 ok W (Nat.lt_succ_self _) h1 h2 hl hc)
  have HTRR := Lib.hid (fun ms AL capL okl hll A1 cap1 ok W hl hc h1 h2 hcv => trueR_calls ms t AL capL okl hll ((nnfC c false).size + 1) (nnfC c false) A1 cap1 ok W (Nat.lt_succ_self _) h1 hcv h2 hl hc)
  generalize hte : truthE b more t c = te at *
  generalize faultE b (c :: more) = fe at *
  generalize refMarks b more = ms at *
  have HOK2 : Hid (fewLawB b (c :: more) = true → fe = 0 → RefOk b more ∧ shapeC c = true ∧ shapeC (nnfC c false) = true ∧ (nnfC c false).size ≤ 40000) := fun h1 h2 => ⟨(HOK.out h1 h2).ref, (HOK.out h1 h2).sh, (HOK.out h1 h2).shf, (HOK.out h1 h2).sz⟩
  clear HOK
  generalize nnfC c false = f at *
  generalize fewLawB b (c :: more) = fv at *
  generalize (RefOk b more) = RO at *
  obtain ⟨x, ex⟩ := te
  dsimp only at HTR
  clear hte
  obtain ⟨a0, a1, a2, a3, a4, a5, a6, c0, c1, c2, c3, c4, c5, c6⟩ := p
  dsimp only at HFEW HFT HMK HTR ⊢
  go_enter Tryz.func4, Tryz.ntmps4
  go_wp2_with fail
  generalize hW0 : World.alloc _ _ = W0
  have hK0 : Keeps (fun _ => False) w W0 := by rw [← hW0]; repeat (first | exact Keeps.refl _ _ | refine Keeps.drewN ?_ _ | refine Keeps.drew ?_ | refine Keeps.alloc ?_ _ | refine Keeps.set ?_ (Or.inl (by rfl)) _)
  have hb0 : W0.heap[w.heap.size]? = some (.cells #[.slice a0 b.cs.length c0, .slice a1 b.rs.length c1, .slice a2 b.is.length c2, .slice a3 b.incls.length c3, .slice a4 b.roles.length c4, .slice a5 b.facts.length c5, .slice a6 b.links.length c6] 30 (0, 0)) := by rw [← hW0]; exact blkAlloc (blkNew rfl) _
  have hc0 : W0.heap[w.heap.size + 1]? = some (.cells #[.int .i64 c.op, .int .i64 c.n, .slice A' c.args.length cap'] 39 (0, 0)) := by rw [← hW0]; exact blkNew (by simp)
  clear hW0
  have HB0 := Lib.hid hb0
  have HC0 := Lib.hid hc0
  have HK0 := Lib.hid hK0
  obtain ⟨x0, x1, x2, x3, x4, x5, x6⟩ := cells7 hb0
  obtain ⟨y0, y1, y2⟩ := cells3 hc0
  have hl0 := blkLt hb0
  have hl1 := blkLt hc0
  clear hb0 hc0 hK0
  go_cut [21] from 15 (fun v wc => v = .bool (!fv) ∧ Keeps (fun _ => False) W0 wc)
  case first =>
    go_region_law
     (first
      | (refine step_call (by rfl) 6 #[.agg #[.slice a0 b.cs.length c0, .slice a1 b.rs.length c1, .slice a2 b.is.length c2, .slice a3 b.incls.length c3, .slice a4 b.roles.length c4, .slice a5 b.facts.length c5, .slice a6 b.links.length c6], .slice (some ⟨g6, 0, none⟩) (1 + more.length) cap6] (by first | (go_simp; done) | (go_simp; rfl)) ?_; refine (HFEW.out g6 cap6 _ _ (HK0.out.then_ (hkk6.then_ (by repeat (first | exact Keeps.refl _ _ | refine Keeps.drewN ?_ _ | refine Keeps.drew ?_ | refine Keeps.alloc ?_ _ | refine Keeps.set ?_ (Or.inl (by rfl)) _)))) (ownsKeep (S := fun _ => False) HO6.out (by repeat (first | exact Keeps.refl _ _ | refine Keeps.drewN ?_ _ | refine Keeps.drew ?_ | refine Keeps.alloc ?_ _ | refine Keeps.set ?_ (Or.inl (by rfl)) _)) (fun _ _ h => h))).mono ?_; rintro e w7 ⟨rfl, hk7⟩; refine ⟨_, rfl, ?_⟩; have hkk7 := (hkk6.then_ (show Keeps (fun _ => False) w6 _ from by repeat (first | exact Keeps.refl _ _ | refine Keeps.drewN ?_ _ | refine Keeps.drew ?_ | refine Keeps.alloc ?_ _ | refine Keeps.set ?_ (Or.inl (by rfl)) _))).then_ hk7)
      | (refine step_appG rfl _ _ 31 31 (by rfl) W0.heap.size 39 _ 3 40 Tryz.underlying31 infoCon rfl (by decide) (by decide) (.slice (some ⟨W0.heap.size, 0, none⟩) 1 1) 1 [.int .i64 c.op, .int .i64 c.n, .slice A' c.args.length cap'] (ownsOne (by omega) (by first | exact blkNew (by first | rfl | simp) | exact blkAlloc (blkNew (by first | rfl | simp)) _)) (by rfl) (.slice A more.length cap) more.length vs (HSRC.out _ (HK0.out.then_ (by repeat (first | exact Keeps.refl _ _ | refine Keeps.drewN ?_ _ | refine Keeps.drew ?_ | refine Keeps.alloc ?_ _ | refine Keeps.set ?_ (Or.inl (by rfl)) _)))) (by rfl) (by omega) (by first | (simp; done) | (simp; omega)) ?_; intro v6 w6 ho6 hk6; obtain ⟨g6, cap6, rfl, hg6⟩ := own_slice1 ho6 (by omega); have hkk6 := (Keeps.of0 (S := fun k => (Value.slice (some ⟨W0.heap.size, 0, none⟩) 1 1).ownBlock = some k) (show Keeps (fun _ => False) W0 _ from by repeat (first | exact Keeps.refl _ _ | refine Keeps.drewN ?_ _ | refine Keeps.drew ?_ | refine Keeps.alloc ?_ _ | refine Keeps.set ?_ (Or.inl (by rfl)) _))).then_ hk6 |>.new (fun i hi => by simp [Value.ownBlock] at hi; omega); obtain ⟨p50, p51, p52, p53, p54, p55, p56⟩ := cells7 (hkk6.blk HB0.out (fun h => h)); obtain ⟨q50, q51, q52⟩ := cells3 (hkk6.blk HC0.out (fun h => h)); have hw5a := blkLt (hkk6.blk HB0.out (fun h => h)); have hw5b := blkLt (hkk6.blk HC0.out (fun h => h)); have HO6 := Lib.hid ho6; clear ho6)
      | fail)
    all_goals
      go_wp2_with fail
      go_meet
      exact ⟨rfl, hkk7⟩
  case rest =>
    obtain ⟨rfl, hkc⟩ := hcut
    have HK1 := Lib.hid (HK0.out.then_ hkc)
    have HB1 := Lib.hid (hkc.blk HB0.out (fun h => h))
    have HC1 := Lib.hid (hkc.blk HC0.out (fun h => h))
    clear x0 x1 x2 x3 x4 x5 x6 y0 y1 y2 hkc HFEW hl0 hl1 HB0 HC0
    obtain ⟨x0, x1, x2, x3, x4, x5, x6⟩ := cells7 HB1.out
    obtain ⟨y0, y1, y2⟩ := cells3 HC1.out
    cases fv
    · go_wp2_with fail
      refine (HAW.out _ HK1.out).mono ?_
      rintro e w2 ⟨rfl, hk2⟩
      go_wp2_with fail
      go_ret
      exact ⟨rfl, HK1.out.then_ hk2⟩
    · have HT1 := Lib.hid (HTR.out wc HK1.out rfl)
      have HFT1 := Lib.hid (HFT.out rfl)
      have HOK3 := Lib.hid (HOK2.out rfl)
      clear HTR HFT HOK2
      go_wp2_with fail
      refine HT1.out.mono ?_
      clear HT1
      rintro e w2 ⟨rfl, hk2⟩
      have HK2 := Lib.hid (HK1.out.then_ hk2)
      have HB2 := Lib.hid (hk2.blk HB1.out (fun h => h))
      have HC2 := Lib.hid (hk2.blk HC1.out (fun h => h))
      clear hk2 HK1 HB1 HC1
      clear x0 x1 x2 x3 x4 x5 x6 y0 y1 y2
      obtain ⟨x0, x1, x2, x3, x4, x5, x6⟩ := cells7 HB2.out
      obtain ⟨y0, y1, y2⟩ := cells3 HC2.out
      have hs2 := blkLt HB2.out
      have ht2 := blkLt HC2.out
      go_upto_region 4 with fail
      go_cut [11, 12] from 31 (fun v v' w3 => v = .int .i64 fe ∧ v' = .bool false ∧ Keeps (fun _ => False) w2 w3)
      case first =>
        go_region_law
         (first
          | (refine step_call (by rfl) 12 #[.agg #[.slice a0 b.cs.length c0, .slice a1 b.rs.length c1, .slice a2 b.is.length c2, .slice a3 b.incls.length c3, .slice a4 b.roles.length c4, .slice a5 b.facts.length c5, .slice a6 b.links.length c6], .slice (some ⟨g6, 0, none⟩) (1 + more.length) cap6] (by first | (go_simp; done) | (go_simp; rfl)) ?_; refine (HFT1.out g6 cap6 _ _ (HK2.out.then_ (hkk6.then_ (by repeat (first | exact Keeps.refl _ _ | refine Keeps.drewN ?_ _ | refine Keeps.drew ?_ | refine Keeps.alloc ?_ _ | refine Keeps.set ?_ (Or.inl (by rfl)) _)))) (ownsKeep (S := fun _ => False) HO6.out (by repeat (first | exact Keeps.refl _ _ | refine Keeps.drewN ?_ _ | refine Keeps.drew ?_ | refine Keeps.alloc ?_ _ | refine Keeps.set ?_ (Or.inl (by rfl)) _)) (fun _ _ h => h))).mono ?_; rintro e w7 ⟨rfl, hk7⟩; refine ⟨_, rfl, ?_⟩; have hkk7 := (hkk6.then_ (show Keeps (fun _ => False) w6 _ from by repeat (first | exact Keeps.refl _ _ | refine Keeps.drewN ?_ _ | refine Keeps.drew ?_ | refine Keeps.alloc ?_ _ | refine Keeps.set ?_ (Or.inl (by rfl)) _))).then_ hk7)
          | (refine step_appG rfl _ _ 31 31 (by rfl) w2.heap.size 39 _ 3 40 Tryz.underlying31 infoCon rfl (by decide) (by decide) (.slice (some ⟨w2.heap.size, 0, none⟩) 1 1) 1 [.int .i64 c.op, .int .i64 c.n, .slice A' c.args.length cap'] (ownsOne (by omega) (by first | exact blkNew (by first | rfl | simp) | exact blkAlloc (blkNew (by first | rfl | simp)) _)) (by rfl) (.slice A more.length cap) more.length vs (HSRC.out _ (HK2.out.then_ (by repeat (first | exact Keeps.refl _ _ | refine Keeps.drewN ?_ _ | refine Keeps.drew ?_ | refine Keeps.alloc ?_ _ | refine Keeps.set ?_ (Or.inl (by rfl)) _)))) (by rfl) (by omega) (by first | (simp; done) | (simp; omega)) ?_; intro v6 w6 ho6 hk6; obtain ⟨g6, cap6, rfl, hg6⟩ := own_slice1 ho6 (by omega); have hkk6 := (Keeps.of0 (S := fun k => (Value.slice (some ⟨w2.heap.size, 0, none⟩) 1 1).ownBlock = some k) (show Keeps (fun _ => False) w2 _ from by repeat (first | exact Keeps.refl _ _ | refine Keeps.drewN ?_ _ | refine Keeps.drew ?_ | refine Keeps.alloc ?_ _ | refine Keeps.set ?_ (Or.inl (by rfl)) _))).then_ hk6 |>.new (fun i hi => by simp [Value.ownBlock] at hi; omega); obtain ⟨p50, p51, p52, p53, p54, p55, p56⟩ := cells7 (hkk6.blk HB2.out (fun h => h)); obtain ⟨q50, q51, q52⟩ := cells3 (hkk6.blk HC2.out (fun h => h)); have hw5a := blkLt (hkk6.blk HB2.out (fun h => h)); have hw5b := blkLt (hkk6.blk HC2.out (fun h => h)); have HO6 := Lib.hid ho6; clear ho6)
          | fail)
        all_goals
          go_wp2_with fail
          go_meet
          exact ⟨rfl, rfl, hkk7⟩
      case rest =>
        obtain ⟨rfl, rfl, hkc⟩ := hcut
        have HK3 := Lib.hid (HK2.out.then_ hkc)
        have HB3 := Lib.hid (hkc.blk HB2.out (fun h => h))
        have HC3 := Lib.hid (hkc.blk HC2.out (fun h => h))
        clear x0 x1 x2 x3 x4 x5 x6 y0 y1 y2 hkc HFT1 HSRC HB2 HC2 HK2 hs2 ht2
        obtain ⟨x0, x1, x2, x3, x4, x5, x6⟩ := cells7 HB3.out
        obtain ⟨y0, y1, y2⟩ := cells3 HC3.out
        have hs3 := blkLt HB3.out
        have ht3 := blkLt HC3.out
        by_cases hfe : fe = 0
        · subst hfe
          obtain ⟨hR, hsc, hsf, hzf⟩ := HOK3.out rfl
          have HMK1 := Lib.hid (HMK.out wc HK3.out hR)
          have HFM1 := Lib.hid (fun W hk => HFM.out W hk hsc)
          unfold RetCon at HFM1
          have HP := HPU.out
          unfold refTruthE at HP
          rw [if_pos rfl] at HP
          have HPX := Lib.hid HP
          clear HMK HFM HPU HP HOK3 hR
          go_wp2_with fail
          refine HMK1.out.mono ?_
          clear HMK1
          rintro e w4 ⟨v, rfl, ho, hk4⟩
          obtain ⟨AL, capL, rfl, _, hca⟩ := ho.consAt
          have HCA := Lib.hid hca
          have HK4 := Lib.hid (HK3.out.then_ hk4)
          have HB4 := Lib.hid (hk4.blk HB3.out (fun h => h))
          have HC4 := Lib.hid (hk4.blk HC3.out (fun h => h))
          clear hk4 ho hca HB3 HC3 HK3 hs3 ht3 x0 x1 x2 x3 x4 x5 x6 y0 y1 y2
          obtain ⟨y0, y1, y2⟩ := cells3 HC4.out
          have ht4 := blkLt HC4.out
          go_wp2_with fail
          refine (HFM1.out _ (HK4.out)).mono ?_
          clear HFM1
          rintro e w5 ⟨A5, cap5, rfl, hr5, hk5⟩
          have HCA5 := Lib.hid (HCA.out.keep hk5 (fun _ _ h => h))
          have HR5 := Lib.hid hr5
          have HK5 := Lib.hid (HK4.out.then_ hk5)
          clear hk5 hr5 HCA HB4 HC4 HK4 ht4 y0 y1 y2
          by_cases h8 : ms.length ≤ 8
          · have q8 : decide (8 < (ms.length : Int)) = false := by simp; omega
            have hsh : wrap64 ((2 : Int) ^ ms.length) = 2 ^ ms.length := sh_ok ms.length h8
            have HP2 := HPX.out
            rw [if_pos h8] at HP2
            have HPY := Lib.hid HP2
            clear HPX HP2
            have hka : Keeps (fun _ => False) w5 (w5.alloc (.cells #[.int .i64 f.op, .int .i64 f.n, .slice A5 f.args.length cap5] 39)) := (Keeps.refl _ _).alloc _
            have hb6 : (w5.alloc (.cells #[.int .i64 f.op, .int .i64 f.n, .slice A5 f.args.length cap5] 39)).heap[w5.heap.size]? = some (.cells #[.int .i64 f.op, .int .i64 f.n, .slice A5 f.args.length cap5] 39 (0, 0)) := blkNew rfl
            have HB6 := Lib.hid hb6
            have HKA := Lib.hid (HK5.out.then_ hka)
            have HCV1 := Lib.hid (HCVD.out ms AL capL _ (by omega) A5 cap5 _ _ (HCA5.out.keep hka (fun _ _ h => h)) (HR5.out.keep hka (fun _ _ h => h)) hsf hzf)
            have HTR1 := Lib.hid (fun W (hk : Keeps (fun _ => False) w5 W) hcv => HTRR.out ms AL capL _ (by omega) A5 cap5 _ W (HCA5.out.keep hk (fun _ _ h => h)) (HR5.out.keep hk (fun _ _ h => h)) hsf hzf hcv)
            have HKB := Lib.hid hka
            clear HCVD HTRR HCA5 HR5 hka hb6
            generalize trueR ms t f = tr at *
            generalize covR ms f = cv at *
            by_cases ht0 : t < 0
            · have HP2 := HPY.out
              rw [if_pos (.inl ht0), Prod.mk.injEq] at HP2
              obtain ⟨rfl, rfl⟩ := HP2
              clear HPY HCV1 HTR1
              go_wp2_with fail
              refine (HAW.out _ HKA.out).mono ?_
              rintro e w6 ⟨rfl, hk6⟩
              go_wp2_with fail
              go_ret
              exact ⟨rfl, HKA.out.then_ hk6⟩
            · by_cases ht1 : 2 ^ ms.length ≤ t
              · have HP2 := HPY.out
                rw [if_pos (.inr (.inl ht1)), Prod.mk.injEq] at HP2
                obtain ⟨rfl, rfl⟩ := HP2
                clear HPY HCV1 HTR1
                go_wp2_with fail
                refine (HAW.out _ HKA.out).mono ?_
                rintro e w6 ⟨rfl, hk6⟩
                go_wp2_with fail
                go_ret
                exact ⟨rfl, HKA.out.then_ hk6⟩
              · go_wp2_with fail
                refine HCV1.out.mono ?_
                clear HCV1
                rintro e w6 ⟨rfl, hk6⟩
                have HK6 := Lib.hid (HKB.out.then_ hk6)
                obtain ⟨z0, z1, z2⟩ := cells3 (hk6.blk HB6.out (fun h => h))
                have hz6 := blkLt (hk6.blk HB6.out (fun h => h))
                clear hk6
                cases cv
                · have HP2 := HPY.out
                  rw [if_pos (.inr (.inr rfl)), Prod.mk.injEq] at HP2
                  obtain ⟨rfl, rfl⟩ := HP2
                  clear HPY HTR1
                  go_wp2_with fail
                  refine (HAW.out _ (HK5.out.then_ HK6.out)).mono ?_
                  rintro e w7 ⟨rfl, hk7⟩
                  go_wp2_with fail
                  go_ret
                  exact ⟨rfl, (HK5.out.then_ HK6.out).then_ hk7⟩
                · have HP2 := HPY.out
                  rw [if_neg (by intro h; rcases h with h | h | h; omega; omega; cases h), Prod.mk.injEq] at HP2
                  obtain ⟨rfl, rfl⟩ := HP2
                  clear HPY
                  go_wp2_with fail
                  refine (HTR1.out w6 HK6.out (by trivial)).mono ?_
                  clear HTR1
                  rintro e w7 ⟨rfl, hk7⟩
                  go_wp2_with fail
                  refine (HAW.out _ ((HK5.out.then_ HK6.out).then_ hk7)).mono ?_
                  rintro e w8 ⟨rfl, hk8⟩
                  go_wp2_with fail
                  go_ret
                  exact ⟨rfl, ((HK5.out.then_ HK6.out).then_ hk7).then_ hk8⟩
          · have q8 : decide (8 < (ms.length : Int)) = true := by simp; omega
            have HP2 := HPX.out
            rw [if_neg h8, Prod.mk.injEq] at HP2
            obtain ⟨rfl, rfl⟩ := HP2
            clear HPX
            go_wp2_with fail
            refine (HAW.out _ (HK5.out.then_ (by repeat (first | exact Keeps.refl _ _ | refine Keeps.drewN ?_ _ | refine Keeps.drew ?_ | refine Keeps.alloc ?_ _ | refine Keeps.set ?_ (Or.inl (by rfl)) _)))).mono ?_
            rintro e w6 ⟨rfl, hk6⟩
            go_wp2_with fail
            go_ret
            exact ⟨rfl, (HK5.out.then_ (by repeat (first | exact Keeps.refl _ _ | refine Keeps.drewN ?_ _ | refine Keeps.drew ?_ | refine Keeps.alloc ?_ _ | refine Keeps.set ?_ (Or.inl (by rfl)) _))).then_ hk6⟩
        · have HP := HPU.out
          unfold refTruthE at HP
          rw [if_neg hfe, Prod.mk.injEq] at HP
          obtain ⟨rfl, rfl⟩ := HP
          have hfd : (ex == 0) = false := by simpa using hfe
          have hfd2 : decide (ex = 0) = false := decide_eq_false hfe
          clear HPU HMK HFM HOK3
          go_wp2_with fail
          refine (HAW.out _ HK3.out).mono ?_
          rintro e w6 ⟨rfl, hk6⟩
          go_wp2_with fail
          go_ret
          exact ⟨rfl, HK3.out.then_ hk6⟩
end Go.Proofs.YtoafelppnagpbaaGreatDoor
/- Pure: the reference's Covered and True are the program's. -/
namespace Go.Proofs.YtoafelppnagpbaaGreatDoor
open Go.RowKit
set_option linter.unusedVariables false
set_option linter.unusedSimpArgs false
section
variable {cs rs : List ByteArray}
def plK (cs rs : List ByteArray) (ms : List Con) (k : Nat) : List (ByteArray × Int) := (ms.zipIdx k).map fun x => (textC cs rs x.1, (x.2 : Int))
theorem placeK_ge (c : Con) : ∀ (l : List Con) (k : Nat), placeK c l k = -1 ∨ (k : Int) ≤ placeK c l k
  | [], k => .inl rfl
  | d :: r, k => by
    unfold placeK
    split
    · exact .inr (Int.le_refl _)
    · rcases placeK_ge c r (k + 1) with h | h
      · exact .inl h
      · exact .inr (by omega)
theorem find_plK (hc : Nm cs) (hr : Nm rs) {c : Con} (hf : fitC cs.length rs.length c = true) : ∀ (l : List Con) (k : Nat), FitAll cs.length rs.length l → findL (plK cs rs l k) (textC cs rs c) = if placeK c l k < 0 then none else some (placeK c l k)
  | [], k, _ => by simp [findL, plK, placeK]
  | d :: r, k, hm => by
    have ih := find_plK hc hr hf r (k + 1) (fun x hx => hm x (by simp [hx]))
    have e : plK cs rs (d :: r) k = (textC cs rs d, (k : Int)) :: plK cs rs r (k + 1) := by simp [plK, List.zipIdx_cons]
    rw [e]
    unfold placeK
    by_cases h : sameC c d = true
    · have hcd := sameC_eq h
      subst hcd
      rw [if_pos h, if_neg (by omega)]
      simp [findL]
    · rw [if_neg h]
      have hne : ¬ textC cs rs d = textC cs rs c := fun e2 => h (by rw [text_inj hc hr (hm d (by simp)) hf e2]; exact sameC_self c)
      rw [← ih]
      unfold findL
      rw [List.find?_cons_of_neg (by simpa using hne)]
theorem find_place (hc : Nm cs) (hr : Nm rs) {c : Con} {ms : List Con} (hf : fitC cs.length rs.length c = true) (hm : FitAll cs.length rs.length ms) : findL (plOf cs rs ms) (textC cs rs c) = if placeZ ms c < 0 then none else some (placeZ ms c) := find_plK hc hr hf ms 0 hm
theorem seen_place (hc : Nm cs) (hr : Nm rs) {c : Con} {ms : List Con} (hf : fitC cs.length rs.length c = true) (hm : FitAll cs.length rs.length ms) : seenP (plOf cs rs ms) (textC cs rs c) = decide (0 ≤ placeZ ms c) := by
  unfold seenP
  rw [find_place hc hr hf hm]
  by_cases h : placeZ ms c < 0
  · rw [if_pos h, decide_eq_false (by omega)]; rfl
  · rw [if_neg h, decide_eq_true (by omega)]; rfl
theorem num_place (hc : Nm cs) (hr : Nm rs) {c : Con} {ms : List Con} (hf : fitC cs.length rs.length c = true) (hm : FitAll cs.length rs.length ms) (h0 : 0 ≤ placeZ ms c) : numP (plOf cs rs ms) (textC cs rs c) = placeZ ms c := by
  unfold numP
  rw [find_place hc hr hf hm, if_neg (by omega)]; rfl
theorem fit_one {nc nr : Nat} {op n : Int} {d : Con} (h : fitC nc nr ⟨op, n, [d]⟩ = true) : fitC nc nr d = true := by
  obtain ⟨_, _, _, hl⟩ := fit_parts h
  simpa only [fitL, Bool.and_true] using hl
theorem fit_two {nc nr : Nat} {op n : Int} {d e : Con} (h : fitC nc nr ⟨op, n, [d, e]⟩ = true) : fitC nc nr d = true ∧ fitC nc nr e = true := by
  obtain ⟨_, _, _, hl⟩ := fit_parts h
  simpa only [fitL, Bool.and_true, Bool.and_eq_true] using hl
theorem cr0 (ms : List Con) (n : Int) : covR ms ⟨0, n, []⟩ = decide (0 ≤ placeZ ms ⟨0, n, []⟩) := by simp [covR]
theorem cr1 (ms : List Con) (n : Int) : covR ms ⟨1, n, []⟩ = true := by simp [covR, covRL]
theorem cr2 (ms : List Con) (n : Int) : covR ms ⟨2, n, []⟩ = true := by simp [covR, covRL]
theorem cr3 (ms : List Con) (n : Int) (d : Con) : covR ms ⟨3, n, [d]⟩ = covR ms d := by simp [covR, covRL]
theorem cr4 (ms : List Con) (n : Int) (d e : Con) : covR ms ⟨4, n, [d, e]⟩ = (covR ms d && covR ms e) := by simp [covR, covRL]
theorem cr5 (ms : List Con) (n : Int) (d e : Con) : covR ms ⟨5, n, [d, e]⟩ = (covR ms d && covR ms e) := by simp [covR, covRL]
theorem cr6 (ms : List Con) (n : Int) (d : Con) : covR ms ⟨6, n, [d]⟩ = (decide (0 ≤ placeZ ms ⟨6, n, [d]⟩) && covR ms d) := by
  rw [covR, if_neg (by decide), quant_some]
  by_cases h : placeZ ms ⟨6, n, [d]⟩ < 0
  · rw [if_pos ⟨.inl rfl, h⟩, decide_eq_false (by omega)]; rfl
  · rw [if_neg (fun h2 => h h2.2), decide_eq_true (by omega)]; simp [covRL]
theorem cr7 (ms : List Con) (n : Int) (d : Con) : covR ms ⟨7, n, [d]⟩ = (decide (0 ≤ placeZ ms ⟨6, n, [nnfC d true]⟩) && covR ms d) := by
  rw [covR, if_neg (by decide), quant_all]
  by_cases h : placeZ ms ⟨6, n, [nnfC d true]⟩ < 0
  · rw [if_pos ⟨.inr rfl, h⟩, decide_eq_false (by omega)]; rfl
  · rw [if_neg (fun h2 => h h2.2), decide_eq_true (by omega)]; simp [covRL]
theorem cov_ref (hc : Nm cs) (hr : Nm rs) {ms : List Con} (hm : FitAll cs.length rs.length ms) {c : Con} (h : Sh c) : fitC cs.length rs.length c = true → covC cs rs (plOf cs rs ms) c = covR ms c := by
  induction h with
  | name n => intro hf; rw [cov_eq0, cr0, seen_place hc hr hf hm]
  | top n => intro _; rw [cov_eq1, cr1]
  | bot n => intro _; rw [cov_eq2, cr2]
  | not n _ ih => intro hf; rw [cov_eq3, cr3, ih (fit_one hf)]
  | and n _ _ ih ik => intro hf; rw [cov_eq4, cr4, ih (fit_two hf).1, ik (fit_two hf).2]
  | or n _ _ ih ik => intro hf; rw [cov_eq5, cr5, ih (fit_two hf).1, ik (fit_two hf).2]
  | some n _ ih => intro hf; rw [cov_eq6, cr6, ih (fit_one hf), seen_place hc hr hf hm]
  | all n _ ih =>
    intro hf
    have hq := fit_quant hf (.inr rfl)
    rw [quant_all] at hq
    rw [cov_eq7, cr7, ih (fit_one hf), seen_place hc hr hq hm]
theorem rt0 (ms : List Con) (t n : Int) : trueR ms t ⟨0, n, []⟩ = bitB t (placeZ ms ⟨0, n, []⟩) := by simp [trueR]
theorem rt1 (ms : List Con) (t n : Int) : trueR ms t ⟨1, n, []⟩ = true := by simp [trueR]
theorem rt2 (ms : List Con) (t n : Int) : trueR ms t ⟨2, n, []⟩ = false := by simp [trueR]
theorem rt3 (ms : List Con) (t n : Int) (d : Con) : trueR ms t ⟨3, n, [d]⟩ = !trueR ms t d := by simp [trueR, trueR1]
theorem rt4 (ms : List Con) (t n : Int) (d e : Con) : trueR ms t ⟨4, n, [d, e]⟩ = (trueR ms t d && trueR ms t e) := by simp [trueR, trueR1, trueR2]
theorem rt5 (ms : List Con) (t n : Int) (d e : Con) : trueR ms t ⟨5, n, [d, e]⟩ = (trueR ms t d || trueR ms t e) := by simp [trueR, trueR1, trueR2]
theorem rt6 (ms : List Con) (t n : Int) (d : Con) : trueR ms t ⟨6, n, [d]⟩ = bitB t (placeZ ms ⟨6, n, [d]⟩) := by simp [trueR]
theorem rt7 (ms : List Con) (t n : Int) (d : Con) : trueR ms t ⟨7, n, [d]⟩ = zeroB t (placeZ ms ⟨6, n, [nnfC d true]⟩) := by simp [trueR, quant_all]
theorem zero_bit (t n : Int) : zeroB t n = !bitB t n := by
  unfold zeroB bitB
  generalize t / 2 ^ n.toNat = x
  have h : bits BinOp.and IntKind.i64 x 1 = 0 ∨ bits BinOp.and IntKind.i64 x 1 = 1 := by
    simp only [bits, BitVec.toNat_and]
    have e : (BitVec.ofInt IntKind.i64.bits 1).toNat = 1 := by decide
    rw [e, Nat.and_one_is_mod]
    rcases Nat.mod_two_eq_zero_or_one (BitVec.ofInt IntKind.i64.bits x).toNat with h | h
    · rw [h]; exact .inl (by decide)
    · rw [h]; exact .inr (by decide)
  rcases h with h | h <;> rw [h] <;> rfl
theorem true_ref (hc : Nm cs) (hr : Nm rs) {ms : List Con} (t : Int) (hm : FitAll cs.length rs.length ms) {c : Con} (h : Sh c) : fitC cs.length rs.length c = true → covR ms c = true → (trueC cs rs (plOf cs rs ms) t c).1 = trueR ms t c := by
  induction h with
  | name n =>
    intro hf hv
    rw [cr0, decide_eq_true_eq] at hv
    rw [tr0, rt0, seen_place hc hr hf hm, num_place hc hr hf hm hv, decide_eq_true hv]; rfl
  | top n => intro _ _; rw [tr1, rt1]
  | bot n => intro _ _; rw [tr2, rt2]
  | not n h ih =>
    intro hf hv
    rw [cr3] at hv
    have h2 := cov_seen _ _ _ t h ((cov_ref hc hr hm h (fit_one hf)).trans hv)
    rw [tr3, rt3, ih (fit_one hf) hv, h2]; rfl
  | and n h k ih ik =>
    intro hf hv
    obtain ⟨f1, f2⟩ := fit_two hf
    rw [cr4, Bool.and_eq_true] at hv
    have h2 := cov_seen _ _ _ t h ((cov_ref hc hr hm h f1).trans hv.1)
    have k2 := cov_seen _ _ _ t k ((cov_ref hc hr hm k f2).trans hv.2)
    rw [tr4, rt4, ih f1 hv.1, ik f2 hv.2, h2, k2]; rfl
  | or n h k ih ik =>
    intro hf hv
    obtain ⟨f1, f2⟩ := fit_two hf
    rw [cr5, Bool.and_eq_true] at hv
    have h2 := cov_seen _ _ _ t h ((cov_ref hc hr hm h f1).trans hv.1)
    have k2 := cov_seen _ _ _ t k ((cov_ref hc hr hm k f2).trans hv.2)
    rw [tr5, rt5, ih f1 hv.1, ik f2 hv.2, h2, k2]; rfl
  | some n h ih =>
    intro hf hv
    rw [cr6, Bool.and_eq_true, decide_eq_true_eq] at hv
    rw [tr6, rt6, seen_place hc hr hf hm, num_place hc hr hf hm hv.1, decide_eq_true hv.1]
    cases bitB t (placeZ ms ⟨6, n, _⟩) <;> rfl
  | all n h ih =>
    intro hf hv
    have hq := fit_quant hf (.inr rfl)
    rw [quant_all] at hq
    rw [cr7, Bool.and_eq_true, decide_eq_true_eq] at hv
    rw [tr7, rt7, seen_place hc hr hq hm, num_place hc hr hq hm hv.1, decide_eq_true hv.1, zero_bit]
    cases bitB t (placeZ ms ⟨6, n, _⟩) <;> rfl
end
theorem fault_snoc (b : Kb) (more : List Con) (c : Con) : faultE b (more ++ [c]) = faultE b (c :: more) := by
  unfold faultE isAll
  rw [List.all_append, List.all_cons, List.all_cons, List.all_nil, Bool.and_true, Bool.and_comm]
theorem fault_tail {b : Kb} {more : List Con} {c : Con} (h : faultE b (c :: more) = 0) : faultE b more = 0 := by
  unfold faultE isAll at h ⊢
  split at h
  · rename_i h1
    rw [if_pos h1]
    split at h
    · rename_i h2
      rw [List.all_cons, Bool.and_eq_true] at h2
      rw [if_pos h2.2]
    · cases h
  · cases h
theorem truth_ref (b : Kb) (more : List Con) (t : Int) (c : Con) : truthE b more t c = refTruthE (faultE b (c :: more)) (refMarks b more) (nnfC c false) t := by
  have hfe := fault_eq b (more ++ [c]) (names_eq _ _ _)
  have hfm := fault_eq b more (names_eq _ _ _)
  unfold truthE refTruthE openE
  rw [hfe, hfm, fault_snoc]
  by_cases hf : faultE b (c :: more) = 0
  · have hm0 := fault_tail hf
    have S := sound_few hf
    have hk : isKbR b = true := by
      unfold faultE at hf
      split at hf
      · assumption
      · cases hf
    have hn : namesR b.cs b.rs b.is = true := by
      unfold isKbR at hk
      simp only [Bool.and_eq_true] at hk
      exact hk.1
    obtain ⟨n1, n2⟩ := nm_both hn
    obtain ⟨e, hfit⟩ := marks_ref (more := more) n1 n2 S.incls S.facts (fun c hc => (S.extra c (by simp [hc])).1)
    have hcf := (S.extra c (by simp)).1
    have hsh : Sh (nnfC c false) := (sh_shape (shape_of_fit hcf)).nnf false
    have hff := fit_nnf false hcf
    have h1 := cov_ref n1 n2 hfit hsh hff
    have h2 := true_ref n1 n2 t hfit hsh hff
    rw [if_pos hf, if_pos hf, if_pos hm0, ← e, h1]
    by_cases h8 : (marksC b more).length ≤ 8
    · rw [if_pos h8, if_pos rfl, if_pos h8]
      by_cases hx : t < 0 ∨ 2 ^ (marksC b more).length ≤ t ∨ covR (marksC b more) (nnfC c false) = false
      · rw [if_pos hx, if_pos hx]
      · rw [if_neg hx, if_neg hx, h2 (by cases hcv : covR (marksC b more) (nnfC c false); exact absurd (.inr (.inr hcv)) hx; rfl)]
    · rw [if_neg h8, if_neg (by decide), if_neg h8]
  · rw [if_neg hf, if_neg hf]
end Go.Proofs.YtoafelppnagpbaaGreatDoor
/- The law HierTrue: the walk and the pure law joined. -/
namespace Go.Proofs.YtoafelppnagpbaaGreatDoor
open Go.RowKit
set_option linter.unusedVariables false
set_option linter.unusedSimpArgs false
theorem trueOk_of {b : Kb} {more : List Con} {c : Con} (hw : fewLawB b (c :: more) = true) (hf : faultE b (c :: more) = 0) : TrueOk b more c := by
  have S := sound_few hf
  have hcf := S.extra c (by simp)
  have hw2 : fewLawB b more = true := by
    simp only [fewLawB, Bool.and_eq_true, decide_eq_true_eq, fitAll, List.all_cons, List.length_cons] at hw ⊢
    exact ⟨hw.1.2, hw.2.1, by omega⟩
  exact
  { ref := refOk_of hw2 (fault_tail hf)
    sh := shape_of_fit hcf.1
    shf := shape_of_fit (fit_nnf false hcf.1)
    sz := by have := size_nnf c false; omega }
theorem hierTrue_calls (b : Kb) (p : KbA) (more : List Con) (t : Int) (c : Con) (A A' : Option Addr) (cap cap' : Nat) (w : World) (m : Int) (hm : w.cell? ⟨2, 0, none⟩ = some (.int .i64 m)) (ht : ArgsTab w) (hd : DualsTab w) (hb : KbR (fun _ => True) w b p)
    (hl : ConsAt (fun _ => True) w more A) (hcap : more.length ≤ cap) (hreach : more.length * 40 ≤ 140737488351232) (hc : ConR (fun _ => True) w c [.int .i64 c.op, .int .i64 c.n, .slice A' c.args.length cap']) :
    Calls Tryz.prog 4 #[.agg #[.slice p.a0 b.cs.length p.c0, .slice p.a1 b.rs.length p.c1, .slice p.a2 b.is.length p.c2, .slice p.a3 b.incls.length p.c3, .slice p.a4 b.roles.length p.c4, .slice p.a5 b.facts.length p.c5, .slice p.a6 b.links.length p.c6], .slice A more.length cap, .int .i64 t, .agg #[.int .i64 c.op, .int .i64 c.n, .slice A' c.args.length cap']] w fun e w' => e = .returned (.bool true) ∧ Keeps (fun _ => False) w w' :=
  hierTrue_walk b p more t c A A' cap cap' w m hm ht hd hb hl hcap hreach hc (truth_ref b more t c) (fun h1 h2 => trueOk_of h1 h2)
end Go.Proofs.YtoafelppnagpbaaGreatDoor
namespace Go.Proofs.YtoafelppnagpbaaGreatDoor
open Go.RowKit Go.WideShapes Go.ChangeShapes Go.ChangeAt
set_option linter.unusedVariables false
set_option linter.unusedSimpArgs false
namespace lawHierTrue
set_option maxRecDepth 100000 in
theorem contract (H : Type) (enc : TypeId × Value → H) (W : World) (base : Nat) (args : Array Value) (ds gs : List (DataW H)) (before : List MemPlace)
    (hval : ∀ (j : Nat) t v, Tryz.f4.params[j]? = some t → args[j]? = some v → Value.okWide Tryz.prog W .any base t v)
    (hW : DataW.Whole enc Tryz.prog Tryz.f4.params.toList Rows.hierTrueSpec.vars false W args.toList ds gs before)
    (hz : (DataW.weightsEach Tryz.prog (Tryz.f4.params.toList ++ Rows.hierTrueSpec.plain.varTypes Tryz.prog) (ds ++ gs)).all (· ≤ reachBytes) = true) (hL : laidMetH Tryz.prog Rows.hierTrueRow.laid W) (hS : W.ShapedOpen Tryz.prog) :
    Calls Tryz.prog 4 args W fun e W' => ∃ v, e = .returned v ∧ Rows.hierTrueSpec.post enc Tryz.prog Tryz.f4 false true false false W args v W' := by
  have hW' := hW
  obtain ⟨p, q, hA0, hV, rfl, hfz, hnd⟩ := hW
  have hA : DataW.TrodAll enc Tryz.prog W 0 (fun _ => true) true Tryz.f4.params.toList args.toList ds p := hA0
  rw [Tryz.params4] at hA hval hz
  obtain ⟨v0, vs0, d0, ds0, p0, q0, hargs, rfl, rfl, h0, r0⟩ := trodAll_cons hA
  obtain ⟨v1, vs1, d1, ds1, p1, q1, rfl, rfl, rfl, h1, r1⟩ := trodAll_cons r0
  obtain ⟨v2, vs2, d2, ds2, p2, q2, rfl, rfl, rfl, h2, r2⟩ := trodAll_cons r1
  obtain ⟨v3, vs3, d3, ds3, p3, q3, rfl, rfl, rfl, h3, r3⟩ := trodAll_cons r2
  obtain ⟨rfl, rfl, rfl⟩ := trodAll_nil r3
  obtain rfl : args = #[v0, v1, v2, v3] := by cases args; simp_all
  obtain ⟨rfl, rfl⟩ := trodVars_none hV
  obtain ⟨b0, ad0, rfl, hb0⟩ := argBase (hval 0 30 v0 rfl rfl) h0
  obtain ⟨l1, A1, cap1, rfl, hcap1, _, hl1, hd1⟩ := argCons (hval 1 31 v1 rfl rfl) h1
  have hr1 : l1.length * 40 ≤ 140737488351232 := reachCons (j := 1) hz rfl rfl hd1
  obtain ⟨i2, rfl, rfl, rfl, hi2⟩ := open_int Tryz.underlying3 (hval 2 3 v2 rfl rfl) h2
  obtain ⟨c3, A3, cap3, rfl, hc3⟩ := argCon (hval 3 39 v3 rfl rfl) h3
  obtain ⟨m, hm⟩ := maxLen_of hS
  refine (hierTrue_calls b0 ad0 l1 i2 c3 A1 A3 cap1 cap3 W m hm (argsTab_of hL) (dualsTab_of hL) hb0 hl1 hcap1 hr1 hc3).mono fun e W' ⟨he, hk⟩ => ?_
  refine ⟨.bool true, he, law_post rfl (by kernel_rfl) ?_ hW' rfl hk⟩
  rw [Tryz.params4]
  intro t ht
  simp only [List.mem_cons, List.not_mem_nil, or_false] at ht
  rcases ht with rfl | rfl | rfl | rfl
  · exact readBase
  · exact readCons
  · exact readInt
  · exact readCon
def zeroArgs : Array Value := #[.agg #[.slice none 0 0, .slice none 0 0, .slice none 0 0, .slice none 0 0, .slice none 0 0, .slice none 0 0, .slice none 0 0], .slice none 0 0, .int .i64 0, .agg #[.int .i64 0, .int .i64 0, .slice none 0 0]]
theorem laid_met (os : Os) : laidMet Tryz.prog Rows.hierTrueRow.laid ((laidWorld os).forCall (fun _ _ => 0) ⟨#[], zeroArgs, []⟩).memory :=
  laidMet_of_run' 8 (by kernel_rfl) (by kernel_rfl)
theorem reads (os : Os) {H : Type} (enc : TypeId × Value → H) : ∃ places, DataW.whole enc Tryz.prog ((laidWorld os).forCall (fun _ _ => 0) ⟨#[], zeroArgs, []⟩).memory Tryz.f4.params.toList Rows.hierTrueSpec.vars false zeroArgs.toList 8 =
    some ([.agg [.agg [.nil, .nil, .nil], .nil, .nil, .nil, .nil], .nil, .lit (.int .i64 0), .agg [.lit (.int .i64 0), .lit (.int .i64 0), .nil]], [], places) :=
  ⟨[], by kernel_rfl⟩
set_option maxRecDepth 100000 in
theorem lifted (os : Os) (started : os.Started) (H : Type) (enc : TypeId × Value → H) (F : Stop.Interp) :
    ReturnsInHanded {} Tryz.checked os 4 .any ((OpenSpec.ofChange Rows.hierTrueSpec).preRow enc Tryz.prog Tryz.f4 Rows.hierTrueRow.domain false Rows.hierTrueRow.laid) (((OpenSpec.ofChange Rows.hierTrueSpec).at F).post enc Tryz.prog Tryz.f4 false true false false) := by
  obtain ⟨places, hx⟩ := reads os enc
  refine returnsInHanded_of_row (C := Tryz.checked) (s := OpenSpec.ofChange Rows.hierTrueSpec) own started (by kernel_rfl) Tryz.func4
    (witness_row_at (enc := enc) (C := Tryz.checked) false (laidWorld os) zeroArgs rfl (by kernel_rfl) (by kernel_rfl) (by kernel_rfl)
      (OpenSpec.preRow_of_cond 8 hx (by kernel_rfl) (fun k hk => by cases hk) (by kernel_rfl) (laid_met os))) ?_
  intro W base args ds gs before hval hW _ _ hz hL hS _
  exact contract H enc W base args ds gs before hval hW hz hL hS
theorem said : Rows.HierTrueSaid :=
  OpenClaim.holds_of_cond 4 Tryz.f4 rfl rfl rfl rfl rfl rfl rfl ⟨rfl, rfl, rfl, rfl, rfl⟩ rfl rfl rfl rfl rfl (by kernel_rfl) Tryz.func4 (by kernel_rfl)
    (of_decide_eq_true (by kernel_rfl)) (by unfold Func.isWrapper; first | (rw [if_pos (by decide +kernel)]; kernel_rfl) | (rw [if_neg (by decide +kernel)]; exact ⟨rfl, rfl⟩))
    (fun os started H enc _ F => by rw [OpenClaim.pre_eq_preRow]; exact lifted os started H enc F)
theorem plain (f : FuncId) (fn : Func) (hf : Tryz.pinned.checked.prog.funcNamed "isagoge/isagogelaw05.HierTrue" = some f) (hfn : Tryz.pinned.checked.prog.funcs[f]? = some fn) :
    false = Tryz.pinned.checked.prog.looks [] ∧ ∀ (j : Nat) t, fn.params[j]? = some t → Tryz.pinned.checked.prog.wantsStandIn t = false := by
  obtain rfl : f = 4 := Option.some.inj ((show Tryz.prog.funcNamed "isagoge/isagogelaw05.HierTrue" = some 4 by kernel_rfl).symm.trans hf) |>.symm
  obtain rfl : fn = Tryz.f4 := (Option.some.inj (Tryz.func4.symm.trans hfn)).symm
  refine ⟨by kernel_rfl, fun j t ht => ?_⟩
  rw [Tryz.params4] at ht
  have hm := Array.mem_of_getElem? ht
  simp only [List.mem_toArray, List.mem_cons, List.not_mem_nil, or_false] at hm
  rcases hm with rfl | rfl | rfl | rfl
  · exact (show Tryz.prog.wantsStandIn 30 = false by kernel_rfl)
  · exact (show Tryz.prog.wantsStandIn 31 = false by kernel_rfl)
  · exact (show Tryz.prog.wantsStandIn 3 = false by kernel_rfl)
  · exact (show Tryz.prog.wantsStandIn 39 = false by kernel_rfl)
end lawHierTrue
theorem hierTrue_card : Rows.HierTrueCardSaid :=
  Claim7.holds_tied_plain_at .later [] _ _ _ _ lawHierTrue.said (fun _ h => by cases h) (by kernel_rfl) (fun _ h => by cases h) hierTrue_row_tie rfl ⟨rfl, rfl⟩ (by kernel_rfl) rfl lawHierTrue.plain (by kernel_rfl)
#print axioms hierTrue_card
end Go.Proofs.YtoafelppnagpbaaGreatDoor
