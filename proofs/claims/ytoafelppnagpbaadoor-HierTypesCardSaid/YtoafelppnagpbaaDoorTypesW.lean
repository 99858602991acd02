/- The walk of isagogelaw05.HierTypes. -/
import Derived.Test.YtoafelppnagpbaaDoorAwake
import Derived.Test.YtoafelppnagpbaaDoorPTypes
import Derived.Test.YtoafelppnagpbaaDoorNormal
namespace Go.Proofs.YtoafelppnagpbaaDoor
open Go.RowKit
set_option linter.unusedVariables false
set_option linter.unusedSimpArgs false
theorem RetNormal.yes {r : Con} {w w' : World} {e : Ending} (h : RetNormal true r w e w') : ∃ A cap, e = .returned (.tuple #[.agg #[.int .i64 r.op, .int .i64 r.n, .slice A r.args.length cap], .int .i64 0]) ∧ ConR (fun k => w.heap.size ≤ k) w' r [.int .i64 r.op, .int .i64 r.n, .slice A r.args.length cap] ∧ Keeps (fun _ => False) w w' := by
  obtain ⟨hk, A, cap, rfl, hr⟩ := h
  exact ⟨A, cap, rfl, hr, hk⟩
theorem RetNormal.no {r : Con} {w w' : World} {e : Ending} (h : RetNormal false r w e w') : e = .returned (.tuple #[.agg #[.int .i64 0, .int .i64 0, .slice none 0 0], .int .i64 2]) ∧ Keeps (fun _ => False) w w' := by
  obtain ⟨hk, A, cap, rfl, hr⟩ := h
  exact ⟨rfl, hk⟩
theorem own_slice {w : World} {base e size n : Nat} {v : Value} {xs : List Value} (h : w.ownsRow base e size v n xs) (hn : 0 < n) : ∃ g cap, v = .slice (some ⟨g, 0, none⟩) n cap ∧ base ≤ g := by
  rcases h.2 with ⟨rfl, h0⟩ | ⟨g, cap, cur, rfl, hg, _⟩
  · omega
  · exact ⟨g, cap, rfl, hg⟩
theorem Reads.cons {ok : Nat → Prop} {w : World} {l : List Con} {vs : List Value} {c : Con} {v0 v1 v2 : Value} (h : Reads ok w l vs) (hc : ConR ok w c [v0, v1, v2]) : Reads ok w (c :: l) (v0 :: v1 :: v2 :: vs) := by
  obtain ⟨a1, a2, a3⟩ := h
  have hone : v0.oneCell' = true ∧ v1.oneCell' = true ∧ v2.oneCell' = true := by
    obtain ⟨A, cap, e, _⟩ := hc.form
    simp only [List.cons.injEq, and_true] at e
    obtain ⟨rfl, rfl, rfl⟩ := e
    exact ⟨rfl, rfl, rfl⟩
  refine ⟨by simp [a1]; omega, fun u hu => ?_, fun i hi => ?_⟩
  · simp only [List.mem_cons] at hu
    rcases hu with rfl | rfl | rfl | hu
    · exact hone.1
    · exact hone.2.1
    · exact hone.2.2
    · exact a2 u hu
  · cases i with
    | zero => exact ⟨v0, v1, v2, rfl, rfl, rfl, hc⟩
    | succ i =>
      obtain ⟨u0, u1, u2, q0, q1, q2, q3⟩ := a3 i (by simpa using hi)
      refine ⟨u0, u1, u2, ?_, ?_, ?_, q3⟩
      · rw [show (i + 1) * 3 = i * 3 + 3 by omega]; exact q0
      · rw [show (i + 1) * 3 + 1 = i * 3 + 1 + 3 by omega]; exact q1
      · rw [show (i + 1) * 3 + 2 = i * 3 + 2 + 3 by omega]; exact q2
/-- few of a concept ahead of a list, as a law calls it. -/
theorem fewCons_calls (b : Kb) (p : KbA) (more : List Con) (c : Con) (vs : List Value) (A' : Option Addr) (cap' : Nat) (w : World) (hb : KbR (fun _ => True) w b p) (hv : Reads (fun _ => True) w more vs) (hc : ConR (fun _ => True) w c [.int .i64 c.op, .int .i64 c.n, .slice A' c.args.length cap']) (hn : more.length < 4611686018427387904)
    (g6 cap6 base : Nat) (w6 : World) (hk : Keeps (fun _ => False) w w6) (ho : w6.ownsRow base 48 3 (.slice (some ⟨g6, 0, none⟩) (1 + more.length) cap6) (1 + more.length) ([.int .i64 c.op, .int .i64 c.n, .slice A' c.args.length cap'] ++ vs)) :
    Calls Tryd.prog 6 #[.agg #[.slice p.a0 b.cs.length p.c0, .slice p.a1 b.rs.length p.c1, .slice p.a2 b.is.length p.c2, .slice p.a3 b.incls.length p.c3, .slice p.a4 b.roles.length p.c4, .slice p.a5 b.facts.length p.c5, .slice p.a6 b.links.length p.c6], .slice (some ⟨g6, 0, none⟩) (1 + more.length) cap6] w6 fun e w' => e = .returned (.bool (fewLawB b (c :: more))) ∧ Keeps (fun _ => False) w6 w' := by
  have h := fewLaw_calls b p (c :: more) (fun _ => True) (some ⟨g6, 0, none⟩) cap6 w6 (hb.keep hk (fun _ _ h => h)) (((hv.cons hc).keep hk (fun _ _ h => h)).consAt ho trivial) (by simp; omega)
  rw [List.length_cons, Nat.add_comm] at h
  exact h
theorem fewCons_parts {b : Kb} {c : Con} {more : List Con} (h : fewLawB b (c :: more) = true) : b.incls.length ≤ 200 ∧ b.roles.length ≤ 200 ∧ b.facts.length ≤ 200 ∧ b.links.length ≤ 200 ∧ b.cs.length ≤ 100 ∧ b.rs.length ≤ 100 ∧ b.is.length ≤ 100 ∧ more.length ≤ 5 := by
  simp only [fewLawB, fewB, fewNamesR, fewL, Bool.and_eq_true, decide_eq_true_eq, List.length_cons] at h
  obtain ⟨_, ⟨h1, h2, h3, h4, ⟨h5, h6, h7⟩, _⟩, h8⟩ := h
  exact ⟨h1, h2, h3, h4, h5.1, h6.1, h7.1, by omega⟩
theorem kbValid_names {b : Kb} (h : kbValidB b = true) : validNamesB b.cs b.rs b.is = true := by
  simp only [kbValidB, Bool.and_eq_true] at h
  exact h.1.1
theorem ownsOne {w : World} {base e g : Nat} {v0 v1 v2 : Value} (hb : base ≤ g) (hh : w.heap[g]? = some (.cells #[v0, v1, v2] e (0, 0))) : w.ownsRow base e 3 (.slice (some ⟨g, 0, none⟩) 1 1) 1 [v0, v1, v2] :=
  ⟨by simp, .inr ⟨g, 1, #[v0, v1, v2], rfl, hb, hh, Nat.le_refl _, by simp [maxLen], by simp, by simp⟩⟩
set_option maxRecDepth 100000 in
set_option maxHeartbeats 4000000 in
theorem hierTypes_calls (b : Kb) (p : KbA) (more : List Con) (t : Int) (c : Con) (A A' : Option Addr) (cap cap' : Nat) (w : World) (m : Int) (hm : w.cell? ⟨2, 0, none⟩ = some (.int .i64 m)) (ht : ArgsTab w) (hd : DualsTab w) (hb : KbR (fun _ => True) w b p)
    (hl : ConsAt (fun _ => True) w more A) (hcap : more.length ≤ cap) (hreach : more.length * 40 ≤ 140737488351232) (hc : ConR (fun _ => True) w c [.int .i64 c.op, .int .i64 c.n, .slice A' c.args.length cap']) :
    Calls Tryd.prog 5 #[.agg #[.slice p.a0 b.cs.length p.c0, .slice p.a1 b.rs.length p.c1, .slice p.a2 b.is.length p.c2, .slice p.a3 b.incls.length p.c3, .slice p.a4 b.roles.length p.c4, .slice p.a5 b.facts.length p.c5, .slice p.a6 b.links.length p.c6], .slice A more.length cap, .int .i64 t, .agg #[.int .i64 c.op, .int .i64 c.n, .slice A' c.args.length cap']] w fun e w' => e = .returned (.bool true) ∧ Keeps (fun _ => False) w w' := by
  obtain ⟨vs, hvs, hsrc⟩ := hl.src (cap := cap)
  have HSRC := Lib.hid hsrc
  have HAW := Lib.hid (fun W (hk : Keeps (fun _ => False) w W) => awake_calls W m (hk.cell hm (fun h => h)) (ht.keep hk (fun h => h)) (hd.keep hk (fun h => h)))
  have HFEW := Lib.hid (fun g6 cap6 base w6 (hk : Keeps (fun _ => False) w w6) => fewCons_calls b p more c vs A' cap' w hb hvs hc (by omega) g6 cap6 base w6 hk)
  clear hsrc
  have HM := Lib.hid hm
  have HT := Lib.hid ht
  have HD := Lib.hid hd
  have HKB := Lib.hid hb
  have HLM := Lib.hid hl
  have HCN := Lib.hid hc
  generalize hfv : fewLawB b (c :: more) = fv at HFEW
  have HFV := Lib.hid hfv
  obtain ⟨a0, a1, a2, a3, a4, a5, a6, c0, c1, c2, c3, c4, c5, c6⟩ := p
  dsimp only at HFEW ⊢
  clear hm ht hd hb hl hc hvs hfv
  go_enter Tryd.func5, Tryd.ntmps5
  go_wp2_with fail
  generalize hW0 : World.alloc _ _ = W0
  have hK0 : Keeps (fun _ => False) w W0 := by rw [← hW0]; repeat (first | exact Keeps.refl _ _ | refine Keeps.drewN ?_ _ | refine Keeps.drew ?_ | refine Keeps.alloc ?_ _ | refine Keeps.set ?_ (Or.inl (by rfl)) _)
  have hb0 : W0.heap[w.heap.size]? = some (.cells #[.slice a0 b.cs.length c0, .slice a1 b.rs.length c1, .slice a2 b.is.length c2, .slice a3 b.incls.length c3, .slice a4 b.roles.length c4, .slice a5 b.facts.length c5, .slice a6 b.links.length c6] 30 (0, 0)) := by rw [← hW0]; exact blkAlloc (blkNew rfl) _
  have hc0 : W0.heap[w.heap.size + 1]? = some (.cells #[.int .i64 c.op, .int .i64 c.n, .slice A' c.args.length cap'] 48 (0, 0)) := by rw [← hW0]; exact blkNew (by simp)
  clear hW0
  have HB0 := Lib.hid hb0
  have HC0 := Lib.hid hc0
  have HK0 := Lib.hid hK0
  obtain ⟨x0, x1, x2, x3, x4, x5, x6⟩ := cells7 hb0
  obtain ⟨y0, y1, y2⟩ := cells3 hc0
  have hl0 := blkLt hb0
  have hl1 := blkLt hc0
  clear hb0 hc0 hK0
  go_cut [25] from 19 (fun v wc => v = .bool (!fv) ∧ Keeps (fun _ => False) W0 wc)
  case first =>
    go_region_law
     (first
      | (refine step_call (by rfl) 6 #[.agg #[.slice a0 b.cs.length c0, .slice a1 b.rs.length c1, .slice a2 b.is.length c2, .slice a3 b.incls.length c3, .slice a4 b.roles.length c4, .slice a5 b.facts.length c5, .slice a6 b.links.length c6], .slice (some ⟨g6, 0, none⟩) (1 + more.length) cap6] (by first | (go_simp; done) | (go_simp; rfl)) ?_; refine (HFEW.out g6 cap6 _ _ (HK0.out.then_ (hkk6.then_ (by repeat (first | exact Keeps.refl _ _ | refine Keeps.drewN ?_ _ | refine Keeps.drew ?_ | refine Keeps.alloc ?_ _ | refine Keeps.set ?_ (Or.inl (by rfl)) _)))) (ownsKeep (S := fun _ => False) HO6.out (by repeat (first | exact Keeps.refl _ _ | refine Keeps.drewN ?_ _ | refine Keeps.drew ?_ | refine Keeps.alloc ?_ _ | refine Keeps.set ?_ (Or.inl (by rfl)) _)) (fun _ _ h => h))).mono ?_; rintro e w7 ⟨rfl, hk7⟩; refine ⟨_, rfl, ?_⟩; have hkk7 := (hkk6.then_ (show Keeps (fun _ => False) w6 _ from by repeat (first | exact Keeps.refl _ _ | refine Keeps.drewN ?_ _ | refine Keeps.drew ?_ | refine Keeps.alloc ?_ _ | refine Keeps.set ?_ (Or.inl (by rfl)) _))).then_ hk7)
      | (refine step_appG rfl _ _ 46 46 (by rfl) W0.heap.size 48 _ 3 40 Tryd.underlying46 infoCon rfl (by decide) (by decide) (.slice (some ⟨W0.heap.size, 0, none⟩) 1 1) 1 [.int .i64 c.op, .int .i64 c.n, .slice A' c.args.length cap'] (ownsOne (by omega) (by first | exact blkNew (by first | rfl | simp) | exact blkAlloc (blkNew (by first | rfl | simp)) _)) (by rfl) (.slice A more.length cap) more.length vs (HSRC.out _ (HK0.out.then_ (by repeat (first | exact Keeps.refl _ _ | refine Keeps.drewN ?_ _ | refine Keeps.drew ?_ | refine Keeps.alloc ?_ _ | refine Keeps.set ?_ (Or.inl (by rfl)) _)))) (by rfl) (by omega) (by first | (simp; done) | (simp; omega)) ?_; intro v6 w6 ho6 hk6; obtain ⟨g6, cap6, rfl, hg6⟩ := own_slice ho6 (by omega); have hkk6 := (Keeps.of0 (S := fun k => (Value.slice (some ⟨W0.heap.size, 0, none⟩) 1 1).ownBlock = some k) (show Keeps (fun _ => False) W0 _ from by repeat (first | exact Keeps.refl _ _ | refine Keeps.drewN ?_ _ | refine Keeps.drew ?_ | refine Keeps.alloc ?_ _ | refine Keeps.set ?_ (Or.inl (by rfl)) _))).then_ hk6 |>.new (fun i hi => by simp [Value.ownBlock] at hi; omega); obtain ⟨p50, p51, p52, p53, p54, p55, p56⟩ := cells7 (hkk6.blk HB0.out (fun h => h)); obtain ⟨q50, q51, q52⟩ := cells3 (hkk6.blk HC0.out (fun h => h)); have hw5a := blkLt (hkk6.blk HB0.out (fun h => h)); have hw5b := blkLt (hkk6.blk HC0.out (fun h => h)); have HO6 := Lib.hid ho6; clear ho6)
      | fail)
    all_goals
      go_wp2_with fail
      go_meet
      exact ⟨rfl, hkk7⟩
  case rest =>
    obtain ⟨rfl, hkc⟩ := hcut
    have HK1 := Lib.hid (HK0.out.then_ hkc)
    have HB1 := Lib.hid (hkc.blk HB0.out (fun h => h))
    have HC1 := Lib.hid (hkc.blk HC0.out (fun h => h))
    clear x0 x1 x2 x3 x4 x5 x6 y0 y1 y2 hkc HFEW HSRC
    obtain ⟨x0, x1, x2, x3, x4, x5, x6⟩ := cells7 HB1.out
    obtain ⟨y0, y1, y2⟩ := cells3 HC1.out
    cases fv
    · go_wp2_with fail
      refine (HAW.out _ HK1.out).mono ?_
      rintro e w2 ⟨rfl, hk2⟩
      go_wp2_with fail
      go_ret
      exact ⟨rfl, HK1.out.then_ hk2⟩
    · obtain ⟨g3, g4, g5, g6, g0, g1, g2, g8⟩ := fewCons_parts HFV.out
      have HTR := Lib.hid (fun W (hk : Keeps (fun _ => False) w W) (c' : Con) (B : Option Addr) (d : Nat) (hc' : ConR (fun _ => True) W c' [.int .i64 c'.op, .int .i64 c'.n, .slice B c'.args.length d]) =>
        truth_calls b ⟨a0, a1, a2, a3, a4, a5, a6, c0, c1, c2, c3, c4, c5, c6⟩ more t c' (fun _ => True) A B cap d W m (hk.cell HM.out (fun h => h)) (HT.out.keep hk (fun h => h)) (HD.out.keep hk (fun h => h)) (HKB.out.keep hk (fun _ _ h => h)) (by omega) (by omega) (by omega) (by omega) (HLM.out.keep hk (fun _ _ h => h)) hcap (by omega) hc')
      obtain ⟨⟨x, ex⟩, hx⟩ : ∃ q, truthE b more t c = q := ⟨_, rfl⟩
      have HX := Lib.hid hx
      have HT1 := HTR.out wc HK1.out c A' cap' (HCN.out.keep HK1.out (fun _ _ h => h))
      rw [hx] at HT1
      have HT1 := Lib.hid HT1
      clear hx
      go_wp2_with fail
      refine HT1.out.mono ?_
      clear HT1
      rintro e w2 ⟨rfl, hk2⟩
      have HK2 := Lib.hid (HK1.out.then_ hk2)
      have HB2 := Lib.hid (hk2.blk HB1.out (fun h => h))
      have HC2 := Lib.hid (hk2.blk HC1.out (fun h => h))
      clear hk2 HK1 HB1 HC1
      clear x0 x1 x2 x3 x4 x5 x6 y0 y1 y2
      obtain ⟨x0, x1, x2, x3, x4, x5, x6⟩ := cells7 HB2.out
      obtain ⟨y0, y1, y2⟩ := cells3 HC2.out
      have hs2 := blkLt HB2.out
      have ht2 := blkLt HC2.out
      by_cases he : ex = 0
      · subst he
        obtain ⟨f1, f2, f3, f4⟩ := truth_ok (b := b) (more := more) (t := t) (c := c) (by rw [HX.out])
        obtain ⟨v1, v2, v3⟩ := fine_snoc.1 f1
        have hsh : shapeC c = true := shape_of_fit (okC_facts v3).1
        have hcf : fineE (validNamesB b.cs b.rs b.is) b.cs.length b.rs.length [c] = 0 := by unfold fineE; simp [kbValid_names v1, allOk, v3]
        have HNO := Lib.hid (fun W (hk : Keeps (fun _ => False) w W) => normal_calls b.cs b.rs b.is c A' cap' (fun _ => True) a0 a1 a2 c0 c1 c2 W m (hk.cell HM.out (fun h => h)) (HT.out.keep hk (fun h => h)) (HD.out.keep hk (fun h => h)) (HKB.out.cs.keep hk (fun _ _ h => h)) (HKB.out.rs.keep hk (fun _ _ h => h)) (HKB.out.is.keep hk (fun _ _ h => h)) HKB.out.l0 HKB.out.l1 HKB.out.l2 HKB.out.strs (HCN.out.keep hk (fun _ _ h => h)) hsh hcf (by omega) (by omega))
        have HNT := Lib.hid (fun W (hk : Keeps (fun _ => False) w W) => not_calls b.cs b.rs b.is c A' cap' (fun _ => True) a0 a1 a2 c0 c1 c2 W m (hk.cell HM.out (fun h => h)) (HT.out.keep hk (fun h => h)) (HD.out.keep hk (fun h => h)) (HKB.out.cs.keep hk (fun _ _ h => h)) (HKB.out.rs.keep hk (fun _ _ h => h)) (HKB.out.is.keep hk (fun _ _ h => h)) HKB.out.l0 HKB.out.l1 HKB.out.l2 HKB.out.strs (HCN.out.keep hk (fun _ _ h => h)) hsh hcf (by omega) (by omega))
        have HP0 : Hid (okC b.cs.length b.rs.length (nnfC c false) = true → truthE b more t (nnfC c false) = (x, 0)) := Lib.hid (fun h => by have := truth_normal (b := b) (more := more) (t := t) (c := c) (x := x) HX.out false h; simpa using this)
        have HP1 : Hid (okC b.cs.length b.rs.length (nnfC c true) = true → truthE b more t (nnfC c true) = (!x, 0)) := Lib.hid (fun h => by have := truth_normal (b := b) (more := more) (t := t) (c := c) (x := x) HX.out true h; simpa using this)
        have hne : (x == !x) = false := by cases x <;> rfl
        clear f1 f2 f3 f4 v1 v2 v3 hsh hcf HX HFV
        generalize nnfC c false = pc at *
        generalize nnfC c true = qc at *
        go_wp2_with fail
        refine (HNO.out w2 HK2.out).mono ?_
        clear HNO
        intro e3 w3 hret
        cases hp : okC b.cs.length b.rs.length pc
        · rw [hp] at hret
          obtain ⟨rfl, hk3⟩ := hret.no
          clear hret hp HP0
          have HK3 := Lib.hid (HK2.out.then_ hk3)
          have HB3 := Lib.hid (hk3.blk HB2.out (fun h => h))
          have HC3 := Lib.hid (hk3.blk HC2.out (fun h => h))
          clear hk3 HK2 HB2 HC2  hs2 ht2
          clear x0 x1 x2 x3 x4 x5 x6 y0 y1 y2
          obtain ⟨x0, x1, x2, x3, x4, x5, x6⟩ := cells7 HB3.out
          obtain ⟨y0, y1, y2⟩ := cells3 HC3.out
          have hs3 := blkLt HB3.out
          have ht3 := blkLt HC3.out
          go_wp2_with fail
          generalize hW4 : World.alloc _ _ = w4
          have hk4 : Keeps (fun _ => False) w3 w4 := by rw [← hW4]; repeat (first | exact Keeps.refl _ _ | refine Keeps.drewN ?_ _ | refine Keeps.drew ?_ | refine Keeps.alloc ?_ _ | refine Keeps.set ?_ (Or.inl (by rfl)) _)
          have hp4 : w4.heap[w3.heap.size]? = some (.cells #[.int .i64 0, .int .i64 0, .slice none 0 0] 48 (0, 0)) := by rw [← hW4]; exact blkNew rfl
          clear hW4
          have HP4 := Lib.hid hp4
          clear hp4
          have HK4 := Lib.hid (HK3.out.then_ hk4)
          have HB4 := Lib.hid (hk4.blk HB3.out (fun h => h))
          have HC4 := Lib.hid (hk4.blk HC3.out (fun h => h))
          clear hk4 HK3 HB3 HC3  hs3 ht3
          clear x0 x1 x2 x3 x4 x5 x6 y0 y1 y2
          obtain ⟨x0, x1, x2, x3, x4, x5, x6⟩ := cells7 HB4.out
          obtain ⟨y0, y1, y2⟩ := cells3 HC4.out
          have hs4 := blkLt HB4.out
          have ht4 := blkLt HC4.out
          refine (HNT.out w4 HK4.out).mono ?_
          clear HNT
          intro e5 w5 hret
          cases hq : okC b.cs.length b.rs.length qc
          · rw [hq] at hret
            obtain ⟨rfl, hk5⟩ := hret.no
            clear hret hq HP1
            have HK5 := Lib.hid (HK4.out.then_ hk5)
            have HB5 := Lib.hid (hk5.blk HB4.out (fun h => h))
            have HC5 := Lib.hid (hk5.blk HC4.out (fun h => h))
            have HP5 := Lib.hid (hk5.blk HP4.out (fun h => h))
            clear hk5 HK4 HB4 HC4 HP4 hs4 ht4
            clear x0 x1 x2 x3 x4 x5 x6 y0 y1 y2
            obtain ⟨x0, x1, x2, x3, x4, x5, x6⟩ := cells7 HB5.out
            obtain ⟨y0, y1, y2⟩ := cells3 HC5.out
            have hs5 := blkLt HB5.out
            have ht5 := blkLt HC5.out
            go_wp2_with fail
            generalize hW6 : World.alloc _ _ = w6
            have hk6 : Keeps (fun _ => False) w5 w6 := by rw [← hW6]; repeat (first | exact Keeps.refl _ _ | refine Keeps.drewN ?_ _ | refine Keeps.drew ?_ | refine Keeps.alloc ?_ _ | refine Keeps.set ?_ (Or.inl (by rfl)) _)
            have hp6 : w6.heap[w5.heap.size]? = some (.cells #[.int .i64 0, .int .i64 0, .slice none 0 0] 48 (0, 0)) := by rw [← hW6]; exact blkNew rfl
            clear hW6
            have HR6 := Lib.hid hp6
            clear hp6
            have HK6 := Lib.hid (HK5.out.then_ hk6)
            have HB6 := Lib.hid (hk6.blk HB5.out (fun h => h))
            have HC6 := Lib.hid (hk6.blk HC5.out (fun h => h))
            have HP6 := Lib.hid (hk6.blk HP5.out (fun h => h))
            clear hk6 HK5 HB5 HC5 HP5 hs5 ht5
            clear x0 x1 x2 x3 x4 x5 x6 y0 y1 y2
            obtain ⟨x0, x1, x2, x3, x4, x5, x6⟩ := cells7 HB6.out
            obtain ⟨y0, y1, y2⟩ := cells3 HC6.out
            have hs6 := blkLt HB6.out
            have ht6 := blkLt HC6.out
            refine (HAW.out _ HK6.out).mono ?_
            rintro e20 w20 ⟨rfl, hk20⟩
            go_wp2_with fail
            go_ret
            exact ⟨rfl, HK6.out.then_ hk20⟩
          · have HQE := Lib.hid (HP1.out hq)
            rw [hq] at hret
            obtain ⟨B2, d2, rfl, hr, hk5⟩ := hret.yes
            have HS5 := Lib.hid hr
            clear hret hq HP1 hr
            have HK5 := Lib.hid (HK4.out.then_ hk5)
            have HB5 := Lib.hid (hk5.blk HB4.out (fun h => h))
            have HC5 := Lib.hid (hk5.blk HC4.out (fun h => h))
            have HP5 := Lib.hid (hk5.blk HP4.out (fun h => h))
            clear hk5 HK4 HB4 HC4 HP4 hs4 ht4
            clear x0 x1 x2 x3 x4 x5 x6 y0 y1 y2
            obtain ⟨x0, x1, x2, x3, x4, x5, x6⟩ := cells7 HB5.out
            obtain ⟨y0, y1, y2⟩ := cells3 HC5.out
            have hs5 := blkLt HB5.out
            have ht5 := blkLt HC5.out
            go_wp2_with fail
            generalize hW6 : World.alloc _ _ = w6
            have hk6 : Keeps (fun _ => False) w5 w6 := by rw [← hW6]; repeat (first | exact Keeps.refl _ _ | refine Keeps.drewN ?_ _ | refine Keeps.drew ?_ | refine Keeps.alloc ?_ _ | refine Keeps.set ?_ (Or.inl (by rfl)) _)
            have hp6 : w6.heap[w5.heap.size]? = some (.cells #[.int .i64 qc.op, .int .i64 qc.n, .slice B2 qc.args.length d2] 48 (0, 0)) := by rw [← hW6]; exact blkNew rfl
            clear hW6
            have HR6 := Lib.hid hp6
            clear hp6
            have HK6 := Lib.hid (HK5.out.then_ hk6)
            have HB6 := Lib.hid (hk6.blk HB5.out (fun h => h))
            have HC6 := Lib.hid (hk6.blk HC5.out (fun h => h))
            have HP6 := Lib.hid (hk6.blk HP5.out (fun h => h))
            have HS6 := Lib.hid (HS5.out.keep hk6 (fun _ _ h => h))
            clear hk6 HK5 HB5 HC5 HP5 HS5 hs5 ht5
            clear x0 x1 x2 x3 x4 x5 x6 y0 y1 y2
            obtain ⟨x0, x1, x2, x3, x4, x5, x6⟩ := cells7 HB6.out
            obtain ⟨y0, y1, y2⟩ := cells3 HC6.out
            have hs6 := blkLt HB6.out
            have ht6 := blkLt HC6.out
            have HTC := HTR.out w6 HK6.out qc B2 d2 (HS6.out.mono (fun _ _ => trivial))
            rw [HQE.out] at HTC
            refine HTC.mono ?_
            clear HTC
            rintro e7 w7 ⟨rfl, hk7⟩
            have HK7 := Lib.hid (HK6.out.then_ hk7)
            have HB7 := Lib.hid (hk7.blk HB6.out (fun h => h))
            have HC7 := Lib.hid (hk7.blk HC6.out (fun h => h))
            have HP7 := Lib.hid (hk7.blk HP6.out (fun h => h))
            have HS7 := Lib.hid (HS6.out.keep hk7 (fun _ _ h => h))
            have HR7 := Lib.hid (hk7.blk HR6.out (fun h => h))
            clear hk7 HK6 HB6 HC6 HP6 HS6 HR6 hs6 ht6
            clear x0 x1 x2 x3 x4 x5 x6 y0 y1 y2
            obtain ⟨x0, x1, x2, x3, x4, x5, x6⟩ := cells7 HB7.out
            obtain ⟨y0, y1, y2⟩ := cells3 HC7.out
            have hs7 := blkLt HB7.out
            have ht7 := blkLt HC7.out
            go_wp2_with fail
            refine (HAW.out _ HK7.out).mono ?_
            rintro e20 w20 ⟨rfl, hk20⟩
            go_wp2_with fail
            go_ret
            exact ⟨rfl, HK7.out.then_ hk20⟩
        · have HPE := Lib.hid (HP0.out hp)
          rw [hp] at hret
          obtain ⟨B1, d1, rfl, hr, hk3⟩ := hret.yes
          have HQ3 := Lib.hid hr
          clear hret hp HP0 hr
          have HK3 := Lib.hid (HK2.out.then_ hk3)
          have HB3 := Lib.hid (hk3.blk HB2.out (fun h => h))
          have HC3 := Lib.hid (hk3.blk HC2.out (fun h => h))
          clear hk3 HK2 HB2 HC2  hs2 ht2
          clear x0 x1 x2 x3 x4 x5 x6 y0 y1 y2
          obtain ⟨x0, x1, x2, x3, x4, x5, x6⟩ := cells7 HB3.out
          obtain ⟨y0, y1, y2⟩ := cells3 HC3.out
          have hs3 := blkLt HB3.out
          have ht3 := blkLt HC3.out
          go_wp2_with fail
          generalize hW4 : World.alloc _ _ = w4
          have hk4 : Keeps (fun _ => False) w3 w4 := by rw [← hW4]; repeat (first | exact Keeps.refl _ _ | refine Keeps.drewN ?_ _ | refine Keeps.drew ?_ | refine Keeps.alloc ?_ _ | refine Keeps.set ?_ (Or.inl (by rfl)) _)
          have hp4 : w4.heap[w3.heap.size]? = some (.cells #[.int .i64 pc.op, .int .i64 pc.n, .slice B1 pc.args.length d1] 48 (0, 0)) := by rw [← hW4]; exact blkNew rfl
          clear hW4
          have HP4 := Lib.hid hp4
          clear hp4
          have HK4 := Lib.hid (HK3.out.then_ hk4)
          have HB4 := Lib.hid (hk4.blk HB3.out (fun h => h))
          have HC4 := Lib.hid (hk4.blk HC3.out (fun h => h))
          have HQ4 := Lib.hid (HQ3.out.keep hk4 (fun _ _ h => h))
          clear hk4 HK3 HB3 HC3 HQ3 hs3 ht3
          clear x0 x1 x2 x3 x4 x5 x6 y0 y1 y2
          obtain ⟨x0, x1, x2, x3, x4, x5, x6⟩ := cells7 HB4.out
          obtain ⟨y0, y1, y2⟩ := cells3 HC4.out
          have hs4 := blkLt HB4.out
          have ht4 := blkLt HC4.out
          refine (HNT.out w4 HK4.out).mono ?_
          clear HNT
          intro e5 w5 hret
          cases hq : okC b.cs.length b.rs.length qc
          · rw [hq] at hret
            obtain ⟨rfl, hk5⟩ := hret.no
            clear hret hq HP1
            have HK5 := Lib.hid (HK4.out.then_ hk5)
            have HB5 := Lib.hid (hk5.blk HB4.out (fun h => h))
            have HC5 := Lib.hid (hk5.blk HC4.out (fun h => h))
            have HP5 := Lib.hid (hk5.blk HP4.out (fun h => h))
            have HQ5 := Lib.hid (HQ4.out.keep hk5 (fun _ _ h => h))
            clear hk5 HK4 HB4 HC4 HP4 HQ4 hs4 ht4
            clear x0 x1 x2 x3 x4 x5 x6 y0 y1 y2
            obtain ⟨x0, x1, x2, x3, x4, x5, x6⟩ := cells7 HB5.out
            obtain ⟨y0, y1, y2⟩ := cells3 HC5.out
            have hs5 := blkLt HB5.out
            have ht5 := blkLt HC5.out
            obtain ⟨z0, z1, z2⟩ := cells3 HP5.out
            have hbl := blkLt HP5.out
            go_wp2_with fail
            generalize hW6 : World.alloc _ _ = w6
            have hk6 : Keeps (fun _ => False) w5 w6 := by rw [← hW6]; repeat (first | exact Keeps.refl _ _ | refine Keeps.drewN ?_ _ | refine Keeps.drew ?_ | refine Keeps.alloc ?_ _ | refine Keeps.set ?_ (Or.inl (by rfl)) _)
            have hp6 : w6.heap[w5.heap.size]? = some (.cells #[.int .i64 0, .int .i64 0, .slice none 0 0] 48 (0, 0)) := by rw [← hW6]; exact blkNew rfl
            clear hW6
            have HR6 := Lib.hid hp6
            clear hp6
            clear z0 z1 z2 hbl
            have HK6 := Lib.hid (HK5.out.then_ hk6)
            have HB6 := Lib.hid (hk6.blk HB5.out (fun h => h))
            have HC6 := Lib.hid (hk6.blk HC5.out (fun h => h))
            have HP6 := Lib.hid (hk6.blk HP5.out (fun h => h))
            have HQ6 := Lib.hid (HQ5.out.keep hk6 (fun _ _ h => h))
            clear hk6 HK5 HB5 HC5 HP5 HQ5 hs5 ht5
            clear x0 x1 x2 x3 x4 x5 x6 y0 y1 y2
            obtain ⟨x0, x1, x2, x3, x4, x5, x6⟩ := cells7 HB6.out
            obtain ⟨y0, y1, y2⟩ := cells3 HC6.out
            have hs6 := blkLt HB6.out
            have ht6 := blkLt HC6.out
            have HTC := HTR.out w6 HK6.out pc B1 d1 (HQ6.out.mono (fun _ _ => trivial))
            rw [HPE.out] at HTC
            refine HTC.mono ?_
            clear HTC
            rintro e7 w7 ⟨rfl, hk7⟩
            have HK7 := Lib.hid (HK6.out.then_ hk7)
            have HB7 := Lib.hid (hk7.blk HB6.out (fun h => h))
            have HC7 := Lib.hid (hk7.blk HC6.out (fun h => h))
            have HP7 := Lib.hid (hk7.blk HP6.out (fun h => h))
            have HQ7 := Lib.hid (HQ6.out.keep hk7 (fun _ _ h => h))
            have HR7 := Lib.hid (hk7.blk HR6.out (fun h => h))
            clear hk7 HK6 HB6 HC6 HP6 HQ6 HR6 hs6 ht6
            clear x0 x1 x2 x3 x4 x5 x6 y0 y1 y2
            obtain ⟨x0, x1, x2, x3, x4, x5, x6⟩ := cells7 HB7.out
            obtain ⟨y0, y1, y2⟩ := cells3 HC7.out
            have hs7 := blkLt HB7.out
            have ht7 := blkLt HC7.out
            go_wp2_with fail
            refine (HAW.out _ HK7.out).mono ?_
            rintro e20 w20 ⟨rfl, hk20⟩
            go_wp2_with fail
            go_ret
            exact ⟨rfl, HK7.out.then_ hk20⟩
          · have HQE := Lib.hid (HP1.out hq)
            rw [hq] at hret
            obtain ⟨B2, d2, rfl, hr, hk5⟩ := hret.yes
            have HS5 := Lib.hid hr
            clear hret hq HP1 hr
            have HK5 := Lib.hid (HK4.out.then_ hk5)
            have HB5 := Lib.hid (hk5.blk HB4.out (fun h => h))
            have HC5 := Lib.hid (hk5.blk HC4.out (fun h => h))
            have HP5 := Lib.hid (hk5.blk HP4.out (fun h => h))
            have HQ5 := Lib.hid (HQ4.out.keep hk5 (fun _ _ h => h))
            clear hk5 HK4 HB4 HC4 HP4 HQ4 hs4 ht4
            clear x0 x1 x2 x3 x4 x5 x6 y0 y1 y2
            obtain ⟨x0, x1, x2, x3, x4, x5, x6⟩ := cells7 HB5.out
            obtain ⟨y0, y1, y2⟩ := cells3 HC5.out
            have hs5 := blkLt HB5.out
            have ht5 := blkLt HC5.out
            obtain ⟨z0, z1, z2⟩ := cells3 HP5.out
            have hbl := blkLt HP5.out
            go_wp2_with fail
            generalize hW6 : World.alloc _ _ = w6
            have hk6 : Keeps (fun _ => False) w5 w6 := by rw [← hW6]; repeat (first | exact Keeps.refl _ _ | refine Keeps.drewN ?_ _ | refine Keeps.drew ?_ | refine Keeps.alloc ?_ _ | refine Keeps.set ?_ (Or.inl (by rfl)) _)
            have hp6 : w6.heap[w5.heap.size]? = some (.cells #[.int .i64 qc.op, .int .i64 qc.n, .slice B2 qc.args.length d2] 48 (0, 0)) := by rw [← hW6]; exact blkNew rfl
            clear hW6
            have HR6 := Lib.hid hp6
            clear hp6
            clear z0 z1 z2 hbl
            have HK6 := Lib.hid (HK5.out.then_ hk6)
            have HB6 := Lib.hid (hk6.blk HB5.out (fun h => h))
            have HC6 := Lib.hid (hk6.blk HC5.out (fun h => h))
            have HP6 := Lib.hid (hk6.blk HP5.out (fun h => h))
            have HQ6 := Lib.hid (HQ5.out.keep hk6 (fun _ _ h => h))
            have HS6 := Lib.hid (HS5.out.keep hk6 (fun _ _ h => h))
            clear hk6 HK5 HB5 HC5 HP5 HQ5 HS5 hs5 ht5
            clear x0 x1 x2 x3 x4 x5 x6 y0 y1 y2
            obtain ⟨x0, x1, x2, x3, x4, x5, x6⟩ := cells7 HB6.out
            obtain ⟨y0, y1, y2⟩ := cells3 HC6.out
            have hs6 := blkLt HB6.out
            have ht6 := blkLt HC6.out
            have HTC := HTR.out w6 HK6.out pc B1 d1 (HQ6.out.mono (fun _ _ => trivial))
            rw [HPE.out] at HTC
            refine HTC.mono ?_
            clear HTC
            rintro e7 w7 ⟨rfl, hk7⟩
            have HK7 := Lib.hid (HK6.out.then_ hk7)
            have HB7 := Lib.hid (hk7.blk HB6.out (fun h => h))
            have HC7 := Lib.hid (hk7.blk HC6.out (fun h => h))
            have HP7 := Lib.hid (hk7.blk HP6.out (fun h => h))
            have HQ7 := Lib.hid (HQ6.out.keep hk7 (fun _ _ h => h))
            have HS7 := Lib.hid (HS6.out.keep hk7 (fun _ _ h => h))
            have HR7 := Lib.hid (hk7.blk HR6.out (fun h => h))
            clear hk7 HK6 HB6 HC6 HP6 HQ6 HS6 HR6 hs6 ht6
            clear x0 x1 x2 x3 x4 x5 x6 y0 y1 y2
            obtain ⟨x0, x1, x2, x3, x4, x5, x6⟩ := cells7 HB7.out
            obtain ⟨y0, y1, y2⟩ := cells3 HC7.out
            have hs7 := blkLt HB7.out
            have ht7 := blkLt HC7.out
            obtain ⟨z0, z1, z2⟩ := cells3 HR7.out
            go_wp2_with fail
            have HTC := HTR.out w7 HK7.out qc B2 d2 (HS7.out.mono (fun _ _ => trivial))
            rw [HQE.out] at HTC
            refine HTC.mono ?_
            clear HTC z0 z1 z2
            rintro e8 w8 ⟨rfl, hk8⟩
            have HK8 := Lib.hid (HK7.out.then_ hk8)
            have HB8 := Lib.hid (hk8.blk HB7.out (fun h => h))
            have HC8 := Lib.hid (hk8.blk HC7.out (fun h => h))
            have HP8 := Lib.hid (hk8.blk HP7.out (fun h => h))
            have HQ8 := Lib.hid (HQ7.out.keep hk8 (fun _ _ h => h))
            have HS8 := Lib.hid (HS7.out.keep hk8 (fun _ _ h => h))
            have HR8 := Lib.hid (hk8.blk HR7.out (fun h => h))
            clear hk8 HK7 HB7 HC7 HP7 HQ7 HS7 HR7 hs7 ht7
            clear x0 x1 x2 x3 x4 x5 x6 y0 y1 y2
            obtain ⟨x0, x1, x2, x3, x4, x5, x6⟩ := cells7 HB8.out
            obtain ⟨y0, y1, y2⟩ := cells3 HC8.out
            have hs8 := blkLt HB8.out
            have ht8 := blkLt HC8.out
            go_wp2_with fail
            refine (HAW.out _ HK8.out).mono ?_
            rintro e20 w20 ⟨rfl, hk20⟩
            go_wp2_with fail
            go_ret
            exact ⟨rfl, HK8.out.then_ hk20⟩
      · have he1 : (ex == 0) = false := by simpa using he
        have he2 : (ex != 0) = true := by simpa using he
        clear he HX
        go_wp2_with fail
        refine (HAW.out _ HK2.out).mono ?_
        rintro e w3 ⟨rfl, hk3⟩
        go_wp2_with fail
        go_ret
        exact ⟨rfl, HK2.out.then_ hk3⟩
end Go.Proofs.YtoafelppnagpbaaDoor
