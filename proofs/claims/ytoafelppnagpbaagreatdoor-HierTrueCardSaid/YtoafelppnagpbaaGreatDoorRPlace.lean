/- The reference's dual and Form: the normal form, as the program's. -/
import Derived.Test.YtoafelppnagpbaaGreatDoorSame
import Derived.Test.YtoafelppnagpbaaGreatDoorQuant
import Derived.Test.YtoafelppnagpbaaGreatDoorReads
namespace Go.Proofs.YtoafelppnagpbaaGreatDoor
open Go.RowKit
set_option linter.unusedVariables false
set_option linter.unusedSimpArgs false
theorem dual_calls (op d : Int) (hd : dualZ op = d) (ho : ¬ op = 0 ∧ ¬ op = 3 ∧ 0 ≤ op ∧ op ≤ 7) (w : World) : Calls Tryz.prog 40 #[.int .i64 op] w fun e w' => e = .returned (.int .i64 d) ∧ w = w' := by
  have : op = 1 ∨ op = 2 ∨ op = 4 ∨ op = 5 ∨ op = 6 ∨ op = 7 := by omega
  subst hd
  rcases this with rfl | rfl | rfl | rfl | rfl | rfl
  all_goals
    go_enter Tryz.func40, Tryz.ntmps40
    go_wp2
    go_ret
    exact ⟨rfl, rfl⟩
set_option maxRecDepth 100000 in
set_option maxHeartbeats 4000000 in
theorem form_calls (N : Nat) : ∀ (c : Con) (neg : Bool) (A : Option Addr) (cap : Nat) (ok : Nat → Prop) (w : World), c.size < N → shapeC c = true → ConR ok w c [.int .i64 c.op, .int .i64 c.n, .slice A c.args.length cap] →
    Calls Tryz.prog 14 #[.agg #[.int .i64 c.op, .int .i64 c.n, .slice A c.args.length cap], .bool neg] w (RetCon (nnfC c neg) w) := by
  induction N with
  | zero => intro c _ _ _ _ _ h; exact absurd h (Nat.not_lt_zero _)
  | succ N ih =>
  intro c neg A cap ok w hN hsh hc
  obtain ⟨op, n, args⟩ := c
  have IH := Lib.hid @ih
  have HC := Lib.hid hc
  clear ih hc
  simp only [Con.op, Con.n, Con.args] at HC ⊢
  simp only [shapeC, Bool.and_eq_true, decide_eq_true_eq] at hsh
  obtain ⟨⟨⟨p0, p1⟩, har⟩, hsl⟩ := hsh
  by_cases h0 : op = 0 ∧ neg = true
  · obtain ⟨rfl, rfl⟩ := h0
    rw [show nnfC ⟨0, n, args⟩ true = ⟨3, 0, [⟨0, n, []⟩]⟩ by simp [nnfC]]
    go_enter Tryz.func14, Tryz.ntmps14
    go_wp2_with fail
    generalize hW0 : World.alloc _ _ = W0
    have hK0 : Keeps (fun _ => False) w W0 := by rw [← hW0]; repeat (first | exact Keeps.refl _ _ | refine Keeps.drewN ?_ _ | refine Keeps.drew ?_ | refine Keeps.alloc ?_ _ | refine Keeps.set ?_ (Or.inl (by rfl)) _)
    have hb0 : W0.heap[w.heap.size + 1]? = some (.cells #[.int .i64 0, .int .i64 0, .slice none 0 0] 39 (0, 0)) := by rw [← hW0]; exact blkNew (by simp)
    have hsz0 : W0.heap.size = w.heap.size + 2 := by rw [← hW0]; simp
    clear hW0
    refine (of_calls 0 n none 0 0 W0).mono ?_
    rintro e w1 ⟨rfl, hk1⟩
    go_wp2_with fail
    refine (of_calls 3 0 (some ⟨w1.heap.size, 0, none⟩) 1 1 _).mono ?_
    rintro e w2 ⟨rfl, hk2⟩
    have hz1 : W0.heap.size ≤ w1.heap.size := hk1.size
    have hx2 := hk2.blk (blkNew (w := w1) rfl) (fun h => h)
    have hb2 := hk2.blk (blkAlloc (hk1.blk hb0 (fun h => h)) _) (fun h => h)
    have hk := (hK0.then_ hk1).then_ (((Keeps.refl (fun _ => False) w1).alloc _).then_ hk2)
    obtain ⟨y0, y1, y2⟩ := cells3 hb2
    have f0 := blkFree hb2 0
    have f1 := blkFree hb2 1
    have f2 := blkFree hb2 2
    have HB2 := Lib.hid hb2
    have HX2 := Lib.hid hx2
    have HK := Lib.hid hk
    have hlt := blkLt hb2
    clear hb0 hb2 hx2 hk hk1 hk2 hK0
    go_wp2_with fail
    generalize hW3 : World.setCell _ _ _ = W3
    have hb3 : W3.heap[w.heap.size + 1]? = some (.cells #[.int .i64 3, .int .i64 0, .slice (some ⟨w1.heap.size, 0, none⟩) 1 1] 39 (0, 0)) := by rw [← hW3]; exact blkSet (blkSet (blkSet HB2.out 0 _) 1 _) 2 _
    have hK3 : Keeps (fun i => i = w.heap.size + 1) w2 W3 := by rw [← hW3]; repeat (first | exact Keeps.refl _ _ | refine Keeps.drewN ?_ _ | refine Keeps.drew ?_ | refine Keeps.alloc ?_ _ | refine Keeps.set ?_ (Or.inl (by rfl)) _)
    clear hW3
    obtain ⟨z0, z1, z2⟩ := cells3 hb3
    obtain ⟨t0, t1, t2⟩ := cells3 (hK3.blk HX2.out (by omega))
    refine bodyPost_ret (v := .agg #[.int .i64 3, .int .i64 0, .slice (some ⟨w1.heap.size, 0, none⟩) 1 1]) (by simp [results, Tryz.results14, go_sem, z0, z1, z2]) rfl (RetCon.of (r := ⟨3, 0, [⟨0, n, []⟩]⟩) ?_ ((HK.out.of0.then_ hK3).new (fun i hi => by omega)))
    simp only [ConR, ConsR]
    exact ⟨_, 1, rfl, Nat.le_refl _, fun _ => ⟨_, 0, rfl, by omega, ⟨_, _, _, t0, t1, t2, none, 0, rfl, Nat.le_refl _, fun h => absurd rfl h⟩, trivial⟩⟩
  · by_cases h3 : op = 3
    · subst h3
      have hl1 : args.length = 1 := by unfold arityZ at har; simp at har; omega
      obtain ⟨c1, rfl⟩ : ∃ c1, args = [c1] := List.length_eq_one_iff.1 hl1
      rw [show nnfC ⟨3, n, [c1]⟩ neg = nnfC c1 (!neg) by simp [nnfC, nnfH]]
      have hc := HC.out
      simp only [ConR] at hc
      obtain ⟨A1, cap1, e1, hcap, hr⟩ := hc
      simp only [List.cons.injEq, Value.slice.injEq, and_true, true_and] at e1
      obtain ⟨rfl, rfl⟩ := e1
      obtain ⟨b, o, rfl, hb, hr⟩ := hr (by simp)
      obtain ⟨A', cap', e0, e1, e2, hc1⟩ := hr.at_ 0 (by simp)
      simp only [List.getElem_cons_zero, Nat.zero_mul, Nat.add_zero] at e0 e1 e2 hc1
      have hbl := World.block_lt_of_cell? w _ e0
      simp only at hbl
      have hbl1 : b < w.heap.size + 1 := by omega
      have HC1 := Lib.hid hc1
      have hs1 : shapeC c1 = true := by simp only [shapeL, Bool.and_true] at hsl; exact hsl
      have hN1 : c1.size < N := by simp only [Con.size, Con.sizes] at hN; omega
      have HS := Lib.hid hs1
      clear hc1 hs1 hr hsl HC
      go_enter Tryz.func14, Tryz.ntmps14
      go_wp2_with fail
      generalize hW0 : World.alloc _ _ = W0
      have hK0 : Keeps (fun _ => False) w W0 := by rw [← hW0]; repeat (first | exact Keeps.refl _ _ | refine Keeps.drewN ?_ _ | refine Keeps.drew ?_ | refine Keeps.alloc ?_ _ | refine Keeps.set ?_ (Or.inl (by rfl)) _)
      have hb0 : W0.heap[w.heap.size + 1]? = some (.cells #[.int .i64 0, .int .i64 0, .slice none 0 0] 39 (0, 0)) := by rw [← hW0]; exact blkNew (by simp)
      have hsz0 : W0.heap.size = w.heap.size + 2 := by rw [← hW0]; simp
      clear hW0
      refine (IH.out c1 (!neg) A' cap' ok W0 hN1 HS.out (HC1.out.keep hK0 (fun _ _ h => h))).mono ?_
      rintro e w1 ⟨A2, cap2, rfl, hc2, hk2⟩
      have hb1 := hk2.blk hb0 (fun h => h)
      obtain ⟨y0, y1, y2⟩ := cells3 hb1
      have f0 := blkFree hb1 0
      have f1 := blkFree hb1 1
      have f2 := blkFree hb1 2
      have HR2 := Lib.hid hc2
      have HB1 := Lib.hid hb1
      have hlt := blkLt hb1
      have hsz := hK0.size
      generalize nnfC c1 (!neg) = r at *
      clear hb0 hb1 hc2
      go_wp2_with fail
      generalize hW3 : World.setCell _ _ _ = W3
      have hb3 : W3.heap[w.heap.size + 1]? = some (.cells #[.int .i64 r.op, .int .i64 r.n, .slice A2 r.args.length cap2] 39 (0, 0)) := by rw [← hW3]; exact blkSet (blkSet (blkSet HB1.out 0 _) 1 _) 2 _
      have hK3 : Keeps (fun i => i = w.heap.size + 1) w1 W3 := by rw [← hW3]; repeat (first | exact Keeps.refl _ _ | refine Keeps.drewN ?_ _ | refine Keeps.drew ?_ | refine Keeps.alloc ?_ _ | refine Keeps.set ?_ (Or.inl (by rfl)) _)
      clear hW3
      obtain ⟨z0, z1, z2⟩ := cells3 hb3
      refine bodyPost_ret (v := .agg #[.int .i64 r.op, .int .i64 r.n, .slice A2 r.args.length cap2]) (by simp [results, Tryz.results14, go_sem, z0, z1, z2]) rfl (RetCon.of (HR2.out.keep hK3 (fun k hk e => by omega) |>.mono (fun k hk => by omega)) (((hK0.then_ hk2).of0.then_ hK3).new (fun i hi => by omega)))
    · obtain ⟨d, hdd⟩ : ∃ d, (if neg then dualZ op else op) = d := ⟨_, rfl⟩
      obtain ⟨ng, hng⟩ : ∃ ng, neg = ng := ⟨_, rfl⟩
      have hn0 : nnfC ⟨op, n, args⟩ neg = ⟨d, n, nnfL args ng⟩ := by
        rw [← hng]
        by_cases e0 : op = 0
        · subst e0
          have hneg : neg = false := by cases neg; rfl; exact absurd ⟨rfl, rfl⟩ h0
          subst hneg
          have : args = [] := List.eq_nil_of_length_eq_zero (by have : arityZ 0 = 0 := rfl; omega)
          subst this
          simp only [Bool.false_eq_true, if_false] at hdd
          subst hdd
          simp [nnfC, nnfL]
        · simp only [nnfC]; rw [if_neg e0, if_neg h3, hdd]
      rw [hn0]
      have HDD := Lib.hid hdd
      have hal : args.length ≤ 2 := by
        have : arityZ op ≤ 2 := by unfold arityZ; split; omega; split <;> omega
        omega
      have q0 : neg = true → (op == 0) = false := fun hn => by
        have : ¬ op = 0 := fun e => h0 ⟨e, hn⟩
        simpa using this
      have q3 : (op == 3) = false := by simpa using h3
      have p2 : op < 8 := by omega
      have hc := HC.out
      simp only [ConR] at hc
      obtain ⟨A1, cap1, e1, hcap, hr⟩ := hc
      simp only [List.cons.injEq, Value.slice.injEq, and_true, true_and] at e1
      obtain ⟨rfl, rfl⟩ := e1
      have HR := Lib.hid hr
      have HSL := Lib.hid hsl
      clear hr hsl HC hdd hn0 har
      have HNG := Lib.hid hng
      clear hng
      cases neg
      case' false => simp only [Bool.false_eq_true, if_false] at HDD
      case' true => simp only [if_true] at HDD
      case' true =>
        have q00 := q0 rfl
        have z00 : ¬ op = 0 := by simpa using q00
      case' false =>
        cases hq0 : (op == 0)
      all_goals
        clear q0 h0
        go_enter Tryz.func14, Tryz.ntmps14
        go_wp2_with fail
        try (refine (dual_calls op d HDD.out ⟨z00, h3, by omega, by omega⟩ _).mono ?_; rintro e w0 ⟨rfl, rfl⟩; go_wp2_with fail)
        generalize hW0 : World.alloc _ _ = W0
        have hK0 : Keeps (fun _ => False) w W0 := by rw [← hW0]; repeat (first | exact Keeps.refl _ _ | refine Keeps.drewN ?_ _ | refine Keeps.drew ?_ | refine Keeps.alloc ?_ _ | refine Keeps.set ?_ (Or.inl (by rfl)) _)
        have hb2 : W0.heap[w.heap.size + 1 + 1]? = some (.cells #[.int .i64 d, .int .i64 n, .slice none 0 0] 39 (0, 0)) := by rw [← hW0]; have e := HDD.out; subst e; exact blkNew (by simp)
        have hb1 : W0.heap[w.heap.size + 1]? = some (.cells #[.int .i64 0, .int .i64 0, .slice none 0 0] 39 (0, 0)) := by rw [← hW0]; exact blkAlloc (blkNew (by simp)) _
        have hsz0 : W0.heap.size = w.heap.size + 3 := by rw [← hW0]; simp
        clear hW0
        have HB1 := Lib.hid hb1
        have HB2 := Lib.hid hb2
        have HS0 := Lib.hid hsz0
        clear hb1 hb2
        generalize hg2 : w.heap.size + 1 + 1 = g2 at *
        have HG2 := Lib.hid hg2
        have hlt2 : g2 < W0.heap.size := by omega
        clear hg2 hsz0
        go_loopw [43] (fun i wr => ∃ (k : Nat) (v : Value), k ≤ args.length ∧ i = .int .i64 k ∧ Hid (wr.heap[g2]? = some (.cells #[.int .i64 d, .int .i64 n, v] 39 (0, 0))) ∧ Hid (OwnCons wr W0.heap.size v ((args.take k).map (nnfC · ng))) ∧ Keeps (fun i => i = g2) W0 wr) (fun i _ => args.length - (intOf i).toNat)
        case atStart => exact ⟨0, _, Nat.zero_le _, rfl, HB2, OwnCons.nil _ _, Keeps.refl _ _⟩
        case round =>
          obtain ⟨k, v, hk, rfl, HG, HO, HK⟩ := hrel
          by_cases hlt : k < args.length
          · obtain ⟨b, o, rfl, hb, hr⟩ := HR.out (by intro h; subst h; simp at hlt)
            have hrw := ConsR.keep (ok := fun k => ok k ∧ k < w.heap.size) (hK0.of0.then_ HK) (fun i hi => by have := HG2.out; omega) ⟨hb, by cases args with | nil => simp at hlt | cons c r => simp only [ConsR] at hr; obtain ⟨⟨v0, v1, v2, h0, _⟩, _⟩ := hr; exact World.block_lt_of_cell? w _ h0⟩ hr.lim
            obtain ⟨A', cap', e0, e1, e2, hc⟩ := hrw.at_ k hlt
            have hsn := Con.size_at k hlt
            simp only [Con.size] at hN
            have hshk := Lib.hid (shapeL_at HSL.out k hlt)
            have hmap := Lib.hid (show (args.take (k + 1)).map (nnfC · ng) = (args.take k).map (nnfC · ng) ++ [nnfC args[k] ng] by rw [List.take_succ_eq_append_getElem hlt, List.map_append]; rfl)
            have hnk : args[k].size < N := by omega
            generalize args[k] = ck at *
            have HC := Lib.hid hc
            have hcall : ∀ W, ConR (fun k => ok k ∧ k < w.heap.size) W ck [.int .i64 ck.op, .int .i64 ck.n, .slice A' ck.args.length cap'] → Calls Tryz.prog 14 #[.agg #[.int .i64 ck.op, .int .i64 ck.n, .slice A' ck.args.length cap'], .bool ng] W (RetCon (nnfC ck ng) W) :=
              fun W h1 => IH.out ck ng A' cap' _ W hnk hshk.out h1
            generalize nnfC ck ng = rk at *
            have HCALL := Lib.hid hcall
            rw [← HNG.out] at HCALL
            clear hcall
            have hgb := HG.out
            obtain ⟨g0, g1, gv⟩ := cells3 hgb
            have hgl := blkLt hgb
            have hgf := blkFree hgb 2
            obtain ⟨cells, ho, _⟩ := HO.out
            have HOW := Lib.hid ho
            have hszw := HK.size
            clear hc hr hrw hgb ho
            go_wp2_with fail
            generalize hW4 : World.alloc _ _ = W4
            have hK4 : Keeps (fun _ => False) wr W4 := by rw [← hW4]; repeat (first | exact Keeps.refl _ _ | refine Keeps.drewN ?_ _ | refine Keeps.drew ?_ | refine Keeps.alloc ?_ _ | refine Keeps.set ?_ (Or.inl (by rfl)) _)
            have hb4 : W4.heap[wr.heap.size]? = some (.cells #[.int .i64 ck.op, .int .i64 ck.n, .slice A' ck.args.length cap'] 39 (0, 0)) := by rw [← hW4]; exact blkNew rfl
            clear hW4
            obtain ⟨i0, i1, i2⟩ := cells3 hb4
            have gv4 := hK4.cell gv (fun h => h)
            have gf4 := blkFree (hK4.blk HG.out (fun h => h)) 2
            have hs4 := hK4.size
            have hw4 := blkLt hb4
            clear hb4 e0 e1 e2 g0 g1 gv
            go_region_law
              (first | (refine step_call (by rfl) 14 #[.agg #[.int .i64 ck.op, .int .i64 ck.n, .slice A' ck.args.length cap'], .bool _] (by first | (go_simp; done) | (go_simp; rfl)) ?_; refine (HCALL.out _ (by exact HC.out.keep (S := fun _ => False) (by first | exact hK4 | exact hK4.drew | exact hK4.drewN _) (fun _ _ h => h))).mono ?_; rintro e w5 ⟨A2, cap2, rfl, hc2, hk2⟩; refine ⟨_, rfl, ?_⟩; go_must (have hk45 : Keeps (fun _ => False) wr w5 := (by first | exact hK4.then_ hk2 | exact hK4.drew.then_ hk2 | exact (hK4.drewN _).then_ hk2); have hs45 := hk45.size; have gv5 := hk2.cell (by exact gv4) (fun h => h); have hgl5 : g2 < w5.heap.size := (by omega); have HC2 := Lib.hid hc2; clear hc2)) | (refine step_app rfl _ _ 31 31 (by rfl) W0.heap.size 39 _ 3 40 Tryz.underlying31 infoCon rfl (by decide) (by decide) v ((args.take k).map (nnfC · ng)).length cells (by refine ownsKeep (S := fun _ => False) HOW.out ?_ (fun _ _ h => h); repeat (first | exact hk45 | refine Keeps.drewN ?_ _ | refine Keeps.drew ?_ | refine Keeps.alloc ?_ _)) (by rfl) (.slice (some ⟨w5.heap.size, 0, none⟩) 1 1) 1 [.int .i64 rk.op, .int .i64 rk.n, .slice A2 rk.args.length cap2] (by exact Src.ofBlock Tryz.underlying31 (cs := #[.int .i64 rk.op, .int .i64 rk.n, .slice A2 rk.args.length cap2]) (blkNew (by first | rfl | simp)) (by rfl) (by simp [Value.oneCell'])) (by rfl) (by decide) (by simp; omega) (by simp; omega) ?_; intro g cap3 w6 ho3 hk3 hat hcap3 hlt3; have hb6 := hk3.blk (g := g2) (by exact blkAlloc (hk45.blk HG.out (fun h => h)) _) (fun h => by have := HOW.out.lt _ h; omega); have gf6 := blkFree hb6 2; have gv6 := blkCell hb6 2; simp only [List.getElem?_toArray, List.getElem?_cons_zero, List.getElem?_cons_succ] at gv6; have HB6 := Lib.hid hb6; clear hb6))
            all_goals
              go_wp2_with fail
              go_roundw
              case rel =>
                have hkw : Keeps (fun _ => False) wr (w5.alloc (.cells #[.int .i64 rk.op, .int .i64 rk.n, .slice A2 rk.args.length cap2] 39)) := hk45.alloc _
                have hvl := HOW.out.lt
                have hoc := (HO.out.keep hkw (fun _ _ h => h)).app (ownsKeep HOW.out hkw (fun _ _ h => h)) (c := rk) (v0 := .int .i64 rk.op) (v1 := .int .i64 rk.n) (v2 := .slice A2 rk.args.length cap2)
                  ((HC2.out.keep (S := fun _ => False) ((Keeps.refl _ _).alloc _) (fun _ _ h => h)).mono (fun i hi => ⟨by simp at hi; omega, fun e => by have := (hvl i e).2; simp at hi; omega⟩)) ho3 hk3 hat
                refine ⟨k + 1, .slice (some ⟨g, 0, none⟩) _ _, by omega, by go_num, blkSet HB6.out 2 _, ?_, ?_⟩
                · unfold Hid
                  rw [hmap.out]
                  have h := hoc.keep (S := fun i => i = g2) (Keeps.set1 _ g2 2 (.slice (some ⟨g, 0, none⟩) (k + 1) cap3)) (fun i hi e => by omega)
                  rw [show ((args.take k).map (nnfC · ng)).length = k by simp; omega] at h
                  exact h
                · exact Keeps.set (g := g2) ((HK.then_ hkw.of0).trans hk3 (fun i hi => .inr (hvl i hi).1)) (.inl rfl) _
              case measure => simp [intOf]; omega
          · obtain rfl : args.length = k := by omega
            obtain ⟨A', cap', rfl, hnode⟩ := HO.out.node d n
            rw [List.take_length] at hnode
            have HND := Lib.hid hnode
            obtain ⟨g0, g1, gv⟩ := cells3 HG.out
            have hb1 := HK.blk HB1.out (by have := HG2.out; omega)
            obtain ⟨y0, y1, y2⟩ := cells3 hb1
            have f0 := blkFree hb1 0
            have f1 := blkFree hb1 1
            have f2 := blkFree hb1 2
            have hne : w.heap.size + 1 ≠ g2 := by have := HG2.out; omega
            have HB := Lib.hid hb1
            have hmp := Lib.hid (nnfL_map args ng)
            clear hnode hb1
            go_wp2_with fail
            generalize hW3 : World.setCell _ _ _ = W3
            have hb3 : W3.heap[w.heap.size + 1]? = some (.cells #[.int .i64 d, .int .i64 n, .slice A' args.length cap'] 39 (0, 0)) := by rw [← hW3]; exact blkSet (blkSet (blkSet HB.out 0 _) 1 _) 2 _
            have hK3 : Keeps (fun i => i = w.heap.size + 1) wr W3 := by rw [← hW3]; repeat (first | exact Keeps.refl _ _ | refine Keeps.drewN ?_ _ | refine Keeps.drew ?_ | refine Keeps.alloc ?_ _ | refine Keeps.set ?_ (Or.inl (by rfl)) _)
            clear hW3
            obtain ⟨z0, z1, z2⟩ := cells3 hb3
            rw [hmp.out]
            have hnd := HND.out
            have hfin := RetCon.of (w := w) (r := ⟨d, n, args.map (nnfC · ng)⟩) ((hnd.keep hK3 (fun i hi e => by have := HS0.out; omega)).mono (fun i hi => by have := HS0.out; omega)) (((hK0.of0.then_ HK).new (fun i hi => by have := HG2.out; omega)).of0.then_ hK3 |>.new (fun i hi => by omega))
            refine bodyPost_ret (v := .agg #[.int .i64 d, .int .i64 n, .slice A' (args.map (nnfC · ng)).length cap']) (by simp [results, Tryz.results14, go_sem, z0, z1, z2]) rfl hfin
end Go.Proofs.YtoafelppnagpbaaGreatDoor
/- The reference's Place and Mark. -/
namespace Go.Proofs.YtoafelppnagpbaaGreatDoor
open Go.RowKit
set_option linter.unusedVariables false
set_option linter.unusedSimpArgs false
def placeK (c : Con) : List Con → Nat → Int
  | [], _ => -1
  | d :: r, k => if sameC c d then (k : Int) else placeK c r (k + 1)
/-- The first place of c in l, or -1. -/
def placeZ (l : List Con) (c : Con) : Int := placeK c l 0
theorem placeK_at (c : Con) {l : List Con} {k : Nat} (h : k < l.length) : placeK c (l.drop k) k = if sameC c l[k] then (k : Int) else placeK c (l.drop (k + 1)) (k + 1) := by
  rw [List.drop_eq_getElem_cons h]; rfl
set_option maxRecDepth 100000 in
set_option maxHeartbeats 4000000 in
theorem placeR_calls (l : List Con) (c : Con) (AL : Option Addr) (capL : Nat) (A : Option Addr) (cap : Nat) (ok okl : Nat → Prop) (w : World) (hs : c.size ≤ 100000) (hll : l.length ≤ 1000000) (hl : ConsAt okl w l AL) (hc : ConR ok w c [.int .i64 c.op, .int .i64 c.n, .slice A c.args.length cap]) :
    Calls Tryz.prog 41 #[.slice AL l.length capL, .agg #[.int .i64 c.op, .int .i64 c.n, .slice A c.args.length cap]] w fun e w' => e = .returned (.int .i64 (placeZ l c)) ∧ Keeps (fun _ => False) w w' := by
  have HV : Hid (placeZ l c = placeK c (l.drop 0) 0) := by unfold Hid; rfl
  generalize placeZ l c = pv at *
  have HC := Lib.hid hc
  have HL := Lib.hid hl.lim
  clear hc hl
  go_enter Tryz.func41, Tryz.ntmps41
  go_wp2_with fail
  generalize hW0 : World.alloc _ _ = W0
  have hK0 : Keeps (fun _ => False) w W0 := by rw [← hW0]; repeat (first | exact Keeps.refl _ _ | refine Keeps.drewN ?_ _ | refine Keeps.drew ?_ | refine Keeps.alloc ?_ _ | refine Keeps.set ?_ (Or.inl (by rfl)) _)
  have hb0 : W0.heap[w.heap.size]? = some (.cells #[.int .i64 c.op, .int .i64 c.n, .slice A c.args.length cap] 39 (0, 0)) := by rw [← hW0]; exact blkNew rfl
  clear hW0
  have HB0 := Lib.hid hb0
  clear hb0
  go_loopw [9] (fun i wr => ∃ k : Nat, k ≤ l.length ∧ i = .int .i64 k ∧ Hid (pv = placeK c (l.drop k) k) ∧ Keeps (fun _ => False) W0 wr) (fun i _ => l.length - (intOf i).toNat)
  case atStart => exact ⟨0, Nat.zero_le _, rfl, HV, Keeps.refl _ _⟩
  case round =>
    obtain ⟨k, hk, rfl, HI, HK⟩ := hrel
    have HBR := Lib.hid (HK.blk HB0.out (fun h => h))
    obtain ⟨x0, x1, x2⟩ := cells3 HBR.out
    have hbw := blkLt HBR.out
    by_cases hlt : k < l.length
    · obtain ⟨bb, o, A', cap', rfl, hob, hbl, e0, e1, e2, hd⟩ := (HL.out.keep (hK0.then_ HK) (fun _ _ h => h)).nth k hlt
      have HST := Lib.hid (placeK_at c hlt)
      have i1 : (k : Int) < l.length := by omega
      generalize l[k] = d at *
      have HCALL := Lib.hid (fun W (hkw : Keeps (fun _ => False) wr W) => same_calls (c.size + 1) c d A A' cap cap' (fun k => ok k ∨ okl k ∧ k < w.heap.size) W (by omega) hs ((HC.out.keep ((hK0.then_ HK).then_ hkw) (fun _ _ h => h)).mono (fun _ h => .inl h)) ((hd.keep hkw (fun _ _ h => h)).mono (fun _ h => .inr h)))
      clear hd
      generalize hsm : sameC c d = sm at *
      clear hsm
      go_wp2_with fail
      generalize hW4 : World.alloc _ _ = W4
      have hK4 : Keeps (fun _ => False) wr W4 := by rw [← hW4]; repeat (first | exact Keeps.refl _ _ | refine Keeps.drewN ?_ _ | refine Keeps.drew ?_ | refine Keeps.alloc ?_ _ | refine Keeps.set ?_ (Or.inl (by rfl)) _)
      clear hW4
      refine (HCALL.out W4 hK4).mono ?_
      clear HCALL
      rintro e w5 ⟨rfl, hk5⟩
      have hkT := hK4.then_ hk5
      cases sm
      · have HO : Hid (pv = placeK c (l.drop (k + 1)) (k + 1)) := by unfold Hid; rw [HI.out, HST.out]; rfl
        clear HI HST
        go_wp2_with fail
        go_roundw
        case rel => exact ⟨k + 1, by omega, by go_num, HO, HK.then_ hkT⟩
        case measure => simp [intOf]; omega
      · have HO : Hid (pv = (k : Int)) := by unfold Hid; rw [HI.out, HST.out]; rfl
        clear HI HST
        go_wp2_with fail
        go_ret
        exact ⟨by rw [HO.out]; rfl, (hK0.then_ HK).then_ hkT⟩
    · obtain rfl : k = l.length := by omega
      have HO : Hid (pv = -1) := by unfold Hid; rw [HI.out, List.drop_length]; rfl
      clear HI
      go_wp2_with fail
      go_ret
      exact ⟨by rw [HO.out]; rfl, hK0.then_ HK⟩
theorem holdQz {w W : World} {g1 g2 b o : Nat} {t1 t2 : TypeId} {v0 v1 v2 u0 u1 u2 x0 x1 x2 : Value} (z0 z1 z2 : Value) (h1 : W.heap[g1]? = some (.cells #[v0, v1, v2] t1 (0, 0))) (h2 : W.heap[g2]? = some (.cells #[u0, u1, u2] t2 (0, 0)))
    (hk : Keeps (fun i => i = g2) w W) (hb : b ≠ g2) (e0 : w.cell? ⟨b, o, none⟩ = some x0) (e1 : w.cell? ⟨b, o + 1, none⟩ = some x1) (e2 : w.cell? ⟨b, o + 2, none⟩ = some x2) (hn : g1 ≠ g2) :
    HoldQ (((W.setCell ⟨g2, 0, none⟩ z0).setCell ⟨g2, 1, none⟩ z1).setCell ⟨g2, 2, none⟩ z2) g1 g2 b o v1 v2 x0 x1 x2 :=
  have hs := ((Keeps.refl (fun i => i = g2) W).set (g := g2) (Or.inl rfl) z0 |>.set (g := g2) (Or.inl rfl) z1 |>.set (g := g2) (Or.inl rfl) z2)
  holdQ (hs.blk h1 hn) (blkSet (blkSet (blkSet h2 0 _) 1 _) 2 _) (hk.then_ hs) hb e0 e1 e2
/-- A concept that lies where 'ok' says, or in memory of the call's own. -/
def RetMk (ok : Nat → Prop) (r : Con) (w : World) (e : Ending) (w' : World) : Prop :=
  ∃ A cap, e = .returned (.agg #[.int .i64 r.op, .int .i64 r.n, .slice A r.args.length cap]) ∧ ConR (fun b => ok b ∨ w.heap.size ≤ b) w' r [.int .i64 r.op, .int .i64 r.n, .slice A r.args.length cap] ∧ Keeps (fun _ => False) w w'
set_option maxRecDepth 100000 in
set_option maxHeartbeats 4000000 in
theorem markR_calls (c : Con) (A : Option Addr) (cap : Nat) (ok : Nat → Prop) (w : World) (hs : shapeC c = true) (hop : c.op = 6 ∨ c.op = 7) (hc : ConR ok w c [.int .i64 c.op, .int .i64 c.n, .slice A c.args.length cap]) :
    Calls Tryz.prog 43 #[.agg #[.int .i64 c.op, .int .i64 c.n, .slice A c.args.length cap]] w (RetMk ok (quantC c) w) := by
  obtain ⟨op, n, args⟩ := c
  simp only [Con.op, Con.n, Con.args] at hop hc ⊢
  by_cases h6 : op = 6
  · subst h6
    have hq : quantC ⟨6, n, args⟩ = ⟨6, n, args⟩ := by simp [quantC, Con.op]
    have HC := Lib.hid hc
    clear hc
    go_enter Tryz.func43, Tryz.ntmps43
    go_wp2_with fail
    generalize hW0 : World.alloc _ _ = W0
    have hK0 : Keeps (fun _ => False) w W0 := by rw [← hW0]; repeat (first | exact Keeps.refl _ _ | refine Keeps.drewN ?_ _ | refine Keeps.drew ?_ | refine Keeps.alloc ?_ _ | refine Keeps.set ?_ (Or.inl (by rfl)) _)
    have hb : W0.heap[w.heap.size + 1]? = some (.cells #[.int .i64 6, .int .i64 n, .slice A args.length cap] 39 (0, 0)) := by rw [← hW0]; exact blkNew (by simp)
    clear hW0
    obtain ⟨z0, z1, z2⟩ := cells3 hb
    refine bodyPost_ret (v := .agg #[.int .i64 6, .int .i64 n, .slice A args.length cap]) (by simp [results, Tryz.results43, go_sem, z0, z1, z2]) rfl ?_
    exact ⟨A, cap, rfl, (HC.out.keep hK0 (fun _ _ h => h)).mono (fun _ h => .inl h), hK0⟩
  · have h7 : op = 7 := by omega
    subst h7
    simp only [shapeC, Bool.and_eq_true, decide_eq_true_eq] at hs
    have hl1 : args.length = 1 := by have := hs.1.2; unfold arityZ at this; simp at this; omega
    obtain ⟨d, rfl⟩ : ∃ d, args = [d] := List.length_eq_one_iff.1 hl1
    have hsd : shapeC d = true := by have := hs.2; simp only [shapeL, Bool.and_true] at this; exact this
    have hq : quantC ⟨7, n, [d]⟩ = ⟨6, n, [nnfC d true]⟩ := by simp [quantC, Con.op, Con.n, Con.args, nnfH]
    simp only [ConR] at hc
    obtain ⟨A1, cap1, e1, hcap, hr⟩ := hc
    simp only [List.cons.injEq, Value.slice.injEq, and_true, true_and] at e1
    obtain ⟨rfl, rfl⟩ := e1
    obtain ⟨b, o, rfl, hb, hr⟩ := hr (by simp)
    obtain ⟨A', cap', e0, e1, e2, hcd⟩ := hr.at_ 0 (by simp)
    simp only [List.getElem_cons_zero, Nat.zero_mul, Nat.add_zero] at e0 e1 e2 hcd
    have hbl := World.block_lt_of_cell? w _ e0
    simp only at hbl
    have hcall1 : ∀ W, Keeps (fun _ => False) w W → Calls Tryz.prog 14 #[.agg #[.int .i64 d.op, .int .i64 d.n, .slice A' d.args.length cap'], .bool true] W (RetCon (nnfC d true) W) :=
      fun W hk => form_calls (d.size + 1) d true A' cap' ok W (by omega) hsd (hcd.keep hk (fun _ _ h => h))
    have HC1 := Lib.hid hcall1
    generalize nnfC d true = r1 at *
    clear hcall1 hcd hr hs
    go_enter Tryz.func43, Tryz.ntmps43
    go_wp2_with fail
    generalize hW0 : World.alloc _ _ = W0
    have hK0 : Keeps (fun _ => False) w W0 := by rw [← hW0]; repeat (first | exact Keeps.refl _ _ | refine Keeps.drewN ?_ _ | refine Keeps.drew ?_ | refine Keeps.alloc ?_ _ | refine Keeps.set ?_ (Or.inl (by rfl)) _)
    have hb1 : W0.heap[w.heap.size]? = some (.cells #[.int .i64 7, .int .i64 n, .slice (some ⟨b, o, none⟩) 1 cap] 39 (0, 0)) := by rw [← hW0]; exact blkAlloc (blkNew rfl) _
    have hb2 : W0.heap[w.heap.size + 1]? = some (.cells #[.int .i64 0, .int .i64 0, .slice none 0 0] 39 (0, 0)) := by rw [← hW0]; exact blkNew (by simp)
    have hsz0 : W0.heap.size = w.heap.size + 2 := by rw [← hW0]; simp
    clear hW0
    have hbne : b ≠ w.heap.size + 1 := by omega
    have hne1 : w.heap.size ≠ w.heap.size + 1 := by omega
    have HB1 := Lib.hid hb1
    have HB2 := Lib.hid hb2
    have HSZ := Lib.hid hsz0
    have E0 := Lib.hid e0
    have E1 := Lib.hid e1
    have E2 := Lib.hid e2
    have KK0 := Lib.hid hK0
    clear hb1 hb2 hsz0 e0 e1 e2 hK0 hr
    go_region_held3 (fun w' => w'.cell? ⟨w.heap.size, 1, none⟩ = some (.int .i64 n) ∧ w'.cell? ⟨w.heap.size, 2, none⟩ = some (.slice (some ⟨b, o, none⟩) 1 cap) ∧ w'.cell? ⟨b, o, none⟩ = some (.int .i64 d.op) ∧ w'.cell? ⟨b, o + 1, none⟩ = some (.int .i64 d.n) ∧ w'.cell? ⟨b, o + 2, none⟩ = some (.slice A' d.args.length cap') ∧
        w'.cell? ⟨w.heap.size + 1, 0, none⟩ = some (cellAt w' (w.heap.size + 1) 0) ∧ w'.cell? ⟨w.heap.size + 1, 1, none⟩ = some (cellAt w' (w.heap.size + 1) 1) ∧ w'.cell? ⟨w.heap.size + 1, 2, none⟩ = some (cellAt w' (w.heap.size + 1) 2) ∧ w'.frozen? ⟨w.heap.size + 1, 0, none⟩ = false ∧ w'.frozen? ⟨w.heap.size + 1, 1, none⟩ = false ∧ w'.frozen? ⟨w.heap.size + 1, 2, none⟩ = false)
      (first
        | with_reducible exact holdQ HB1.out HB2.out KK0.out.of0 hbne E0.out E1.out E2.out
        | exact holdQ HB1.out HB2.out KK0.out.drew.of0 hbne E0.out E1.out E2.out
        | with_reducible exact holdQ HZ1.out HZ2.out HKZ.out.of0 hbne E0.out E1.out E2.out
        | with_reducible exact holdQ HY1.out HY2.out HKY.out.of0 hbne E0.out E1.out E2.out
        | with_reducible exact holdQa _ HY1.out HY2.out HKY.out.of0 hbne E0.out E1.out E2.out
        | with_reducible exact holdQz _ _ _ HZ1.out HZ2.out HKZ.out.of0 hbne E0.out E1.out E2.out hne1
        | fail)
      (first
        | (go_at_call 14; refine (HC1.out _ (by first | exact KK0.out | exact KK0.out.drew)).mono ?_; clear HC1; rintro e w5 ⟨B1, d1, rfl, hr1, hk5⟩; have HY1 := Lib.hid (hk5.blk HB1.out (fun h => h)); have HY2 := Lib.hid (hk5.blk HB2.out (fun h => h)); have HKY := Lib.hid (KK0.out.drew.then_ hk5))
        | (go_at_call 27; refine (of_calls _ _ _ _ _ _).mono ?_; rintro e w6 ⟨rfl, hk6⟩; have HZ1 := Lib.hid (hk6.blk (blkAlloc HY1.out _) (fun h => h)); have HZ2 := Lib.hid (hk6.blk (blkAlloc HY2.out _) (fun h => h)); have HZ3 := Lib.hid (hk6.blk (blkNew (w := w5) rfl) (fun h => h)); have HKZ := Lib.hid ((HKY.out.alloc _).then_ hk6)))
    generalize hW3 : World.setCell _ _ _ = W3
    have hb3 : W3.heap[w.heap.size + 1]? = some (.cells #[.int .i64 6, .int .i64 n, .slice (some ⟨w5.heap.size, 0, none⟩) 1 1] 39 (0, 0)) := by rw [← hW3]; exact blkSet (blkSet (blkSet HZ2.out 0 _) 1 _) 2 _
    have hK3 : Keeps (fun i => i = w.heap.size + 1) w6 W3 := by rw [← hW3]; repeat (first | exact Keeps.refl _ _ | refine Keeps.drewN ?_ _ | refine Keeps.drew ?_ | refine Keeps.alloc ?_ _ | refine Keeps.set ?_ (Or.inl (by rfl)) _)
    clear hW3
    have hz := HSZ.out
    have h5 := HKY.out.size
    have hz5 : W0.heap.size ≤ w5.heap.size := hk5.size
    obtain ⟨z0, z1, z2⟩ := cells3 hb3
    obtain ⟨t0, t1, t2⟩ := cells3 (hK3.blk HZ3.out (by omega))
    have hr1' := hr1.mono (ok' := fun b => W0.heap.size ≤ b) (fun _ h => h)
    have hc1 := ((hr1'.keep (((Keeps.refl (fun _ => False) w5).alloc _).then_ hk6) (fun _ _ h => h)).keep hK3 (fun k hk e => by omega)).mono (ok' := fun b => ok b ∨ w.heap.size ≤ b) (fun k hk => .inr (by omega))
    go_wp2_with fail
    refine bodyPost_ret (v := .agg #[.int .i64 6, .int .i64 n, .slice (some ⟨w5.heap.size, 0, none⟩) 1 1]) (by simp [results, Tryz.results43, go_sem, z0, z1, z2]) rfl ?_
    rw [hq]
    refine ⟨some ⟨w5.heap.size, 0, none⟩, 1, rfl, ?_, (HKZ.out.of0.then_ hK3).new (fun i hi => by omega)⟩
    simp only [Con.op, Con.n, Con.args, ConR, ConsR]
    exact ⟨_, 1, rfl, Nat.le_refl _, fun _ => ⟨_, 0, rfl, .inr (by omega), ⟨_, _, _, t0, t1, t2, hc1⟩, trivial⟩⟩
end Go.Proofs.YtoafelppnagpbaaGreatDoor
