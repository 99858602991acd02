/- What concept.Copied computes: the concept itself, in new memory. -/
import Derived.Test.YthiclhbnggehoaaGreatDoorBase
import Derived.Deep.RegionLaw
import Derived.Deep.DeepMust
namespace Go.Proofs.YthiclhbnggehoaaGreatDoor
open Go.RowKit
set_option linter.unusedVariables false
set_option linter.unusedSimpArgs false
set_option maxRecDepth 100000 in
set_option maxHeartbeats 4000000 in
theorem copied_calls (N : Nat) : ∀ (c : Con) (A : Option Addr) (cap : Nat) (ok : Nat → Prop) (w : World), c.size < N → shapeC c = true → ConR ok w c [.int .i64 c.op, .int .i64 c.n, .slice A c.args.length cap] →
    Calls Tryz.prog 168 #[.agg #[.int .i64 c.op, .int .i64 c.n, .slice A c.args.length cap]] w (RetCon c w) := by
  induction N with
  | zero => intro c A cap ok w h; omega
  | succ N ih =>
  intro c A cap ok w hN hsh hc
  obtain ⟨op, n, args⟩ := c
  have IH := Lib.hid @ih
  have HC := Lib.hid hc
  clear ih hc
  simp only [Con.op, Con.n, Con.args] at HC ⊢
  simp only [shapeC, Bool.and_eq_true, decide_eq_true_eq] at hsh
  obtain ⟨⟨⟨p0, p1⟩, har⟩, hsl⟩ := hsh
  have hal : args.length ≤ 2 := by
    have : arityZ op ≤ 2 := by unfold arityZ; split; omega; split <;> omega
    omega
  have hc := HC.out
  simp only [ConR] at hc
  obtain ⟨A1, cap1, e1, hcap, hr⟩ := hc
  simp only [List.cons.injEq, Value.slice.injEq, and_true, true_and] at e1
  obtain ⟨rfl, rfl⟩ := e1
  have HR := Lib.hid hr
  have HSL := Lib.hid hsl
  clear hr hsl HC har
  go_enter Tryz.func168, Tryz.ntmps168
  go_wp2_with fail
  generalize hW0 : World.alloc _ _ = W0
  have hK0 : Keeps (fun _ => False) w W0 := by rw [← hW0]; repeat (first | exact Keeps.refl _ _ | refine Keeps.drewN ?_ _ | refine Keeps.drew ?_ | refine Keeps.alloc ?_ _ | refine Keeps.set ?_ (Or.inl (by rfl)) _)
  have hb1 : W0.heap[w.heap.size]? = some (.cells #[.int .i64 op, .int .i64 n, .slice none 0 0] 37 (0, 0)) := by rw [← hW0]; exact blkAlloc (blkNew rfl) _
  have hb2 : W0.heap[w.heap.size + 1]? = some (.cells #[.int .i64 0, .int .i64 0, .slice none 0 0] 37 (0, 0)) := by rw [← hW0]; exact blkNew (by simp)
  have hsz0 : W0.heap.size = w.heap.size + 2 := by rw [← hW0]; simp
  clear hW0
  have HB1 := Lib.hid hb1
  have HB2 := Lib.hid hb2
  have HS0 := Lib.hid hsz0
  clear hb1 hb2
  generalize hg2 : w.heap.size = g2 at *
  have HG2 := Lib.hid hg2
  have hlt2 : g2 < W0.heap.size := by omega
  clear hg2 hsz0
  go_loopw [11] (fun i wr => ∃ (k : Nat) (v : Value), k ≤ args.length ∧ i = .int .i64 k ∧ Hid (wr.heap[g2]? = some (.cells #[.int .i64 op, .int .i64 n, v] 37 (0, 0))) ∧ Hid (OwnCons wr W0.heap.size v (args.take k)) ∧ Keeps (fun i => i = g2) W0 wr) (fun i _ => args.length - (intOf i).toNat)
  case atStart => exact ⟨0, _, Nat.zero_le _, rfl, HB1, OwnCons.nil _ _, Keeps.refl _ _⟩
  case round =>
    obtain ⟨k, v, hk, rfl, HG, HO, HK⟩ := hrel
    by_cases hlt : k < args.length
    · obtain ⟨b, o, rfl, hb, hr⟩ := HR.out (by intro h; subst h; simp at hlt)
      have hrw := ConsR.keep (ok := fun k => ok k ∧ k < w.heap.size) (hK0.of0.then_ HK) (fun i hi => by have := HG2.out; omega) ⟨hb, by cases args with | nil => simp at hlt | cons c r => simp only [ConsR] at hr; obtain ⟨⟨v0, v1, v2, h0, _⟩, _⟩ := hr; exact World.block_lt_of_cell? w _ h0⟩ (hr.lim (hr.pos (by omega)))
      obtain ⟨A', cap', e0, e1, e2, hc⟩ := hrw.at_ k hlt
      have hsn := Con.size_at k hlt
      simp only [Con.size] at hN
      have hshk := Lib.hid (shapeL_at HSL.out k hlt)
      have hmap := Lib.hid (List.take_succ_eq_append_getElem hlt)
      have hnk : args[k].size < N := by omega
      generalize args[k] = ck at *
      have HC := Lib.hid hc
      have hcall : ∀ W, ConR (fun k => ok k ∧ k < w.heap.size) W ck [.int .i64 ck.op, .int .i64 ck.n, .slice A' ck.args.length cap'] → Calls Tryz.prog 168 #[.agg #[.int .i64 ck.op, .int .i64 ck.n, .slice A' ck.args.length cap']] W (RetCon ck W) :=
        fun W h1 => IH.out ck A' cap' _ W hnk hshk.out h1
      have HCALL := Lib.hid hcall
      clear hcall
      have hgb := HG.out
      obtain ⟨g0, g1, gv⟩ := cells3 hgb
      have hgl := blkLt hgb
      have hgf := blkFree hgb 2
      obtain ⟨cells, ho, _⟩ := HO.out
      have HOW := Lib.hid ho
      have hszw := HK.size
      clear hc hr hrw hgb ho
      go_wp2_with fail
      generalize hW4 : World.alloc _ _ = W4
      have hK4 : Keeps (fun _ => False) wr W4 := by rw [← hW4]; repeat (first | exact Keeps.refl _ _ | refine Keeps.drewN ?_ _ | refine Keeps.drew ?_ | refine Keeps.alloc ?_ _ | refine Keeps.set ?_ (Or.inl (by rfl)) _)
      have hb4 : W4.heap[wr.heap.size]? = some (.cells #[.int .i64 ck.op, .int .i64 ck.n, .slice A' ck.args.length cap'] 37 (0, 0)) := by rw [← hW4]; exact blkNew rfl
      clear hW4
      obtain ⟨i0, i1, i2⟩ := cells3 hb4
      have gv4 := hK4.cell gv (fun h => h)
      have gf4 := blkFree (hK4.blk HG.out (fun h => h)) 2
      have hs4 := hK4.size
      have hw4 := blkLt hb4
      clear hb4 e0 e1 e2 g0 g1 gv
      go_region_law
        (first | (refine step_call (by rfl) 168 #[.agg #[.int .i64 ck.op, .int .i64 ck.n, .slice A' ck.args.length cap']] (by first | (go_simp; done) | (go_simp; rfl)) ?_; refine (HCALL.out _ (by exact HC.out.keep (S := fun _ => False) (by first | exact hK4 | exact hK4.drew | exact hK4.drewN _) (fun _ _ h => h))).mono ?_; rintro e w5 ⟨A2, cap2, rfl, hc2, hk2⟩; refine ⟨_, rfl, ?_⟩; go_must (have hk45 : Keeps (fun _ => False) wr w5 := (by first | exact hK4.then_ hk2 | exact hK4.drew.then_ hk2 | exact (hK4.drewN _).then_ hk2); have hs45 := hk45.size; have gv5 := hk2.cell (by exact gv4) (fun h => h); have hgl5 : g2 < w5.heap.size := (by omega); have HC2 := Lib.hid hc2; clear hc2)) | (refine step_app rfl _ _ 35 35 (by rfl) W0.heap.size 37 _ 3 40 Tryz.underlying35 infoCon rfl (by decide) (by decide) v (args.take k).length cells (by refine ownsKeep (S := fun _ => False) HOW.out ?_ (fun _ _ h => h); repeat (first | exact hk45 | refine Keeps.drewN ?_ _ | refine Keeps.drew ?_ | refine Keeps.alloc ?_ _)) (by rfl) (.slice (some ⟨w5.heap.size, 0, none⟩) 1 1) 1 [.int .i64 ck.op, .int .i64 ck.n, .slice A2 ck.args.length cap2] (by exact Src.ofBlock Tryz.underlying35 (cs := #[.int .i64 ck.op, .int .i64 ck.n, .slice A2 ck.args.length cap2]) (blkNew (by first | rfl | simp)) (by rfl) (by simp [Value.oneCell'])) (by rfl) (by decide) (by simp; omega) (by simp; omega) ?_; intro g cap3 w6 ho3 hk3 hat hcap3 hlt3; have hb6 := hk3.blk (g := g2) (by exact blkAlloc (hk45.blk HG.out (fun h => h)) _) (fun h => by have := HOW.out.lt _ h; omega); have gf6 := blkFree hb6 2; have gv6 := blkCell hb6 2; simp only [List.getElem?_toArray, List.getElem?_cons_zero, List.getElem?_cons_succ] at gv6; have HB6 := Lib.hid hb6; clear hb6))
      all_goals
        go_wp2_with fail
        go_roundw
        case rel =>
          have hkw : Keeps (fun _ => False) wr (w5.alloc (.cells #[.int .i64 ck.op, .int .i64 ck.n, .slice A2 ck.args.length cap2] 37)) := hk45.alloc _
          have hvl := HOW.out.lt
          have hoc := (HO.out.keep hkw (fun _ _ h => h)).app (ownsKeep HOW.out hkw (fun _ _ h => h)) (c := ck) (v0 := .int .i64 ck.op) (v1 := .int .i64 ck.n) (v2 := .slice A2 ck.args.length cap2)
            ((HC2.out.keep (S := fun _ => False) ((Keeps.refl _ _).alloc _) (fun _ _ h => h)).mono (fun i hi => ⟨by simp at hi; omega, fun e => by have := (hvl i e).2; simp at hi; omega⟩)) ho3 hk3 hat
          refine ⟨k + 1, .slice (some ⟨g, 0, none⟩) _ _, by omega, by go_num, blkSet HB6.out 2 _, ?_, ?_⟩
          · unfold Hid
            rw [hmap.out]
            have h := hoc.keep (S := fun i => i = g2) (Keeps.set1 _ g2 2 (.slice (some ⟨g, 0, none⟩) (k + 1) cap3)) (fun i hi e => by omega)
            rw [show (args.take k).length = k by simp; omega] at h
            exact h
          · exact Keeps.set (g := g2) ((HK.then_ hkw.of0).trans hk3 (fun i hi => .inr (hvl i hi).1)) (.inl rfl) _
        case measure => simp [intOf]; omega
    · obtain rfl : args.length = k := by omega
      obtain ⟨A', cap', rfl, hnode⟩ := HO.out.node op n
      rw [List.take_length] at hnode
      have HND := Lib.hid hnode
      obtain ⟨g0, g1, gv⟩ := cells3 HG.out
      have hb1 := HK.blk HB2.out (by have := HG2.out; omega)
      obtain ⟨y0, y1, y2⟩ := cells3 hb1
      have f0 := blkFree hb1 0
      have f1 := blkFree hb1 1
      have f2 := blkFree hb1 2
      have HB := Lib.hid hb1
      clear hnode hb1
      go_wp2_with fail
      generalize hW3 : World.setCell _ _ _ = W3
      have hb3 : W3.heap[g2 + 1]? = some (.cells #[.int .i64 op, .int .i64 n, .slice A' args.length cap'] 37 (0, 0)) := by rw [← hW3]; exact blkSet (blkSet (blkSet HB.out 0 _) 1 _) 2 _
      have hK3 : Keeps (fun i => i = g2 + 1) wr W3 := by rw [← hW3]; repeat (first | exact Keeps.refl _ _ | refine Keeps.drewN ?_ _ | refine Keeps.drew ?_ | refine Keeps.alloc ?_ _ | refine Keeps.set ?_ (Or.inl (by rfl)) _)
      clear hW3
      obtain ⟨z0, z1, z2⟩ := cells3 hb3
      have hnd := HND.out
      have hfin := RetCon.of (w := w) (r := ⟨op, n, args⟩) ((hnd.keep hK3 (fun i hi e => by have := HS0.out; omega)).mono (fun i hi => by have := HS0.out; have := HG2.out; omega)) (((hK0.of0.then_ HK).new (fun i hi => by have := HG2.out; omega)).of0.then_ hK3 |>.new (fun i hi => by have := HG2.out; omega))
      refine bodyPost_ret (v := .agg #[.int .i64 op, .int .i64 n, .slice A' args.length cap']) (by simp [results, Tryz.results168, go_sem, z0, z1, z2]) rfl hfin
end Go.Proofs.YthiclhbnggehoaaGreatDoor
