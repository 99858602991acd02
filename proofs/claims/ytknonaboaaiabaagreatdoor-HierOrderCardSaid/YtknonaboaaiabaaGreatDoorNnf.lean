/- What concept.Nnf computes. -/
import Derived.Test.YtknonaboaaiabaaGreatDoorCons
import Derived.Deep.RegionLaw
import Derived.Deep.DeepMust
namespace Go.Proofs.YtknonaboaaiabaaGreatDoor
open Go.RowKit
set_option linter.unusedVariables false
set_option linter.unusedSimpArgs false
def dualZ (op : Int) : Int := if op = 1 then 2 else if op = 2 then 1 else if op = 4 then 5 else if op = 5 then 4 else if op = 6 then 7 else if op = 7 then 6 else 0
def DualsTab (w : World) : Prop := ∃ t fz, w.heap[0]? = some (.cells #[.int .i64 0, .int .i64 2, .int .i64 1, .int .i64 0, .int .i64 5, .int .i64 4, .int .i64 7, .int .i64 6] t fz)
theorem DualsTab.keep {S : Nat → Prop} {w w' : World} (h : DualsTab w) (hk : Keeps S w w') (hs : ¬ S 0) : DualsTab w' := by
  obtain ⟨t, fz, h⟩ := h; exact ⟨t, fz, hk.blk h hs⟩
theorem DualsTab.at_ {w : World} (h : DualsTab w) (op : Int) (h0 : 0 ≤ op) (h7 : op ≤ 7) : w.cell? ⟨0, op.toNat, none⟩ = some (.int .i64 (dualZ op)) := by
  obtain ⟨t, fz, ht⟩ := h
  rw [blkCell ht]
  have : op = 0 ∨ op = 1 ∨ op = 2 ∨ op = 3 ∨ op = 4 ∨ op = 5 ∨ op = 6 ∨ op = 7 := by omega
  rcases this with rfl | rfl | rfl | rfl | rfl | rfl | rfl | rfl <;> rfl
mutual
/-- Operators in range, and as many arguments as they take. -/
def shapeC : Con → Bool
  | ⟨op, _, args⟩ => decide (0 ≤ op ∧ op ≤ 7) && decide ((args.length : Int) = arityZ op) && shapeL args
def shapeL : List Con → Bool
  | [] => true
  | c :: r => shapeC c && shapeL r
end
theorem shapeL_at : ∀ {l : List Con}, shapeL l = true → ∀ i (h : i < l.length), shapeC l[i] = true
  | c :: r, h, 0, _ => by simp only [shapeL, Bool.and_eq_true] at h; simpa using h.1
  | c :: r, h, i + 1, hi => by simp only [shapeL, Bool.and_eq_true] at h; simpa using shapeL_at h.2 i (by simpa using hi)
mutual
theorem shape_of_valid {nc nr : Nat} : ∀ {c : Con} {x y : Int}, (validC nc nr c x y).1 = true → shapeC c = true
  | ⟨op, n, args⟩, x, y, h => by
    simp only [validC] at h
    split at h
    · simp at h
    · rename_i hb
      split at h
      · simp only [shapeC, Bool.and_eq_true, decide_eq_true_eq]
        exact ⟨⟨by omega, by omega⟩, shapeL_of_valid h⟩
      · simp at h
theorem shapeL_of_valid {nc nr : Nat} : ∀ {l : List Con} {x y : Int}, (validL nc nr l x y).1 = true → shapeL l = true
  | [], _, _, _ => rfl
  | c :: r, x, y, h => by
    simp only [validL] at h
    split at h
    · rename_i hc
      simp only [shapeL, Bool.and_eq_true]
      exact ⟨shape_of_valid hc, shapeL_of_valid h⟩
    · rename_i hc; exact absurd h hc
end
mutual
def nnfC : Con → Bool → Con
  | ⟨op, n, args⟩, neg =>
    if op = 0 then (if neg then ⟨3, 0, [⟨0, n, []⟩]⟩ else ⟨0, n, []⟩)
    else if op = 3 then nnfH args (!neg)
    else ⟨if neg then dualZ op else op, n, nnfL args neg⟩
def nnfH : List Con → Bool → Con
  | [], _ => ⟨0, 0, []⟩
  | c :: _, neg => nnfC c neg
def nnfL : List Con → Bool → List Con
  | [], _ => []
  | c :: r, neg => nnfC c neg :: nnfL r neg
end
theorem nnfL_map (l : List Con) (neg : Bool) : nnfL l neg = l.map (nnfC · neg) := by
  induction l with
  | nil => simp only [nnfL, List.map_nil]
  | cons c r ih => simp only [nnfL, List.map_cons, ih]
theorem infoCon : (Tryz.prog.info? 94).map (fun i => (i.zero, i.size, i.bytes)) = some (some (.agg #[.int .i64 0, .int .i64 0, .slice none 0 0]), 3, 40) := by kernel_rfl
theorem Keeps.free {S : Nat → Prop} {w w' : World} (h : Keeps S w w') {b o : Nat} (hb : b < w.heap.size) (hs : ¬ S b) : w'.frozen? ⟨b, o, none⟩ = w.frozen? ⟨b, o, none⟩ := World.frozen?_of_block (w := w) (h.block b hb hs)
theorem Keeps.set1 (w : World) (g o : Nat) (u : Value) : Keeps (fun i => i = g) w (w.setCell ⟨g, o, none⟩ u) := Keeps.set (g := g) (Keeps.refl (fun i => i = g) w) (Or.inl (by rfl)) u
/-- A concept is returned, in new memory. -/
def RetCon (r : Con) (w : World) (e : Ending) (w' : World) : Prop :=
  ∃ A cap, e = .returned (.agg #[.int .i64 r.op, .int .i64 r.n, .slice A r.args.length cap]) ∧ ConR (fun b => w.heap.size ≤ b) w' r [.int .i64 r.op, .int .i64 r.n, .slice A r.args.length cap] ∧ Keeps (fun _ => False) w w'
theorem conR_leaf (ok : Nat → Prop) (w : World) (op n : Int) : ConR ok w ⟨op, n, []⟩ [.int .i64 op, .int .i64 n, .slice none 0 0] := by
  simp only [ConR]; exact ⟨none, 0, rfl, Nat.le_refl _, fun h => absurd rfl h⟩
theorem RetCon.of {r : Con} {w w' : World} {A : Option Addr} {cap : Nat} (h : ConR (fun b => w.heap.size ≤ b) w' r [.int .i64 r.op, .int .i64 r.n, .slice A r.args.length cap]) (hk : Keeps (fun _ => False) w w') : RetCon r w (.returned (.agg #[.int .i64 r.op, .int .i64 r.n, .slice A r.args.length cap])) w' := ⟨A, cap, rfl, h, hk⟩
set_option maxRecDepth 100000 in
set_option maxHeartbeats 4000000 in
theorem nnf_calls (N : Nat) : ∀ (c : Con) (neg : Bool) (A : Option Addr) (cap : Nat) (ok : Nat → Prop) (w : World), c.size < N → shapeC c = true → ConR ok w c [.int .i64 c.op, .int .i64 c.n, .slice A c.args.length cap] → DualsTab w →
    Calls Tryz.prog 127 #[.agg #[.int .i64 c.op, .int .i64 c.n, .slice A c.args.length cap], .bool neg] w (RetCon (nnfC c neg) w) := by
  induction N with
  | zero => intro c _ _ _ _ _ h; exact absurd h (Nat.not_lt_zero _)
  | succ N ih =>
  intro c neg A cap ok w hN hsh hc hd
  obtain ⟨op, n, args⟩ := c
  have IH := Lib.hid @ih
  have HC := Lib.hid hc
  have HD := Lib.hid hd
  clear ih hc hd
  simp only [Con.op, Con.n, Con.args] at HC ⊢
  simp only [shapeC, Bool.and_eq_true, decide_eq_true_eq] at hsh
  obtain ⟨⟨⟨p0, p1⟩, har⟩, hsl⟩ := hsh
  by_cases h0 : op = 0
  · subst h0
    cases neg
    · rw [show nnfC ⟨0, n, args⟩ false = ⟨0, n, []⟩ by simp [nnfC]]
      go_enter Tryz.func127, Tryz.ntmps127
      go_wp2_with fail
      exact bodyPost_ret (v := .agg #[.int .i64 0, .int .i64 n, .slice none 0 0]) (by simp [results, Tryz.results127, go_sem]) rfl (RetCon.of (r := ⟨0, n, []⟩) (conR_leaf _ _ _ _) (by repeat (first | exact Keeps.refl _ _ | refine Keeps.drewN ?_ _ | refine Keeps.drew ?_ | refine Keeps.alloc ?_ _ | refine Keeps.set ?_ (Or.inl (by rfl)) _)))
    · rw [show nnfC ⟨0, n, args⟩ true = ⟨3, 0, [⟨0, n, []⟩]⟩ by simp [nnfC]]
      go_enter Tryz.func127, Tryz.ntmps127
      go_wp2_with fail
      refine bodyPost_ret (v := .agg #[.int .i64 3, .int .i64 0, .slice (some ⟨w.heap.size + 1 + 1, 0, none⟩) 1 1]) (by simp [results, Tryz.results127, go_sem]) rfl (RetCon.of (r := ⟨3, 0, [⟨0, n, []⟩]⟩) ?_ (by repeat (first | exact Keeps.refl _ _ | refine Keeps.drewN ?_ _ | refine Keeps.drew ?_ | refine Keeps.alloc ?_ _ | refine Keeps.set ?_ (Or.inl (by rfl)) _)))
      generalize hW0 : World.alloc _ _ = W0
      have hb : W0.heap[w.heap.size + 1 + 1]? = some (.cells #[.int .i64 0, .int .i64 n, .slice none 0 0] 94 (0, 0)) := by rw [← hW0]; exact blkNew (by simp)
      obtain ⟨y0, y1, y2⟩ := cells3 hb
      simp only [ConR, ConsR]
      exact ⟨_, 1, rfl, Nat.le_refl _, fun _ => ⟨_, 0, rfl, by omega, ⟨_, _, _, y0, y1, y2, none, 0, rfl, Nat.le_refl _, fun h => absurd rfl h⟩, fun _ => ⟨_, _, hb⟩⟩⟩
  · by_cases h3 : op = 3
    · subst h3
      have hl1 : args.length = 1 := by unfold arityZ at har; simp at har; omega
      obtain ⟨c1, rfl⟩ : ∃ c1, args = [c1] := List.length_eq_one_iff.1 hl1
      rw [show nnfC ⟨3, n, [c1]⟩ neg = nnfC c1 (!neg) by simp [nnfC, nnfH]]
      have hc := HC.out
      simp only [ConR] at hc
      obtain ⟨A1, cap1, e1, hcap, hr⟩ := hc
      simp only [List.cons.injEq, Value.slice.injEq, and_true, true_and] at e1
      obtain ⟨rfl, rfl⟩ := e1
      obtain ⟨b, o, rfl, hb, hr⟩ := hr (by simp)
      obtain ⟨A', cap', e0, e1, e2, hc1⟩ := hr.at_ 0 (by simp)
      simp only [List.getElem_cons_zero, Nat.zero_mul, Nat.add_zero] at e0 e1 e2 hc1
      have hbl := World.block_lt_of_cell? w _ e0
      simp only at hbl
      have hbl1 : b < w.heap.size + 1 := by omega
      have HC1 := Lib.hid hc1
      have hs1 : shapeC c1 = true := by simp only [shapeL, Bool.and_true] at hsl; exact hsl
      have hN1 : c1.size < N := by simp only [Con.size, Con.sizes] at hN; omega
      have HS := Lib.hid hs1
      clear hc1 hs1 hr hsl HC
      go_enter Tryz.func127, Tryz.ntmps127
      go_wp2_with fail
      generalize hW0 : World.alloc _ _ = W0
      have hK0 : Keeps (fun _ => False) w W0 := by rw [← hW0]; repeat (first | exact Keeps.refl _ _ | refine Keeps.drewN ?_ _ | refine Keeps.drew ?_ | refine Keeps.alloc ?_ _ | refine Keeps.set ?_ (Or.inl (by rfl)) _)
      have hb0 : W0.heap[w.heap.size + 1]? = some (.cells #[.int .i64 0, .int .i64 0, .slice none 0 0] 94 (0, 0)) := by rw [← hW0]; exact blkNew (by simp)
      have hsz0 : W0.heap.size = w.heap.size + 2 := by rw [← hW0]; simp
      clear hW0
      refine (IH.out c1 (!neg) A' cap' ok W0 hN1 HS.out (HC1.out.keep hK0 (fun _ _ h => h)) (HD.out.keep hK0 (fun h => h))).mono ?_
      rintro e w1 ⟨A2, cap2, rfl, hc2, hk2⟩
      have hb1 := hk2.blk hb0 (fun h => h)
      obtain ⟨y0, y1, y2⟩ := cells3 hb1
      have f0 := blkFree hb1 0
      have f1 := blkFree hb1 1
      have f2 := blkFree hb1 2
      have HR2 := Lib.hid hc2
      have HB1 := Lib.hid hb1
      have hlt := blkLt hb1
      have hsz := hK0.size
      generalize nnfC c1 (!neg) = r at *
      clear hb0 hb1 hc2
      go_wp2_with fail
      generalize hW3 : World.setCell _ _ _ = W3
      have hb3 : W3.heap[w.heap.size + 1]? = some (.cells #[.int .i64 r.op, .int .i64 r.n, .slice A2 r.args.length cap2] 94 (0, 0)) := by rw [← hW3]; exact blkSet (blkSet (blkSet HB1.out 0 _) 1 _) 2 _
      have hK3 : Keeps (fun i => i = w.heap.size + 1) w1 W3 := by rw [← hW3]; repeat (first | exact Keeps.refl _ _ | refine Keeps.drewN ?_ _ | refine Keeps.drew ?_ | refine Keeps.alloc ?_ _ | refine Keeps.set ?_ (Or.inl (by rfl)) _)
      clear hW3
      obtain ⟨z0, z1, z2⟩ := cells3 hb3
      refine bodyPost_ret (v := .agg #[.int .i64 r.op, .int .i64 r.n, .slice A2 r.args.length cap2]) (by simp [results, Tryz.results127, go_sem, z0, z1, z2]) rfl (RetCon.of (HR2.out.keep hK3 (fun k hk e => by omega) |>.mono (fun k hk => by omega)) (((hK0.then_ hk2).of0.then_ hK3).new (fun i hi => by omega)))
    · obtain ⟨d, hdd⟩ : ∃ d, (if neg then dualZ op else op) = d := ⟨_, rfl⟩
      obtain ⟨ng, hng⟩ : ∃ ng, neg = ng := ⟨_, rfl⟩
      have hn0 : nnfC ⟨op, n, args⟩ neg = ⟨d, n, nnfL args ng⟩ := by rw [← hng]; simp only [nnfC]; rw [if_neg h0, if_neg h3, hdd]
      rw [hn0]
      have HDD := Lib.hid hdd
      have hal : args.length ≤ 2 := by
        have : arityZ op ≤ 2 := by unfold arityZ; split; omega; split <;> omega
        omega
      have q0 : (op == 0) = false := by simpa using h0
      have q3 : (op == 3) = false := by simpa using h3
      have p2 : op < 8 := by omega
      have hdu := HD.out.at_ op p0 p1
      have hg0 : 0 < w.heap.size := by obtain ⟨t, fz, h⟩ := HD.out; exact blkLt h
      have hg1 : 0 < w.heap.size + 1 := by omega
      have hg2 : 0 < w.heap.size + 1 + 1 := by omega
      have hc := HC.out
      simp only [ConR] at hc
      obtain ⟨A1, cap1, e1, hcap, hr⟩ := hc
      simp only [List.cons.injEq, Value.slice.injEq, and_true, true_and] at e1
      obtain ⟨rfl, rfl⟩ := e1
      have HR := Lib.hid hr
      have HSL := Lib.hid hsl
      clear hr hsl HC hdd hn0 har
      have HNG := Lib.hid hng
      clear hng
      cases neg
      case' false => simp only [Bool.false_eq_true, if_false] at HDD
      case' true => simp only [if_true] at HDD
      all_goals
        go_enter Tryz.func127, Tryz.ntmps127
        go_wp2_with fail
        generalize hW0 : World.alloc _ _ = W0
        have hK0 : Keeps (fun _ => False) w W0 := by rw [← hW0]; repeat (first | exact Keeps.refl _ _ | refine Keeps.drewN ?_ _ | refine Keeps.drew ?_ | refine Keeps.alloc ?_ _ | refine Keeps.set ?_ (Or.inl (by rfl)) _)
        have hb2 : W0.heap[w.heap.size + 1 + 1]? = some (.cells #[.int .i64 d, .int .i64 n, .slice none 0 0] 94 (0, 0)) := by rw [← hW0]; have e := HDD.out; subst e; exact blkNew (by simp)
        have hb1 : W0.heap[w.heap.size + 1]? = some (.cells #[.int .i64 0, .int .i64 0, .slice none 0 0] 94 (0, 0)) := by rw [← hW0]; exact blkAlloc (blkNew (by simp)) _
        have hsz0 : W0.heap.size = w.heap.size + 3 := by rw [← hW0]; simp
        have hds := Lib.hid (HD.out.keep hK0 (fun h => h))
        clear hW0 hdu hg0 hg1 hg2
        have HB1 := Lib.hid hb1
        have HB2 := Lib.hid hb2
        have HS0 := Lib.hid hsz0
        clear hb1 hb2
        generalize hg2 : w.heap.size + 1 + 1 = g2 at *
        have HG2 := Lib.hid hg2
        have hlt2 : g2 < W0.heap.size := by omega
        have hdn : ¬ 0 = g2 := by obtain ⟨t, fz, h⟩ := HD.out; have := blkLt h; omega
        clear hg2 hsz0
        go_loopw [44] (fun i wr => ∃ (k : Nat) (v : Value), k ≤ args.length ∧ i = .int .i64 k ∧ Hid (wr.heap[g2]? = some (.cells #[.int .i64 d, .int .i64 n, v] 94 (0, 0))) ∧ Hid (OwnCons wr W0.heap.size v ((args.take k).map (nnfC · ng))) ∧ Keeps (fun i => i = g2) W0 wr) (fun i _ => args.length - (intOf i).toNat)
        case atStart => exact ⟨0, _, Nat.zero_le _, rfl, HB2, OwnCons.nil _ _, Keeps.refl _ _⟩
        case round =>
          obtain ⟨k, v, hk, rfl, HG, HO, HK⟩ := hrel
          by_cases hlt : k < args.length
          · obtain ⟨b, o, rfl, hb, hr⟩ := HR.out (by intro h; subst h; simp at hlt)
            have hrw := ConsR.keep (ok := fun k => ok k ∧ k < w.heap.size) (hK0.of0.then_ HK) (fun i hi => by have := HG2.out; omega) ⟨hb, by cases args with | nil => simp at hlt | cons c r => simp only [ConsR] at hr; obtain ⟨⟨v0, v1, v2, h0, _⟩, _⟩ := hr; exact World.block_lt_of_cell? w _ h0⟩ (hr.lim (hr.pos (by omega)))
            obtain ⟨A', cap', e0, e1, e2, hc⟩ := hrw.at_ k hlt
            have hsn := Con.size_at k hlt
            simp only [Con.size] at hN
            have hshk := Lib.hid (shapeL_at HSL.out k hlt)
            have hmap := Lib.hid (show (args.take (k + 1)).map (nnfC · ng) = (args.take k).map (nnfC · ng) ++ [nnfC args[k] ng] by rw [List.take_succ_eq_append_getElem hlt, List.map_append]; rfl)
            have hnk : args[k].size < N := by omega
            generalize args[k] = ck at *
            have HC := Lib.hid hc
            have hcall : ∀ W, ConR (fun k => ok k ∧ k < w.heap.size) W ck [.int .i64 ck.op, .int .i64 ck.n, .slice A' ck.args.length cap'] → DualsTab W → Calls Tryz.prog 127 #[.agg #[.int .i64 ck.op, .int .i64 ck.n, .slice A' ck.args.length cap'], .bool ng] W (RetCon (nnfC ck ng) W) :=
              fun W h1 h2 => IH.out ck ng A' cap' _ W hnk hshk.out h1 h2
            generalize nnfC ck ng = rk at *
            have HCALL := Lib.hid hcall
            rw [← HNG.out] at HCALL
            clear hcall
            have hgb := HG.out
            obtain ⟨g0, g1, gv⟩ := cells3 hgb
            have hgl := blkLt hgb
            have hgf := blkFree hgb 2
            obtain ⟨cells, ho, _⟩ := HO.out
            have HOW := Lib.hid ho
            have hszw := HK.size
            clear hc hr hrw hgb ho
            go_wp2_with fail
            generalize hW4 : World.alloc _ _ = W4
            have hK4 : Keeps (fun _ => False) wr W4 := by rw [← hW4]; repeat (first | exact Keeps.refl _ _ | refine Keeps.drewN ?_ _ | refine Keeps.drew ?_ | refine Keeps.alloc ?_ _ | refine Keeps.set ?_ (Or.inl (by rfl)) _)
            have hb4 : W4.heap[wr.heap.size]? = some (.cells #[.int .i64 ck.op, .int .i64 ck.n, .slice A' ck.args.length cap'] 94 (0, 0)) := by rw [← hW4]; exact blkNew rfl
            clear hW4
            obtain ⟨i0, i1, i2⟩ := cells3 hb4
            have gv4 := hK4.cell gv (fun h => h)
            have gf4 := blkFree (hK4.blk HG.out (fun h => h)) 2
            have hs4 := hK4.size
            have hw4 := blkLt hb4
            clear hb4 e0 e1 e2 g0 g1 gv
            go_region_law
              (first | (refine step_call (by rfl) 127 #[.agg #[.int .i64 ck.op, .int .i64 ck.n, .slice A' ck.args.length cap'], .bool _] (by first | (go_simp; done) | (go_simp; rfl)) ?_; refine (HCALL.out _ (by exact HC.out.keep (S := fun _ => False) (by first | exact hK4 | exact hK4.drew | exact hK4.drewN _) (fun _ _ h => h)) (by exact hds.out.keep (S := fun i => i = g2) (by first | exact HK.then_ hK4.of0 | exact (HK.then_ hK4.of0).drew | exact (HK.then_ hK4.of0).drewN _) hdn)).mono ?_; rintro e w5 ⟨A2, cap2, rfl, hc2, hk2⟩; refine ⟨_, rfl, ?_⟩; go_must (have hk45 : Keeps (fun _ => False) wr w5 := (by first | exact hK4.then_ hk2 | exact hK4.drew.then_ hk2 | exact (hK4.drewN _).then_ hk2); have hs45 := hk45.size; have gv5 := hk2.cell (by exact gv4) (fun h => h); have hgl5 : g2 < w5.heap.size := (by omega); have HC2 := Lib.hid hc2; clear hc2)) | (refine step_app rfl _ _ 91 91 (by rfl) W0.heap.size 94 _ 3 40 Tryz.underlying91 infoCon rfl (by decide) (by decide) v ((args.take k).map (nnfC · ng)).length cells (by refine ownsKeep (S := fun _ => False) HOW.out ?_ (fun _ _ h => h); repeat (first | exact hk45 | refine Keeps.drewN ?_ _ | refine Keeps.drew ?_ | refine Keeps.alloc ?_ _)) (by rfl) (.slice (some ⟨w5.heap.size, 0, none⟩) 1 1) 1 [.int .i64 rk.op, .int .i64 rk.n, .slice A2 rk.args.length cap2] (by exact Src.ofBlock Tryz.underlying91 (cs := #[.int .i64 rk.op, .int .i64 rk.n, .slice A2 rk.args.length cap2]) (blkNew (by first | rfl | simp)) (by rfl) (by simp [Value.oneCell'])) (by rfl) (by decide) (by simp; omega) (by simp; omega) ?_; intro g cap3 w6 ho3 hk3 hat hcap3 hlt3; have hb6 := hk3.blk (g := g2) (by exact blkAlloc (hk45.blk HG.out (fun h => h)) _) (fun h => by have := HOW.out.lt _ h; omega); have gf6 := blkFree hb6 2; have gv6 := blkCell hb6 2; simp only [List.getElem?_toArray, List.getElem?_cons_zero, List.getElem?_cons_succ] at gv6; have HB6 := Lib.hid hb6; clear hb6))
            all_goals
              go_wp2_with fail
              go_roundw
              case rel =>
                have hkw : Keeps (fun _ => False) wr (w5.alloc (.cells #[.int .i64 rk.op, .int .i64 rk.n, .slice A2 rk.args.length cap2] 94)) := hk45.alloc _
                have hvl := HOW.out.lt
                have hoc := (HO.out.keep hkw (fun _ _ h => h)).app (ownsKeep HOW.out hkw (fun _ _ h => h)) (c := rk) (v0 := .int .i64 rk.op) (v1 := .int .i64 rk.n) (v2 := .slice A2 rk.args.length cap2)
                  ((HC2.out.keep (S := fun _ => False) ((Keeps.refl _ _).alloc _) (fun _ _ h => h)).mono (fun i hi => ⟨by simp at hi; omega, fun e => by have := (hvl i e).2; simp at hi; omega⟩)) ho3 hk3 hat
                refine ⟨k + 1, .slice (some ⟨g, 0, none⟩) _ _, by omega, by go_num, blkSet HB6.out 2 _, ?_, ?_⟩
                · unfold Hid
                  rw [hmap.out]
                  have h := hoc.keep (S := fun i => i = g2) (Keeps.set1 _ g2 2 (.slice (some ⟨g, 0, none⟩) (k + 1) cap3)) (fun i hi e => by omega)
                  rw [show ((args.take k).map (nnfC · ng)).length = k by simp; omega] at h
                  exact h
                · exact Keeps.set (g := g2) ((HK.then_ hkw.of0).trans hk3 (fun i hi => .inr (hvl i hi).1)) (.inl rfl) _
              case measure => simp [intOf]; omega
          · obtain rfl : args.length = k := by omega
            obtain ⟨A', cap', rfl, hnode⟩ := HO.out.node d n
            rw [List.take_length] at hnode
            have HND := Lib.hid hnode
            obtain ⟨g0, g1, gv⟩ := cells3 HG.out
            have hb1 := HK.blk HB1.out (by have := HG2.out; omega)
            obtain ⟨y0, y1, y2⟩ := cells3 hb1
            have f0 := blkFree hb1 0
            have f1 := blkFree hb1 1
            have f2 := blkFree hb1 2
            have hne : w.heap.size + 1 ≠ g2 := by have := HG2.out; omega
            have HB := Lib.hid hb1
            have hmp := Lib.hid (nnfL_map args ng)
            clear hnode hb1
            go_wp2_with fail
            generalize hW3 : World.setCell _ _ _ = W3
            have hb3 : W3.heap[w.heap.size + 1]? = some (.cells #[.int .i64 d, .int .i64 n, .slice A' args.length cap'] 94 (0, 0)) := by rw [← hW3]; exact blkSet (blkSet (blkSet HB.out 0 _) 1 _) 2 _
            have hK3 : Keeps (fun i => i = w.heap.size + 1) wr W3 := by rw [← hW3]; repeat (first | exact Keeps.refl _ _ | refine Keeps.drewN ?_ _ | refine Keeps.drew ?_ | refine Keeps.alloc ?_ _ | refine Keeps.set ?_ (Or.inl (by rfl)) _)
            clear hW3
            obtain ⟨z0, z1, z2⟩ := cells3 hb3
            rw [hmp.out]
            have hnd := HND.out
            have hfin := RetCon.of (w := w) (r := ⟨d, n, args.map (nnfC · ng)⟩) ((hnd.keep hK3 (fun i hi e => by have := HS0.out; omega)).mono (fun i hi => by have := HS0.out; omega)) (((hK0.of0.then_ HK).new (fun i hi => by have := HG2.out; omega)).of0.then_ hK3 |>.new (fun i hi => by omega))
            refine bodyPost_ret (v := .agg #[.int .i64 d, .int .i64 n, .slice A' (args.map (nnfC · ng)).length cap']) (by simp [results, Tryz.results127, go_sem, z0, z1, z2]) rfl hfin
end Go.Proofs.YtknonaboaaiabaaGreatDoor
