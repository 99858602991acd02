/- isagogeref19.Shape: whether a concept counts as empty, and as full. -/
import Derived.Test.YthiclhbnggehoaaGreatDoorBase
import Derived.Test.YthiclhbnggehoaaGreatDoorR1
import Derived.Test.YthiclhbnggehoaaGreatDoorRising
import Derived.Test.YthiclhbnggehoaaGreatDoorKnow
import Derived.Test.YthiclhbnggehoaaGreatDoorPMod
import Derived.Deep.QuietTactic
import Derived.BigQuiet
import Derived.Test.YthiclhbnggehoaaGreatDoorLocal
import Derived.Test.YthiclhbnggehoaaGreatDoorModule
namespace Go.Proofs.YthiclhbnggehoaaGreatDoor
open Go.RowKit
set_option linter.unusedVariables false
set_option linter.unusedSimpArgs false
theorem infoBool : (Tryz.prog.info? 4).map (fun i => (i.zero, i.size, i.bytes)) = some (some (.bool false), 1, 1) := by kernel_rfl
/-- A row of bools of the call's own. -/
def OwnB (w : World) (base : Nat) (v : Value) (l : List Bool) : Prop := w.ownsRow base 4 1 v l.length (l.map Value.bool)
theorem OwnB.keep {S : Nat → Prop} {w w' : World} {base : Nat} {v : Value} {l : List Bool} (h : OwnB w base v l) (hk : Keeps S w w') (hs : ∀ b, v.ownBlock = some b → ¬ S b) : OwnB w' base v l := ownsKeep h hk hs
theorem OwnB.lt {w : World} {base : Nat} {v : Value} {l : List Bool} (h : OwnB w base v l) {k : Nat} (e : v.ownBlock = some k) : base ≤ k ∧ k < w.heap.size := World.ownsRow.lt h k e
theorem OwnB.at1 {w : World} {base : Nat} {v : Value} {x : Bool} (h : OwnB w base v [x]) : ∃ g c, v = .slice (some ⟨g, 0, none⟩) 1 c ∧ 1 ≤ c ∧ g < w.heap.size ∧ w.cell? ⟨g, 0, none⟩ = some (.bool x) := by
  obtain ⟨g, c, rfl, hc, _, hg⟩ := ownSlice h (by simp)
  refine ⟨g, c, rfl, hc, hg, ?_⟩
  have := World.ownsRow.cells h (g := g) rfl 0 (.bool x) rfl
  rwa [addPlain] at this
theorem OwnB.at2 {w : World} {base : Nat} {v : Value} {x y : Bool} (h : OwnB w base v [x, y]) : ∃ g c, v = .slice (some ⟨g, 0, none⟩) 2 c ∧ 2 ≤ c ∧ g < w.heap.size ∧ w.cell? ⟨g, 0, none⟩ = some (.bool x) ∧ w.cell? ⟨g, 1, none⟩ = some (.bool y) := by
  obtain ⟨g, c, rfl, hc, _, hg⟩ := ownSlice h (by simp)
  refine ⟨g, c, rfl, hc, hg, ?_, ?_⟩
  · have := World.ownsRow.cells h (g := g) rfl 0 (.bool x) rfl
    rwa [addPlain] at this
  · have := World.ownsRow.cells h (g := g) rfl 1 (.bool y) rfl
    rwa [addPlain] at this
theorem Keeps.upA {S : Nat → Prop} {a b c : World} (_ : Keeps S b c) (h : Keeps (fun _ => False) a b) : Keeps (fun _ => False) a b := h
/-- Two rows that grow. -/
structure TwoB (W0 : World) (l : List (Bool × Bool)) (v u : Value) (w : World) : Prop where
  a : OwnB w W0.heap.size v (l.map (·.1))
  b : OwnB w W0.heap.size u (l.map (·.2))
  ne : ∀ k, v.ownBlock = some k → u.ownBlock ≠ some k
  k : Keeps (fun _ => False) W0 w
theorem TwoB.nil (W0 : World) : TwoB W0 [] (.slice none 0 0) (.slice none 0 0) W0 := ⟨World.ownsRow_nil _ _ _ _, World.ownsRow_nil _ _ _ _, fun k h => by simp [Value.ownBlock] at h, Keeps.refl _ _⟩
theorem TwoB.push {W0 wr Wa Wb Wc Wd : World} {l : List (Bool × Bool)} {v u : Value} {x y : Bool} {g1 c1 g2 c2 : Nat} (h : TwoB W0 l v u wr) (hka : Keeps (fun _ => False) wr Wa)
    (ho1 : Wb.ownsRow W0.heap.size 4 1 (.slice (some ⟨g1, 0, none⟩) (l.length + 1) c1) (l.length + 1) ((l.map (·.1)).map Value.bool ++ [.bool x])) (hk1 : Keeps (fun k => v.ownBlock = some k) Wa Wb) (hat1 : v.ownBlock = some g1 ∨ g1 = Wa.heap.size)
    (hkb : Keeps (fun _ => False) Wb Wc)
    (ho2 : Wd.ownsRow W0.heap.size 4 1 (.slice (some ⟨g2, 0, none⟩) (l.length + 1) c2) (l.length + 1) ((l.map (·.2)).map Value.bool ++ [.bool y])) (hk2 : Keeps (fun k => u.ownBlock = some k) Wc Wd) (hat2 : u.ownBlock = some g2 ∨ g2 = Wc.heap.size) :
    TwoB W0 (l ++ [(x, y)]) (.slice (some ⟨g1, 0, none⟩) (l.length + 1) c1) (.slice (some ⟨g2, 0, none⟩) (l.length + 1) c2) Wd := by
  have hza := hka.size
  have hzb := hk1.size
  have hzc := hkb.size
  have hg1 : g1 < Wb.heap.size := (World.ownsRow.lt ho1 g1 rfl).2
  have hul : ∀ k, u.ownBlock = some k → k < wr.heap.size := fun k e => (h.b.lt e).2
  have hvl : ∀ k, v.ownBlock = some k → k < wr.heap.size := fun k e => (h.a.lt e).2
  have ho1' : OwnB Wb W0.heap.size (.slice (some ⟨g1, 0, none⟩) (l.length + 1) c1) ((l ++ [(x, y)]).map (·.1)) := by unfold OwnB; simpa using ho1
  have ho2' : OwnB Wd W0.heap.size (.slice (some ⟨g2, 0, none⟩) (l.length + 1) c2) ((l ++ [(x, y)]).map (·.2)) := by unfold OwnB; simpa using ho2
  have hg1u : u.ownBlock ≠ some g1 := fun e => by
    rcases hat1 with e1 | e1
    · exact h.ne g1 e1 e
    · have := hul g1 e; omega
  refine ⟨(ho1'.keep hkb (fun _ _ h => h)).keep hk2 (fun b hb e => ?_), ho2', fun k e1 e2 => ?_, ((h.k.then_ hka).trans hk1 (fun i hi => .inr (h.a.lt hi).1)).then_ hkb |>.trans hk2 (fun i hi => .inr (h.b.lt hi).1)⟩
  · simp only [Value.ownBlock, Option.some.injEq] at hb
    subst hb
    exact hg1u e
  · simp only [Value.ownBlock, Option.some.injEq] at e1 e2
    subst e1
    subst e2
    rcases hat2 with e | e
    · exact hg1u e
    · omega
/-- Two bools are returned, nothing that was there has changed. -/
def RetSh (r : Bool × Bool) (w : World) (e : Ending) (w' : World) : Prop := e = .returned (.tuple #[.bool r.1, .bool r.2]) ∧ Keeps (fun _ => False) w w'
theorem RetSh.mk' {r : Bool × Bool} {a b : Bool} {w w' : World} (h : r = (a, b)) (k : Keeps (fun _ => False) w w') : RetSh r w (.returned (.tuple #[.bool a, .bool b])) w' := ⟨by rw [h], k⟩
theorem two_of {l : List (Bool × Bool)} (h : l.length = 2) : ∃ a b c d, l = [(a, b), (c, d)] := by
  match l, h with
  | [(a, b), (c, d)], _ => exact ⟨a, b, c, d, rfl⟩
theorem one_of {l : List (Bool × Bool)} (h : l.length = 1) : ∃ a b, l = [(a, b)] := by
  match l, h with
  | [(a, b)], _ => exact ⟨a, b, rfl⟩
theorem shapeML_at (top : Bool) (C R : Int → Bool) : ∀ {l : List Con} (k : Nat) (h : k < l.length), (shapeML top C R l)[k]? = some (shapeM top C R l[k])
  | c :: r, 0, _ => by simp only [shapeML]; rfl
  | c :: r, k + 1, h => by simp only [shapeML, List.getElem?_cons_succ, List.getElem_cons_succ]; exact shapeML_at top C R k (by simpa using h)
set_option maxRecDepth 100000 in
set_option maxHeartbeats 40000000 in
theorem refShape_calls (top : Bool) (C R : List Int) (AS BS : Option Addr) (cS dS nc nr : Nat) (hnr : nr ≤ 100000) (hC : C.length ≤ 1000000) (hR : R.length ≤ 1000000) (N : Nat) : ∀ (c : Con) (A : Option Addr) (cap : Nat) (ok : Nat → Prop) (w : World), c.size < N → fitC nc nr c = true → ConR ok w c [.int .i64 c.op, .int .i64 c.n, .slice A c.args.length cap] → SigR ok w C R AS BS →
    Calls Tryz.prog 30 #[.agg #[.int .i64 c.op, .int .i64 c.n, .slice A c.args.length cap], .agg #[.slice AS C.length cS, .slice BS R.length dS], .bool top] w (RetSh (shapeM top (inL C) (inL R) c) w) := by
  induction N with
  | zero => intro c A cap ok w h; omega
  | succ N ih =>
  intro c A cap ok w hN hf hc hs
  have IH := Lib.hid @ih
  clear ih
  obtain ⟨op, n, args⟩ := c
  obtain ⟨hop, har, hno, hfl⟩ := fit_parts hf
  have HFL := Lib.hid hfl
  have HNO := Lib.hid hno
  have HAR := Lib.hid har
  have ha2 : args.length ≤ 2 := by unfold arityZ at har; split at har <;> first | omega | (split at har <;> omega)
  simp only [show ∀ o n a, (Con.mk o n a).op = o from fun _ _ _ => rfl, show ∀ o n a, (Con.mk o n a).n = n from fun _ _ _ => rfl, show ∀ o n a, (Con.mk o n a).args = a from fun _ _ _ => rfl] at hc ⊢
  have HCA := Lib.hid (conArgs hc).lim
  have HS : Hid (SigR (fun k => ok k ∧ k < w.heap.size) w C R AS BS) := Lib.hid ⟨hs.c.lim, hs.r.lim⟩
  obtain ⟨L, hL⟩ : ∃ L, L = shapeML top (inL C) (inL R) args := ⟨_, rfl⟩
  have HV : Hid (shapeM top (inL C) (inL R) ⟨op, n, args⟩ = shapeOp top (inL C) (inL R) op n L) := by unfold Hid; rw [hL]; simp only [shapeM]
  have hLL : L.length = args.length := by rw [hL, shapeML_len]
  have HLA : Hid (∀ k (h : k < args.length), L[k]? = some (shapeM top (inL C) (inL R) args[k])) := fun k h => by rw [hL]; exact shapeML_at top _ _ k h
  have hsa : Con.sizes args + 1 = (Con.mk op n args).size := by simp [Con.size]
  have hal := len_sizes args
  generalize (Con.mk op n args).size = sz at *
  generalize shapeM top (inL C) (inL R) ⟨op, n, args⟩ = rv at *
  clear hf hfl hno har hc hs hL
  go_enter Tryz.func30, Tryz.ntmps30
  go_wp2_with fail
  generalize hW0 : World.alloc _ _ = W0
  have hk0 : Keeps (fun _ => False) w W0 := by rw [← hW0]; repeat (first | exact Keeps.refl _ _ | refine Keeps.drewN ?_ _ | refine Keeps.drew ?_ | refine Keeps.alloc ?_ _ | refine Keeps.set ?_ (Or.inl (by rfl)) _)
  have hb0 : W0.heap[w.heap.size]? = some (.cells #[.int .i64 op, .int .i64 n, .slice A args.length cap] 37 (0, 0)) := by rw [← hW0]; exact blkAlloc (blkNew rfl) _
  have hb1 : W0.heap[w.heap.size + 1]? = some (.cells #[.slice AS C.length cS, .slice BS R.length dS] 33 (0, 0)) := by rw [← hW0]; exact blkNew (by simp)
  clear hW0
  have HK0 := Lib.hid hk0
  have HB0 := Lib.hid hb0
  have HB1 := Lib.hid hb1
  have hz0 := hk0.size
  have hzb := blkLt hb1
  clear hk0 hb0 hb1
  go_loopw [8, 9, 19] (fun e f i wr => ∃ k : Nat, k ≤ args.length ∧ i = .int .i64 k ∧ Hid (TwoB W0 (L.take k) e f wr)) (fun _ _ i _ => args.length - (intOf i).toNat)
  case atStart => exact ⟨0, Nat.zero_le _, rfl, TwoB.nil W0⟩
  case round =>
    obtain ⟨k, hk, rfl, HT⟩ := hrel
    have hkr := HT.out.k
    have hzr := hkr.size
    have HKR := Lib.hid (HK0.out.then_ hkr)
    by_cases hlt : k < args.length
    · obtain ⟨bb, o, A', cap', rfl, hob, hbl, e0, e1, e2, hd⟩ := (HCA.out.keep HKR.out (fun _ _ h => h)).nth k hlt
      have hd' := HLA.out k hlt
      have hfd := fitL_at HFL.out k hlt
      have hds := Con.size_at k hlt
      have i1 : (k : Int) < args.length := by omega
      have HTK : Hid (L.take (k + 1) = L.take k ++ [shapeM top (inL C) (inL R) args[k]]) := by
        unfold Hid
        have hkL : k < L.length := by omega
        rw [List.take_succ_eq_append_getElem hkL]
        rw [List.getElem?_eq_getElem hkL, Option.some.injEq] at hd'
        rw [hd']
      generalize args[k] = d at *
      have HCALL : Hid (∀ W, Keeps (fun _ => False) wr W → Calls Tryz.prog 30 #[.agg #[.int .i64 d.op, .int .i64 d.n, .slice A' d.args.length cap'], .agg #[.slice AS C.length cS, .slice BS R.length dS], .bool top] W (RetSh (shapeM top (inL C) (inL R) d) W)) :=
        fun W h => IH.out d A' cap' (fun k => ok k ∧ k < w.heap.size) W (by omega) hfd (hd.keep h (fun _ _ h => h)) (HS.out.keep (HKR.out.then_ h) (fun _ _ h => h))
      generalize shapeM top (inL C) (inL R) d = r at *
      obtain ⟨x, y⟩ := r
      obtain ⟨y0, y1⟩ := cells2 (hkr.blk HB1.out (fun h => h))
      have uy := blkLt (hkr.blk HB1.out (fun h => h))
      have hln : (L.take k).length = k := by rw [List.length_take]; omega
      clear hd' hfd hd hkr
      generalize L.take k = Lk at *
      go_wp2_with fail
      generalize hW4 : World.alloc _ _ = W4
      have hk4 : Keeps (fun _ => False) wr W4 := by rw [← hW4]; repeat (first | exact Keeps.refl _ _ | refine Keeps.drewN ?_ _ | refine Keeps.drew ?_ | refine Keeps.alloc ?_ _ | refine Keeps.set ?_ (Or.inl (by rfl)) _)
      clear hW4
      refine (HCALL.out W4 hk4).mono ?_
      rintro e w5 ⟨rfl, hk5⟩
      have HK5 := Lib.hid (hk4.then_ hk5)
      have HEA : Hid (w5.ownsRow W0.heap.size 4 1 u8 Lk.length ((Lk.map (·.1)).map Value.bool)) := by have h := HT.out.a.keep HK5.out (fun _ _ h => h); unfold OwnB at h; rw [List.length_map] at h; exact h
      have HEB : Hid (w5.ownsRow W0.heap.size 4 1 u9 Lk.length ((Lk.map (·.2)).map Value.bool)) := by have h := HT.out.b.keep HK5.out (fun _ _ h => h); unfold OwnB at h; rw [List.length_map] at h; exact h
      have hz5 : W0.heap.size ≤ w5.heap.size := by have := HK5.out.size; omega
      clear hk4 hk5 HCALL y0 y1 uy e0 e1 e2
      go_wp2_with (first
        | (at_builtin; refine wp_app1 rfl _ _ 106 106 rfl W0.heap.size 4 (.bool false) 1 1 Tryz.underlying106 infoBool rfl (by decide) (by decide) u8 Lk.length _ (ownsKeep (S := fun _ => False) HEA.out (by repeat (first | exact Keeps.refl _ _ | refine Keeps.drewN ?_ _ | refine Keeps.drew ?_ | refine Keeps.alloc ?_ _ | refine Keeps.set ?_ (Or.inl (by rfl)) _)) (fun _ _ h => h)) rfl _ 1 [.bool x] (Src.ofBlock Tryz.underlying106 (cs := #[.bool x]) (blkNew (by first | rfl | simp)) rfl (by simp [Value.oneCell'])) rfl (by decide) (by omega) (by simp; omega) ?_; intro g6 c6 w6 ho6 hk6 hat6 hcap6 hlt6; have HKA := Lib.hid (hk6.upA (a := w5) (by repeat (first | exact Keeps.refl _ _ | refine Keeps.drewN ?_ _ | refine Keeps.drew ?_ | refine Keeps.alloc ?_ _ | refine Keeps.set ?_ (Or.inl (by rfl)) _))); have HO6 := Lib.hid ho6; have HK6 := Lib.hid hk6; have HAT6 := Lib.hid hat6; have HEB6 := Lib.hid (ownsKeep (ownsKeep HEB.out HKA.out (fun _ _ h => h)) hk6 (fun b hb e => HT.out.ne b e hb)); have hz6 := hk6.size; clear ho6 hk6 hat6 HEA HEB)
        | (at_builtin; refine wp_app1 rfl _ _ 106 106 rfl W0.heap.size 4 (.bool false) 1 1 Tryz.underlying106 infoBool rfl (by decide) (by decide) u9 Lk.length _ (ownsKeep (S := fun _ => False) HEB6.out (by repeat (first | exact Keeps.refl _ _ | refine Keeps.drewN ?_ _ | refine Keeps.drew ?_ | refine Keeps.alloc ?_ _ | refine Keeps.set ?_ (Or.inl (by rfl)) _)) (fun _ _ h => h)) rfl _ 1 [.bool y] (Src.ofBlock Tryz.underlying106 (cs := #[.bool y]) (blkNew (by first | rfl | simp)) rfl (by simp [Value.oneCell'])) rfl (by decide) (by omega) (by simp at hz6 ⊢; omega) ?_; intro g7 c7 w7 ho7 hk7 hat7 hcap7 hlt7; have HKB := Lib.hid (hk7.upA (a := w6) (by repeat (first | exact Keeps.refl _ _ | refine Keeps.drewN ?_ _ | refine Keeps.drew ?_ | refine Keeps.alloc ?_ _ | refine Keeps.set ?_ (Or.inl (by rfl)) _))); have HO7 := Lib.hid ho7; have HK7 := Lib.hid hk7; have HAT7 := Lib.hid hat7; clear ho7 hk7 hat7 HEB6)
        | fail)
      go_roundw
      case rel => exact ⟨k + 1, by omega, by go_num, by unfold Hid; rw [HTK.out]; have hp := HT.out.push (HK5.out.then_ HKA.out) HO6.out HK6.out HAT6.out HKB.out HO7.out HK7.out HAT7.out; rw [hln] at hp; exact hp⟩
      case measure => simp [intOf]; omega
    · obtain rfl : k = args.length := by omega
      have HTL : Hid (TwoB W0 L u8 u9 wr) := by have h := HT.out; rw [List.take_of_length_le (by omega)] at h; exact h
      obtain ⟨x0, x1, x2⟩ := cells3 (hkr.blk HB0.out (fun h => h))
      obtain ⟨y0, y1⟩ := cells2 (hkr.blk HB1.out (fun h => h))
      have ux := blkLt (hkr.blk HB0.out (fun h => h))
      have uy := blkLt (hkr.blk HB1.out (fun h => h))
      have hcases : op = 0 ∨ op = 1 ∨ op = 2 ∨ op = 3 ∨ op = 4 ∨ op = 5 ∨ op = 6 ∨ op = 7 := by omega
      clear HT hkr hop
      have HHC : Hid (∀ z W, Keeps (fun _ => False) wr W → Calls Tryz.prog 43 #[.slice AS C.length cS, .int .i64 z] W fun e w' => e = .returned (.bool (decide (z ∈ C))) ∧ w' = W) := fun z W h => has_same C z _ AS cS W (HS.out.c.keep (HKR.out.then_ h) (fun _ _ h => h)) (by omega)
      have HHR : Hid (∀ z W, Keeps (fun _ => False) wr W → Calls Tryz.prog 43 #[.slice BS R.length dS, .int .i64 z] W fun e w' => e = .returned (.bool (decide (z ∈ R))) ∧ w' = W) := fun z W h => has_same R z _ BS dS W (HS.out.r.keep (HKR.out.then_ h) (fun _ _ h => h)) (by omega)
      rcases hcases with rfl | rfl | rfl | rfl | rfl | rfl | rfl | rfl
      · have HQ : Hid (∀ W, Calls Tryz.prog 61 #[.int .i64 0] W fun e w' => e = .returned (.bool false) ∧ w' = W) := fun W => by simpa using quantified_calls 0 W
        go_wp2_with fail
        refine (HQ.out _).mono ?_
        rintro e wq ⟨rfl, hq⟩
        rw [hq]
        clear hq HQ
        go_wp2_with fail
        refine (HHC.out _ _ (Keeps.refl _ _)).mono ?_
        rintro e wq ⟨rfl, hq⟩
        rw [hq]
        clear hq
        cases hr : decide (n ∈ C) <;> cases top
        all_goals
          have HR := Lib.hid hr
          clear hr
          go_wp2_with fail
          first
            | (refine bodyPost_ret (v := .tuple #[.bool false, .bool false]) ?g1 rfl (RetSh.mk' ?g2 ?g3); (case g1 => (simp [results, Tryz.results30, go_sem]; done)); (case g2 => (rw [HV.out]; unfold shapeOp; simp only [inL, HR.out]; rfl)); (case g3 => (first | exact HKR.out | (refine Keeps.drewN ?_ _; exact HKR.out))))
            | (refine bodyPost_ret (v := .tuple #[.bool false, .bool true]) ?g1 rfl (RetSh.mk' ?g2 ?g3); (case g1 => (simp [results, Tryz.results30, go_sem]; done)); (case g2 => (rw [HV.out]; unfold shapeOp; simp only [inL, HR.out]; rfl)); (case g3 => (first | exact HKR.out | (refine Keeps.drewN ?_ _; exact HKR.out))))
            | (refine bodyPost_ret (v := .tuple #[.bool true, .bool false]) ?g1 rfl (RetSh.mk' ?g2 ?g3); (case g1 => (simp [results, Tryz.results30, go_sem]; done)); (case g2 => (rw [HV.out]; unfold shapeOp; simp only [inL, HR.out]; rfl)); (case g3 => (first | exact HKR.out | (refine Keeps.drewN ?_ _; exact HKR.out))))
            | (refine bodyPost_ret (v := .tuple #[.bool true, .bool true]) ?g1 rfl (RetSh.mk' ?g2 ?g3); (case g1 => (simp [results, Tryz.results30, go_sem]; done)); (case g2 => (rw [HV.out]; unfold shapeOp; simp only [inL, HR.out]; rfl)); (case g3 => (first | exact HKR.out | (refine Keeps.drewN ?_ _; exact HKR.out))))
            | fail
      · have HQ : Hid (∀ W, Calls Tryz.prog 61 #[.int .i64 1] W fun e w' => e = .returned (.bool false) ∧ w' = W) := fun W => by simpa using quantified_calls 1 W
        go_wp2_with fail
        refine (HQ.out _).mono ?_
        rintro e wq ⟨rfl, hq⟩
        rw [hq]
        clear hq HQ
        go_wp2_with fail
        first
          | (refine bodyPost_ret (v := .tuple #[.bool false, .bool false]) ?g1 rfl (RetSh.mk' ?g2 ?g3); (case g1 => (simp [results, Tryz.results30, go_sem]; done)); (case g2 => (rw [HV.out]; simp [shapeOp, inL])); (case g3 => (first | exact HKR.out | (refine Keeps.drewN ?_ _; exact HKR.out))))
          | (refine bodyPost_ret (v := .tuple #[.bool false, .bool true]) ?g1 rfl (RetSh.mk' ?g2 ?g3); (case g1 => (simp [results, Tryz.results30, go_sem]; done)); (case g2 => (rw [HV.out]; simp [shapeOp, inL])); (case g3 => (first | exact HKR.out | (refine Keeps.drewN ?_ _; exact HKR.out))))
          | (refine bodyPost_ret (v := .tuple #[.bool true, .bool false]) ?g1 rfl (RetSh.mk' ?g2 ?g3); (case g1 => (simp [results, Tryz.results30, go_sem]; done)); (case g2 => (rw [HV.out]; simp [shapeOp, inL])); (case g3 => (first | exact HKR.out | (refine Keeps.drewN ?_ _; exact HKR.out))))
          | (refine bodyPost_ret (v := .tuple #[.bool true, .bool true]) ?g1 rfl (RetSh.mk' ?g2 ?g3); (case g1 => (simp [results, Tryz.results30, go_sem]; done)); (case g2 => (rw [HV.out]; simp [shapeOp, inL])); (case g3 => (first | exact HKR.out | (refine Keeps.drewN ?_ _; exact HKR.out))))
          | fail
      · have HQ : Hid (∀ W, Calls Tryz.prog 61 #[.int .i64 2] W fun e w' => e = .returned (.bool false) ∧ w' = W) := fun W => by simpa using quantified_calls 2 W
        go_wp2_with fail
        refine (HQ.out _).mono ?_
        rintro e wq ⟨rfl, hq⟩
        rw [hq]
        clear hq HQ
        go_wp2_with fail
        first
          | (refine bodyPost_ret (v := .tuple #[.bool false, .bool false]) ?g1 rfl (RetSh.mk' ?g2 ?g3); (case g1 => (simp [results, Tryz.results30, go_sem]; done)); (case g2 => (rw [HV.out]; simp [shapeOp, inL])); (case g3 => (first | exact HKR.out | (refine Keeps.drewN ?_ _; exact HKR.out))))
          | (refine bodyPost_ret (v := .tuple #[.bool false, .bool true]) ?g1 rfl (RetSh.mk' ?g2 ?g3); (case g1 => (simp [results, Tryz.results30, go_sem]; done)); (case g2 => (rw [HV.out]; simp [shapeOp, inL])); (case g3 => (first | exact HKR.out | (refine Keeps.drewN ?_ _; exact HKR.out))))
          | (refine bodyPost_ret (v := .tuple #[.bool true, .bool false]) ?g1 rfl (RetSh.mk' ?g2 ?g3); (case g1 => (simp [results, Tryz.results30, go_sem]; done)); (case g2 => (rw [HV.out]; simp [shapeOp, inL])); (case g3 => (first | exact HKR.out | (refine Keeps.drewN ?_ _; exact HKR.out))))
          | (refine bodyPost_ret (v := .tuple #[.bool true, .bool true]) ?g1 rfl (RetSh.mk' ?g2 ?g3); (case g1 => (simp [results, Tryz.results30, go_sem]; done)); (case g2 => (rw [HV.out]; simp [shapeOp, inL])); (case g3 => (first | exact HKR.out | (refine Keeps.drewN ?_ _; exact HKR.out))))
          | fail
      · obtain ⟨x, y, rfl⟩ := one_of (l := L) (by have := HAR.out; simp [arityZ] at this; omega)
        obtain ⟨g1, d1, rfl, hd1, hg1, z1⟩ := OwnB.at1 HTL.out.a
        obtain ⟨g2, d2, rfl, hd2, hg2, z2⟩ := OwnB.at1 HTL.out.b
        have HQ : Hid (∀ W, Calls Tryz.prog 61 #[.int .i64 3] W fun e w' => e = .returned (.bool false) ∧ w' = W) := fun W => by simpa using quantified_calls 3 W
        go_wp2_with fail
        refine (HQ.out _).mono ?_
        rintro e wq ⟨rfl, hq⟩
        rw [hq]
        clear hq HQ
        cases x <;> cases y
        all_goals
          go_wp2_with fail
          go_quiet (fail)
          go_wp2_with fail
          first
            | (refine bodyPost_ret (v := .tuple #[.bool false, .bool false]) ?g1 rfl (RetSh.mk' ?g2 ?g3); (case g1 => (simp [results, Tryz.results30, go_sem]; done)); (case g2 => (rw [HV.out]; simp [shapeOp, inL])); (case g3 => (first | exact HKR.out | (refine Keeps.drewN ?_ _; exact HKR.out))))
            | (refine bodyPost_ret (v := .tuple #[.bool false, .bool true]) ?g1 rfl (RetSh.mk' ?g2 ?g3); (case g1 => (simp [results, Tryz.results30, go_sem]; done)); (case g2 => (rw [HV.out]; simp [shapeOp, inL])); (case g3 => (first | exact HKR.out | (refine Keeps.drewN ?_ _; exact HKR.out))))
            | (refine bodyPost_ret (v := .tuple #[.bool true, .bool false]) ?g1 rfl (RetSh.mk' ?g2 ?g3); (case g1 => (simp [results, Tryz.results30, go_sem]; done)); (case g2 => (rw [HV.out]; simp [shapeOp, inL])); (case g3 => (first | exact HKR.out | (refine Keeps.drewN ?_ _; exact HKR.out))))
            | (refine bodyPost_ret (v := .tuple #[.bool true, .bool true]) ?g1 rfl (RetSh.mk' ?g2 ?g3); (case g1 => (simp [results, Tryz.results30, go_sem]; done)); (case g2 => (rw [HV.out]; simp [shapeOp, inL])); (case g3 => (first | exact HKR.out | (refine Keeps.drewN ?_ _; exact HKR.out))))
            | fail
      · obtain ⟨x, y, z, u, rfl⟩ := two_of (l := L) (by have := HAR.out; simp [arityZ] at this; omega)
        obtain ⟨g1, d1, rfl, hd1, hg1, z1, z2⟩ := OwnB.at2 HTL.out.a
        obtain ⟨g2, d2, rfl, hd2, hg2, z3, z4⟩ := OwnB.at2 HTL.out.b
        have HQ : Hid (∀ W, Calls Tryz.prog 61 #[.int .i64 4] W fun e w' => e = .returned (.bool false) ∧ w' = W) := fun W => by simpa using quantified_calls 4 W
        go_wp2_with fail
        refine (HQ.out _).mono ?_
        rintro e wq ⟨rfl, hq⟩
        rw [hq]
        clear hq HQ
        cases x <;> cases y <;> cases z <;> cases u
        all_goals
          go_wp2_with fail
          go_quiet (fail)
          go_wp2_with fail
          first
            | (refine bodyPost_ret (v := .tuple #[.bool false, .bool false]) ?g1 rfl (RetSh.mk' ?g2 ?g3); (case g1 => (simp [results, Tryz.results30, go_sem]; done)); (case g2 => (rw [HV.out]; simp [shapeOp, inL])); (case g3 => (first | exact HKR.out | (refine Keeps.drewN ?_ _; exact HKR.out))))
            | (refine bodyPost_ret (v := .tuple #[.bool false, .bool true]) ?g1 rfl (RetSh.mk' ?g2 ?g3); (case g1 => (simp [results, Tryz.results30, go_sem]; done)); (case g2 => (rw [HV.out]; simp [shapeOp, inL])); (case g3 => (first | exact HKR.out | (refine Keeps.drewN ?_ _; exact HKR.out))))
            | (refine bodyPost_ret (v := .tuple #[.bool true, .bool false]) ?g1 rfl (RetSh.mk' ?g2 ?g3); (case g1 => (simp [results, Tryz.results30, go_sem]; done)); (case g2 => (rw [HV.out]; simp [shapeOp, inL])); (case g3 => (first | exact HKR.out | (refine Keeps.drewN ?_ _; exact HKR.out))))
            | (refine bodyPost_ret (v := .tuple #[.bool true, .bool true]) ?g1 rfl (RetSh.mk' ?g2 ?g3); (case g1 => (simp [results, Tryz.results30, go_sem]; done)); (case g2 => (rw [HV.out]; simp [shapeOp, inL])); (case g3 => (first | exact HKR.out | (refine Keeps.drewN ?_ _; exact HKR.out))))
            | fail
      · obtain ⟨x, y, z, u, rfl⟩ := two_of (l := L) (by have := HAR.out; simp [arityZ] at this; omega)
        obtain ⟨g1, d1, rfl, hd1, hg1, z1, z2⟩ := OwnB.at2 HTL.out.a
        obtain ⟨g2, d2, rfl, hd2, hg2, z3, z4⟩ := OwnB.at2 HTL.out.b
        have HQ : Hid (∀ W, Calls Tryz.prog 61 #[.int .i64 5] W fun e w' => e = .returned (.bool false) ∧ w' = W) := fun W => by simpa using quantified_calls 5 W
        go_wp2_with fail
        refine (HQ.out _).mono ?_
        rintro e wq ⟨rfl, hq⟩
        rw [hq]
        clear hq HQ
        cases x <;> cases y <;> cases z <;> cases u
        all_goals
          go_wp2_with fail
          go_quiet (fail)
          go_wp2_with fail
          first
            | (refine bodyPost_ret (v := .tuple #[.bool false, .bool false]) ?g1 rfl (RetSh.mk' ?g2 ?g3); (case g1 => (simp [results, Tryz.results30, go_sem]; done)); (case g2 => (rw [HV.out]; simp [shapeOp, inL])); (case g3 => (first | exact HKR.out | (refine Keeps.drewN ?_ _; exact HKR.out))))
            | (refine bodyPost_ret (v := .tuple #[.bool false, .bool true]) ?g1 rfl (RetSh.mk' ?g2 ?g3); (case g1 => (simp [results, Tryz.results30, go_sem]; done)); (case g2 => (rw [HV.out]; simp [shapeOp, inL])); (case g3 => (first | exact HKR.out | (refine Keeps.drewN ?_ _; exact HKR.out))))
            | (refine bodyPost_ret (v := .tuple #[.bool true, .bool false]) ?g1 rfl (RetSh.mk' ?g2 ?g3); (case g1 => (simp [results, Tryz.results30, go_sem]; done)); (case g2 => (rw [HV.out]; simp [shapeOp, inL])); (case g3 => (first | exact HKR.out | (refine Keeps.drewN ?_ _; exact HKR.out))))
            | (refine bodyPost_ret (v := .tuple #[.bool true, .bool true]) ?g1 rfl (RetSh.mk' ?g2 ?g3); (case g1 => (simp [results, Tryz.results30, go_sem]; done)); (case g2 => (rw [HV.out]; simp [shapeOp, inL])); (case g3 => (first | exact HKR.out | (refine Keeps.drewN ?_ _; exact HKR.out))))
            | fail
      · obtain ⟨x, y, rfl⟩ := one_of (l := L) (by have := HAR.out; simp [arityZ] at this; omega)
        obtain ⟨g1, d1, rfl, hd1, hg1, z1⟩ := OwnB.at1 HTL.out.a
        obtain ⟨g2, d2, rfl, hd2, hg2, z2⟩ := OwnB.at1 HTL.out.b
        have hn2 : 0 ≤ n ∧ n < 2 * (nr : Int) := by have h := HNO.out; simp [nodeOk, roleOk] at h; omega
        have hwn : wrap64 (n.tdiv 2) = n / 2 := by rw [Int.tdiv_eq_ediv_of_nonneg hn2.1]; unfold wrap64; omega
        have HWN := Lib.hid hwn
        clear hwn
        have HQ : Hid (∀ W, Calls Tryz.prog 61 #[.int .i64 6] W fun e w' => e = .returned (.bool true) ∧ w' = W) := fun W => by simpa using quantified_calls 6 W
        go_wp2_with fail
        refine (HQ.out _).mono ?_
        rintro e wq ⟨rfl, hq⟩
        rw [hq]
        clear hq HQ
        go_wp2_with fail
        refine (HHR.out _ _ (Keeps.refl _ _)).mono ?_
        rintro e wq ⟨rfl, hq⟩
        rw [hq]
        clear hq
        try rw [HWN.out]
        cases hr : decide (n / 2 ∈ R) <;> cases top <;> cases x <;> cases y
        all_goals
          have HR := Lib.hid hr
          clear hr
          go_wp2_with fail
          go_quiet (fail)
          go_wp2_with fail
          first
            | (refine bodyPost_ret (v := .tuple #[.bool false, .bool false]) ?g1 rfl (RetSh.mk' ?g2 ?g3); (case g1 => (simp [results, Tryz.results30, go_sem]; done)); (case g2 => (rw [HV.out]; unfold shapeOp; simp only [inL, HR.out]; rfl)); (case g3 => (first | exact HKR.out | (refine Keeps.drewN ?_ _; exact HKR.out))))
            | (refine bodyPost_ret (v := .tuple #[.bool false, .bool true]) ?g1 rfl (RetSh.mk' ?g2 ?g3); (case g1 => (simp [results, Tryz.results30, go_sem]; done)); (case g2 => (rw [HV.out]; unfold shapeOp; simp only [inL, HR.out]; rfl)); (case g3 => (first | exact HKR.out | (refine Keeps.drewN ?_ _; exact HKR.out))))
            | (refine bodyPost_ret (v := .tuple #[.bool true, .bool false]) ?g1 rfl (RetSh.mk' ?g2 ?g3); (case g1 => (simp [results, Tryz.results30, go_sem]; done)); (case g2 => (rw [HV.out]; unfold shapeOp; simp only [inL, HR.out]; rfl)); (case g3 => (first | exact HKR.out | (refine Keeps.drewN ?_ _; exact HKR.out))))
            | (refine bodyPost_ret (v := .tuple #[.bool true, .bool true]) ?g1 rfl (RetSh.mk' ?g2 ?g3); (case g1 => (simp [results, Tryz.results30, go_sem]; done)); (case g2 => (rw [HV.out]; unfold shapeOp; simp only [inL, HR.out]; rfl)); (case g3 => (first | exact HKR.out | (refine Keeps.drewN ?_ _; exact HKR.out))))
            | fail
      · obtain ⟨x, y, rfl⟩ := one_of (l := L) (by have := HAR.out; simp [arityZ] at this; omega)
        obtain ⟨g1, d1, rfl, hd1, hg1, z1⟩ := OwnB.at1 HTL.out.a
        obtain ⟨g2, d2, rfl, hd2, hg2, z2⟩ := OwnB.at1 HTL.out.b
        have hn2 : 0 ≤ n ∧ n < 2 * (nr : Int) := by have h := HNO.out; simp [nodeOk, roleOk] at h; omega
        have hwn : wrap64 (n.tdiv 2) = n / 2 := by rw [Int.tdiv_eq_ediv_of_nonneg hn2.1]; unfold wrap64; omega
        have HWN := Lib.hid hwn
        clear hwn
        have HQ : Hid (∀ W, Calls Tryz.prog 61 #[.int .i64 7] W fun e w' => e = .returned (.bool true) ∧ w' = W) := fun W => by simpa using quantified_calls 7 W
        go_wp2_with fail
        refine (HQ.out _).mono ?_
        rintro e wq ⟨rfl, hq⟩
        rw [hq]
        clear hq HQ
        go_wp2_with fail
        refine (HHR.out _ _ (Keeps.refl _ _)).mono ?_
        rintro e wq ⟨rfl, hq⟩
        rw [hq]
        clear hq
        try rw [HWN.out]
        cases hr : decide (n / 2 ∈ R) <;> cases top <;> cases x <;> cases y
        all_goals
          have HR := Lib.hid hr
          clear hr
          go_wp2_with fail
          go_quiet (fail)
          go_wp2_with fail
          first
            | (refine bodyPost_ret (v := .tuple #[.bool false, .bool false]) ?g1 rfl (RetSh.mk' ?g2 ?g3); (case g1 => (simp [results, Tryz.results30, go_sem]; done)); (case g2 => (rw [HV.out]; unfold shapeOp; simp only [inL, HR.out]; rfl)); (case g3 => (first | exact HKR.out | (refine Keeps.drewN ?_ _; exact HKR.out))))
            | (refine bodyPost_ret (v := .tuple #[.bool false, .bool true]) ?g1 rfl (RetSh.mk' ?g2 ?g3); (case g1 => (simp [results, Tryz.results30, go_sem]; done)); (case g2 => (rw [HV.out]; unfold shapeOp; simp only [inL, HR.out]; rfl)); (case g3 => (first | exact HKR.out | (refine Keeps.drewN ?_ _; exact HKR.out))))
            | (refine bodyPost_ret (v := .tuple #[.bool true, .bool false]) ?g1 rfl (RetSh.mk' ?g2 ?g3); (case g1 => (simp [results, Tryz.results30, go_sem]; done)); (case g2 => (rw [HV.out]; unfold shapeOp; simp only [inL, HR.out]; rfl)); (case g3 => (first | exact HKR.out | (refine Keeps.drewN ?_ _; exact HKR.out))))
            | (refine bodyPost_ret (v := .tuple #[.bool true, .bool true]) ?g1 rfl (RetSh.mk' ?g2 ?g3); (case g1 => (simp [results, Tryz.results30, go_sem]; done)); (case g2 => (rw [HV.out]; unfold shapeOp; simp only [inL, HR.out]; rfl)); (case g3 => (first | exact HKR.out | (refine Keeps.drewN ?_ _; exact HKR.out))))
            | fail
end Go.Proofs.YthiclhbnggehoaaGreatDoor
/- isagogeref19.Local: whether an axiom is local. -/
namespace Go.Proofs.YthiclhbnggehoaaGreatDoor
open Go.RowKit
set_option linter.unusedVariables false
set_option linter.unusedSimpArgs false
set_option maxRecDepth 100000 in
set_option maxHeartbeats 16000000 in
theorem refLocal1_calls (top : Bool) (C R : List Int) (AS BS : Option Addr) (cS dS : Nat) (b : Kb) (p : KbA) (k : Nat) (ok : Nat → Prop) (w : World) (hb : KbR ok w b p) (hv : KbFit b) (hs : SigR ok w C R AS BS) (hC : C.length ≤ 1000000) (hR : R.length ≤ 1000000) (hk : k < b.incls.length) (hl1 : b.incls.length ≤ 1000000) (hl2 : b.roles.length ≤ 1000000) (hl3 : b.facts.length ≤ 1000000) (hl4 : b.links.length ≤ 1000000) :
    Calls Tryz.prog 27 #[.agg #[.slice p.a0 b.cs.length p.c0, .slice p.a1 b.rs.length p.c1, .slice p.a2 b.is.length p.c2, .slice p.a3 b.incls.length p.c3, .slice p.a4 b.roles.length p.c4, .slice p.a5 b.facts.length p.c5, .slice p.a6 b.links.length p.c6], .int .i64 (k : Int), .agg #[.slice AS C.length cS, .slice BS R.length dS], .bool top] w (SaysB (localX top (inL C) (inL R) (.incl b.incls[k].1 b.incls[k].2)) w) := by
  have hxm : b.incls[k] ∈ b.incls := List.getElem_mem _
  obtain ⟨bb, o, hat, hbb, hcl⟩ := hb.incls (by intro h; rw [h] at hk; simp at hk)
  obtain ⟨A1, c1, A2, c2, e0, e1, e2, e3, e4, e5, r1, r2⟩ := hcl k hk
  have hof1 : ∀ W, Keeps (fun _ => False) w W → Calls Tryz.prog 30 #[.agg #[.int .i64 b.incls[k].1.op, .int .i64 b.incls[k].1.n, .slice A1 b.incls[k].1.args.length c1], .agg #[.slice AS C.length cS, .slice BS R.length dS], .bool top] W (RetSh (shapeM top (inL C) (inL R) b.incls[k].1) W) := fun W hK => refShape_calls top C R AS BS cS dS b.cs.length b.rs.length hv.n hC hR _ b.incls[k].1 A1 c1 ok W (Nat.lt_succ_self _) (hv.i _ hxm).1 (r1.keep hK (fun _ _ h => h)) (hs.keep hK (fun _ _ h => h))
  have hof2 : ∀ W, Keeps (fun _ => False) w W → Calls Tryz.prog 30 #[.agg #[.int .i64 b.incls[k].2.op, .int .i64 b.incls[k].2.n, .slice A2 b.incls[k].2.args.length c2], .agg #[.slice AS C.length cS, .slice BS R.length dS], .bool top] W (RetSh (shapeM top (inL C) (inL R) b.incls[k].2) W) := fun W hK => refShape_calls top C R AS BS cS dS b.cs.length b.rs.length hv.n hC hR _ b.incls[k].2 A2 c2 ok W (Nat.lt_succ_self _) (hv.i _ hxm).2 (r2.keep hK (fun _ _ h => h)) (hs.keep hK (fun _ _ h => h))
  simp only [localX]
  generalize shapeM top (inL C) (inL R) b.incls[k].1 = q1 at *
  generalize shapeM top (inL C) (inL R) b.incls[k].2 = q2 at *
  generalize b.incls[k].1 = d1 at *
  generalize b.incls[k].2 = d2 at *
  obtain ⟨op1, n1, args1⟩ := d1
  obtain ⟨op2, n2, args2⟩ := d2
  obtain ⟨p1, p2⟩ := q1
  obtain ⟨p3, p4⟩ := q2
  simp only [Con.op, Con.n, Con.args] at *
  have HO1 := Lib.hid hof1
  have HO2 := Lib.hid hof2
  have HE : Hid (∀ w', Keeps (fun _ => False) w w' → w'.cell? ⟨bb, o + k * 6, none⟩ = some (.int .i64 op1) ∧ w'.cell? ⟨bb, o + k * 6 + 1, none⟩ = some (.int .i64 n1) ∧ w'.cell? ⟨bb, o + k * 6 + 2, none⟩ = some (.slice A1 args1.length c1) ∧ w'.cell? ⟨bb, o + k * 6 + 3, none⟩ = some (.int .i64 op2) ∧ w'.cell? ⟨bb, o + k * 6 + 3 + 1, none⟩ = some (.int .i64 n2) ∧ w'.cell? ⟨bb, o + k * 6 + 3 + 2, none⟩ = some (.slice A2 args2.length c2)) :=
    fun w' hK => ⟨hK.cell e0 (fun h => h), hK.cell e1 (fun h => h), hK.cell e2 (fun h => h), hK.cell e3 (fun h => h), hK.cell e4 (fun h => h), hK.cell e5 (fun h => h)⟩
  clear hof1 hof2 e0 e1 e2 e3 e4 e5 r1 r2
  have HS : Hid (∀ W, Keeps (fun _ => False) w W → SigR ok W C R AS BS) := fun W h => hs.keep h (fun _ _ h => h)
  clear hxm hb hs hcl
  have hk1 : (k : Int) < b.incls.length := by omega
  have hk0 : (0 : Int) ≤ k := by omega
  obtain ⟨a0, a1, a2, a3, a4, a5, a6, cc0, cc1, cc2, cc3, cc4, cc5, cc6⟩ := p
  simp only at hat ⊢
  subst hat

  go_enter Tryz.func27, Tryz.ntmps27
  go_wp2_with fail
  generalize hW0 : World.alloc _ _ = W0
  have hK0 : Keeps (fun _ => False) w W0 := by rw [← hW0]; repeat (first | exact Keeps.refl _ _ | refine Keeps.drewN ?_ _ | refine Keeps.drew ?_ | refine Keeps.alloc ?_ _ | refine Keeps.set ?_ (Or.inl (by rfl)) _)
  have hb0 : W0.heap[w.heap.size]? = some (.cells #[.slice a0 b.cs.length cc0, .slice a1 b.rs.length cc1, .slice a2 b.is.length cc2, .slice (some ⟨bb, o, none⟩) b.incls.length cc3, .slice a4 b.roles.length cc4, .slice a5 b.facts.length cc5, .slice a6 b.links.length cc6] 30 (0, 0)) := by rw [← hW0]; exact blkAlloc (blkNew rfl) _
  have hb1 : W0.heap[w.heap.size + 1]? = some (.cells #[.slice AS C.length cS, .slice BS R.length dS] 33 (0, 0)) := by rw [← hW0]; exact blkNew (by simp)
  clear hW0
  have HK0 := Lib.hid hK0
  have HB0 := Lib.hid hb0
  have HB1 := Lib.hid hb1
  have hH : ∀ w', Keeps (fun _ => False) W0 w' → (w'.cell? ⟨w.heap.size, 3, none⟩ = some (.slice (some ⟨bb, o, none⟩) b.incls.length cc3) ∧ w'.cell? ⟨w.heap.size + 1, 0, none⟩ = some (.slice AS C.length cS) ∧ w'.cell? ⟨w.heap.size + 1, 1, none⟩ = some (.slice BS R.length dS) ∧ w'.cell? ⟨bb, o + k * 6, none⟩ = some (.int .i64 op1) ∧ w'.cell? ⟨bb, o + k * 6 + 1, none⟩ = some (.int .i64 n1) ∧ w'.cell? ⟨bb, o + k * 6 + 2, none⟩ = some (.slice A1 args1.length c1) ∧ w'.cell? ⟨bb, o + k * 6 + 3, none⟩ = some (.int .i64 op2) ∧ w'.cell? ⟨bb, o + k * 6 + 3 + 1, none⟩ = some (.int .i64 n2) ∧ w'.cell? ⟨bb, o + k * 6 + 3 + 2, none⟩ = some (.slice A2 args2.length c2)) := by
    intro w' hK
    obtain ⟨x0, x1, x2, x3, x4, x5, x6⟩ := cells7 (hK.blk HB0.out (fun h => h))
    obtain ⟨y0, y1⟩ := cells2 (hK.blk HB1.out (fun h => h))
    exact ⟨x3, y0, y1, HE.out w' (HK0.out.then_ hK)⟩
  have HH := Lib.hid hH
  clear hK0 hb0 hb1 hH
  obtain ⟨b0, b1', b2', b3, b4, b5, b6, b7, b8⟩ := HH.out _ (Keeps.refl _ _)
  have ub := blkLt HB0.out
  have ub1 := blkLt HB1.out
  go_upto_region 3 with fail
  clear b0 b1' b2' b3 b4 b5 b6 b7 b8
  go_region_held3 (fun w' => (w'.cell? ⟨w.heap.size, 3, none⟩ = some (.slice (some ⟨bb, o, none⟩) b.incls.length cc3) ∧ w'.cell? ⟨w.heap.size + 1, 0, none⟩ = some (.slice AS C.length cS) ∧ w'.cell? ⟨w.heap.size + 1, 1, none⟩ = some (.slice BS R.length dS) ∧ w'.cell? ⟨bb, o + k * 6, none⟩ = some (.int .i64 op1) ∧ w'.cell? ⟨bb, o + k * 6 + 1, none⟩ = some (.int .i64 n1) ∧ w'.cell? ⟨bb, o + k * 6 + 2, none⟩ = some (.slice A1 args1.length c1) ∧ w'.cell? ⟨bb, o + k * 6 + 3, none⟩ = some (.int .i64 op2) ∧ w'.cell? ⟨bb, o + k * 6 + 3 + 1, none⟩ = some (.int .i64 n2) ∧ w'.cell? ⟨bb, o + k * 6 + 3 + 2, none⟩ = some (.slice A2 args2.length c2)))
    (first | exact HH.out _ (Keeps.refl _ _) | exact HH.out _ (Keeps.refl _ _).drew | exact HH.out _ HK2.out)
    ((go_at_call 30; refine (HO1.out W0.drew (HK0.out.drew)).mono ?_; rintro e w2 ⟨rfl, hk2⟩; have HK2 := Lib.hid hk2.undrew; clear hk2))
  all_goals
    go_upto_region 4 with fail
    go_region_held3 (fun w' => (w'.cell? ⟨w.heap.size, 3, none⟩ = some (.slice (some ⟨bb, o, none⟩) b.incls.length cc3) ∧ w'.cell? ⟨w.heap.size + 1, 0, none⟩ = some (.slice AS C.length cS) ∧ w'.cell? ⟨w.heap.size + 1, 1, none⟩ = some (.slice BS R.length dS) ∧ w'.cell? ⟨bb, o + k * 6, none⟩ = some (.int .i64 op1) ∧ w'.cell? ⟨bb, o + k * 6 + 1, none⟩ = some (.int .i64 n1) ∧ w'.cell? ⟨bb, o + k * 6 + 2, none⟩ = some (.slice A1 args1.length c1) ∧ w'.cell? ⟨bb, o + k * 6 + 3, none⟩ = some (.int .i64 op2) ∧ w'.cell? ⟨bb, o + k * 6 + 3 + 1, none⟩ = some (.int .i64 n2) ∧ w'.cell? ⟨bb, o + k * 6 + 3 + 2, none⟩ = some (.slice A2 args2.length c2)))
      (first | exact HH.out _ HK2.out | exact HH.out _ HK2.out.drew | exact HH.out _ HK3.out)
      ((go_at_call 30; refine (HO2.out w2.drew ((HK0.out.then_ HK2.out).drew)).mono ?_; rintro e w3 ⟨rfl, hk3⟩; have HK3 := Lib.hid (HK2.out.then_ hk3.undrew); clear hk3))
    all_goals
      cases p1 <;> cases p4
      all_goals
        go_wp2_with fail
        go_ret
        exact ⟨rfl, HK0.out.then_ HK3.out⟩
set_option maxRecDepth 100000 in
set_option maxHeartbeats 16000000 in
theorem refLocal2n_calls (C R : List Int) (AS BS : Option Addr) (cS dS : Nat) (b : Kb) (p : KbA) (k : Nat) (ok : Nat → Prop) (w : World) (hb : KbR ok w b p) (hv : KbFit b) (hs : SigR ok w C R AS BS) (hC : C.length ≤ 1000000) (hR : R.length ≤ 1000000) (hk : k < b.roles.length) (hl1 : b.incls.length ≤ 1000000) (hl2 : b.roles.length ≤ 1000000) (hl3 : b.facts.length ≤ 1000000) (hl4 : b.links.length ≤ 1000000) :
    Calls Tryz.prog 27 #[.agg #[.slice p.a0 b.cs.length p.c0, .slice p.a1 b.rs.length p.c1, .slice p.a2 b.is.length p.c2, .slice p.a3 b.incls.length p.c3, .slice p.a4 b.roles.length p.c4, .slice p.a5 b.facts.length p.c5, .slice p.a6 b.links.length p.c6], .int .i64 ((b.incls.length + k : Nat) : Int), .agg #[.slice AS C.length cS, .slice BS R.length dS], .bool false] w (SaysB (localX false (inL C) (inL R) (.role b.roles[k].1 b.roles[k].2)) w) := by
  have hxm : b.roles[k] ∈ b.roles := List.getElem_mem _
  obtain ⟨bb, o, hat, hbb, hcl⟩ := hb.roles (by intro h; rw [h] at hk; simp at hk)
  have hrr := hv.r _ hxm
  have hec := hcl k hk
  have HHS : Hid (∀ z W, Keeps (fun _ => False) w W → Calls Tryz.prog 43 #[.slice BS R.length dS, .int .i64 z] W fun e w' => e = .returned (.bool (decide (z ∈ R))) ∧ w' = W) := fun z W h => has_same R z _ BS dS W (hs.r.keep h (fun _ _ h => h)) (by omega)
  simp only [localX, inL]
  generalize b.roles[k].1 = x1 at *
  generalize b.roles[k].2 = x2 at *
  have hw1 : wrap64 (x1.tdiv 2) = x1 / 2 := half_z (by omega) (by have := hv.n; omega)
  have hv1 : IntKind.i64.wrap (x1.tdiv 2) = x1 / 2 := by rw [Int.tdiv_eq_ediv_of_nonneg (by omega)]; exact IntWalk.i64_in _ (by have := hv.n; omega)
  have HE : Hid (∀ w', Keeps (fun _ => False) w w' → w'.cell? ⟨bb, o + k * 2, none⟩ = some (.int .i64 x1) ∧ w'.cell? ⟨bb, o + k * 2 + 1, none⟩ = some (.int .i64 x2)) := fun w' hK => ⟨hK.cell hec.1 (fun h => h), hK.cell hec.2 (fun h => h)⟩
  clear hrr hec
  have HS : Hid (∀ W, Keeps (fun _ => False) w W → SigR ok W C R AS BS) := fun W h => hs.keep h (fun _ _ h => h)
  clear hxm hb hs hcl
  have hk1 : (k : Int) < b.roles.length := by omega
  have hk0 : (0 : Int) ≤ k := by omega
  obtain ⟨a0, a1, a2, a3, a4, a5, a6, cc0, cc1, cc2, cc3, cc4, cc5, cc6⟩ := p
  simp only at hat ⊢
  subst hat
  obtain ⟨N0, hN0⟩ : ∃ N0 : Nat, N0 = b.incls.length + k := ⟨_, rfl⟩
  rw [← hN0]
  have g0 : ¬ ((N0 : Int) < (b.incls.length : Int)) := by omega
  have s0 : wrap64 ((N0 : Int) - (b.incls.length : Int)) = (k : Int) := by unfold wrap64; omega
  clear hN0
  go_enter Tryz.func27, Tryz.ntmps27
  go_wp2_with fail
  generalize hW0 : World.alloc _ _ = W0
  have hK0 : Keeps (fun _ => False) w W0 := by rw [← hW0]; repeat (first | exact Keeps.refl _ _ | refine Keeps.drewN ?_ _ | refine Keeps.drew ?_ | refine Keeps.alloc ?_ _ | refine Keeps.set ?_ (Or.inl (by rfl)) _)
  have hb0 : W0.heap[w.heap.size]? = some (.cells #[.slice a0 b.cs.length cc0, .slice a1 b.rs.length cc1, .slice a2 b.is.length cc2, .slice a3 b.incls.length cc3, .slice (some ⟨bb, o, none⟩) b.roles.length cc4, .slice a5 b.facts.length cc5, .slice a6 b.links.length cc6] 30 (0, 0)) := by rw [← hW0]; exact blkAlloc (blkNew rfl) _
  have hb1 : W0.heap[w.heap.size + 1]? = some (.cells #[.slice AS C.length cS, .slice BS R.length dS] 33 (0, 0)) := by rw [← hW0]; exact blkNew (by simp)
  clear hW0
  have HK0 := Lib.hid hK0
  have HB0 := Lib.hid hb0
  have HB1 := Lib.hid hb1
  have hH : ∀ w', Keeps (fun _ => False) W0 w' → (w'.cell? ⟨w.heap.size, 3, none⟩ = some (.slice a3 b.incls.length cc3) ∧ w'.cell? ⟨w.heap.size, 4, none⟩ = some (.slice (some ⟨bb, o, none⟩) b.roles.length cc4) ∧ w'.cell? ⟨w.heap.size + 1, 0, none⟩ = some (.slice AS C.length cS) ∧ w'.cell? ⟨w.heap.size + 1, 1, none⟩ = some (.slice BS R.length dS) ∧ w'.cell? ⟨bb, o + k * 2, none⟩ = some (.int .i64 x1) ∧ w'.cell? ⟨bb, o + k * 2 + 1, none⟩ = some (.int .i64 x2)) := by
    intro w' hK
    obtain ⟨x0, x1, x2, x3, x4, x5, x6⟩ := cells7 (hK.blk HB0.out (fun h => h))
    obtain ⟨y0, y1⟩ := cells2 (hK.blk HB1.out (fun h => h))
    exact ⟨x3, x4, y0, y1, HE.out w' (HK0.out.then_ hK)⟩
  have HH := Lib.hid hH
  clear hK0 hb0 hb1 hH
  obtain ⟨b0, b1', b2', b3, b4, b5⟩ := HH.out _ (Keeps.refl _ _)
  have ub := blkLt HB0.out
  have ub1 := blkLt HB1.out
  have ub2 := World.block_lt_of_cell? _ _ b4
  have HHQ : Hid (∀ n : Nat, Calls Tryz.prog 43 #[.slice BS R.length dS, .int .i64 (x1 / 2)] (W0.drewN n) fun e w' => e = .returned (.bool (decide (x1 / 2 ∈ R))) ∧ w' = W0.drewN n) := fun n => HHS.out _ _ (HK0.out.drewN n)
  generalize decide (x1 / 2 ∈ R) = hr at *
  go_wp2_with fail
  go_quiet ((go_at_call 43; exact Calls.quiet_of_same (HHQ.out _)))
  all_goals
    go_wp2_with fail
    go_ret
    exact ⟨by simp, by first | exact HK0.out | exact HK0.out.drewN _ | (refine Keeps.drewN ?_ _; exact HK0.out)⟩
set_option maxRecDepth 100000 in
set_option maxHeartbeats 16000000 in
theorem refLocal2e_calls (C R : List Int) (AS BS : Option Addr) (cS dS : Nat) (b : Kb) (p : KbA) (k : Nat) (ok : Nat → Prop) (w : World) (hb : KbR ok w b p) (hv : KbFit b) (hs : SigR ok w C R AS BS) (hC : C.length ≤ 1000000) (hR : R.length ≤ 1000000) (hk : k < b.roles.length) (hl1 : b.incls.length ≤ 1000000) (hl2 : b.roles.length ≤ 1000000) (hl3 : b.facts.length ≤ 1000000) (hl4 : b.links.length ≤ 1000000) :
    Calls Tryz.prog 27 #[.agg #[.slice p.a0 b.cs.length p.c0, .slice p.a1 b.rs.length p.c1, .slice p.a2 b.is.length p.c2, .slice p.a3 b.incls.length p.c3, .slice p.a4 b.roles.length p.c4, .slice p.a5 b.facts.length p.c5, .slice p.a6 b.links.length p.c6], .int .i64 ((b.incls.length + k : Nat) : Int), .agg #[.slice AS C.length cS, .slice BS R.length dS], .bool true] w (SaysB (localX true (inL C) (inL R) (.role b.roles[k].1 b.roles[k].2)) w) := by
  have hxm : b.roles[k] ∈ b.roles := List.getElem_mem _
  obtain ⟨bb, o, hat, hbb, hcl⟩ := hb.roles (by intro h; rw [h] at hk; simp at hk)
  have hrr := hv.r _ hxm
  have hec := hcl k hk
  have HHS : Hid (∀ z W, Keeps (fun _ => False) w W → Calls Tryz.prog 43 #[.slice BS R.length dS, .int .i64 z] W fun e w' => e = .returned (.bool (decide (z ∈ R))) ∧ w' = W) := fun z W h => has_same R z _ BS dS W (hs.r.keep h (fun _ _ h => h)) (by omega)
  simp only [localX, inL]
  generalize b.roles[k].1 = x1 at *
  generalize b.roles[k].2 = x2 at *
  have hw1 : wrap64 (x2.tdiv 2) = x2 / 2 := half_z (by omega) (by have := hv.n; omega)
  have hv1 : IntKind.i64.wrap (x2.tdiv 2) = x2 / 2 := by rw [Int.tdiv_eq_ediv_of_nonneg (by omega)]; exact IntWalk.i64_in _ (by have := hv.n; omega)
  have HE : Hid (∀ w', Keeps (fun _ => False) w w' → w'.cell? ⟨bb, o + k * 2, none⟩ = some (.int .i64 x1) ∧ w'.cell? ⟨bb, o + k * 2 + 1, none⟩ = some (.int .i64 x2)) := fun w' hK => ⟨hK.cell hec.1 (fun h => h), hK.cell hec.2 (fun h => h)⟩
  clear hrr hec
  have HS : Hid (∀ W, Keeps (fun _ => False) w W → SigR ok W C R AS BS) := fun W h => hs.keep h (fun _ _ h => h)
  clear hxm hb hs hcl
  have hk1 : (k : Int) < b.roles.length := by omega
  have hk0 : (0 : Int) ≤ k := by omega
  obtain ⟨a0, a1, a2, a3, a4, a5, a6, cc0, cc1, cc2, cc3, cc4, cc5, cc6⟩ := p
  simp only at hat ⊢
  subst hat
  obtain ⟨N0, hN0⟩ : ∃ N0 : Nat, N0 = b.incls.length + k := ⟨_, rfl⟩
  rw [← hN0]
  have g0 : ¬ ((N0 : Int) < (b.incls.length : Int)) := by omega
  have s0 : wrap64 ((N0 : Int) - (b.incls.length : Int)) = (k : Int) := by unfold wrap64; omega
  clear hN0
  go_enter Tryz.func27, Tryz.ntmps27
  go_wp2_with fail
  generalize hW0 : World.alloc _ _ = W0
  have hK0 : Keeps (fun _ => False) w W0 := by rw [← hW0]; repeat (first | exact Keeps.refl _ _ | refine Keeps.drewN ?_ _ | refine Keeps.drew ?_ | refine Keeps.alloc ?_ _ | refine Keeps.set ?_ (Or.inl (by rfl)) _)
  have hb0 : W0.heap[w.heap.size]? = some (.cells #[.slice a0 b.cs.length cc0, .slice a1 b.rs.length cc1, .slice a2 b.is.length cc2, .slice a3 b.incls.length cc3, .slice (some ⟨bb, o, none⟩) b.roles.length cc4, .slice a5 b.facts.length cc5, .slice a6 b.links.length cc6] 30 (0, 0)) := by rw [← hW0]; exact blkAlloc (blkNew rfl) _
  have hb1 : W0.heap[w.heap.size + 1]? = some (.cells #[.slice AS C.length cS, .slice BS R.length dS] 33 (0, 0)) := by rw [← hW0]; exact blkNew (by simp)
  clear hW0
  have HK0 := Lib.hid hK0
  have HB0 := Lib.hid hb0
  have HB1 := Lib.hid hb1
  have hH : ∀ w', Keeps (fun _ => False) W0 w' → (w'.cell? ⟨w.heap.size, 3, none⟩ = some (.slice a3 b.incls.length cc3) ∧ w'.cell? ⟨w.heap.size, 4, none⟩ = some (.slice (some ⟨bb, o, none⟩) b.roles.length cc4) ∧ w'.cell? ⟨w.heap.size + 1, 0, none⟩ = some (.slice AS C.length cS) ∧ w'.cell? ⟨w.heap.size + 1, 1, none⟩ = some (.slice BS R.length dS) ∧ w'.cell? ⟨bb, o + k * 2, none⟩ = some (.int .i64 x1) ∧ w'.cell? ⟨bb, o + k * 2 + 1, none⟩ = some (.int .i64 x2)) := by
    intro w' hK
    obtain ⟨x0, x1, x2, x3, x4, x5, x6⟩ := cells7 (hK.blk HB0.out (fun h => h))
    obtain ⟨y0, y1⟩ := cells2 (hK.blk HB1.out (fun h => h))
    exact ⟨x3, x4, y0, y1, HE.out w' (HK0.out.then_ hK)⟩
  have HH := Lib.hid hH
  clear hK0 hb0 hb1 hH
  obtain ⟨b0, b1', b2', b3, b4, b5⟩ := HH.out _ (Keeps.refl _ _)
  have ub := blkLt HB0.out
  have ub1 := blkLt HB1.out
  have ub2 := World.block_lt_of_cell? _ _ b4
  have HHQ : Hid (∀ n : Nat, Calls Tryz.prog 43 #[.slice BS R.length dS, .int .i64 (x2 / 2)] (W0.drewN n) fun e w' => e = .returned (.bool (decide (x2 / 2 ∈ R))) ∧ w' = W0.drewN n) := fun n => HHS.out _ _ (HK0.out.drewN n)
  generalize decide (x2 / 2 ∈ R) = hr at *
  go_wp2_with fail
  go_quiet ((go_at_call 43; exact Calls.quiet_of_same (HHQ.out _)))
  all_goals
    go_wp2_with fail
    go_ret
    exact ⟨by simp, by first | exact HK0.out | exact HK0.out.drewN _ | (refine Keeps.drewN ?_ _; exact HK0.out)⟩
set_option maxRecDepth 100000 in
set_option maxHeartbeats 16000000 in
theorem refLocal3_calls (top : Bool) (C R : List Int) (AS BS : Option Addr) (cS dS : Nat) (b : Kb) (p : KbA) (k : Nat) (ok : Nat → Prop) (w : World) (hb : KbR ok w b p) (hv : KbFit b) (hs : SigR ok w C R AS BS) (hC : C.length ≤ 1000000) (hR : R.length ≤ 1000000) (hk : k < b.facts.length) (hl1 : b.incls.length ≤ 1000000) (hl2 : b.roles.length ≤ 1000000) (hl3 : b.facts.length ≤ 1000000) (hl4 : b.links.length ≤ 1000000) :
    Calls Tryz.prog 27 #[.agg #[.slice p.a0 b.cs.length p.c0, .slice p.a1 b.rs.length p.c1, .slice p.a2 b.is.length p.c2, .slice p.a3 b.incls.length p.c3, .slice p.a4 b.roles.length p.c4, .slice p.a5 b.facts.length p.c5, .slice p.a6 b.links.length p.c6], .int .i64 ((b.incls.length + b.roles.length + k : Nat) : Int), .agg #[.slice AS C.length cS, .slice BS R.length dS], .bool top] w (SaysB (localX top (inL C) (inL R) (.fact b.facts[k].1 b.facts[k].2)) w) := by
  have hxm : b.facts[k] ∈ b.facts := List.getElem_mem _
  obtain ⟨bb, o, hat, hbb, hcl⟩ := hb.facts (by intro h; rw [h] at hk; simp at hk)
  obtain ⟨A1, c1, e0, e1, e2, e3, r1⟩ := hcl k hk
  have hof1 : ∀ W, Keeps (fun _ => False) w W → Calls Tryz.prog 30 #[.agg #[.int .i64 b.facts[k].2.op, .int .i64 b.facts[k].2.n, .slice A1 b.facts[k].2.args.length c1], .agg #[.slice AS C.length cS, .slice BS R.length dS], .bool top] W (RetSh (shapeM top (inL C) (inL R) b.facts[k].2) W) := fun W hK => refShape_calls top C R AS BS cS dS b.cs.length b.rs.length hv.n hC hR _ b.facts[k].2 A1 c1 ok W (Nat.lt_succ_self _) (hv.f _ hxm) (r1.keep hK (fun _ _ h => h)) (hs.keep hK (fun _ _ h => h))
  simp only [localX]
  generalize shapeM top (inL C) (inL R) b.facts[k].2 = q1 at *
  generalize b.facts[k].1 = f1 at *
  generalize b.facts[k].2 = d1 at *
  obtain ⟨op1, n1, args1⟩ := d1
  obtain ⟨p1, p2⟩ := q1
  simp only [Con.op, Con.n, Con.args] at *
  have HO1 := Lib.hid hof1
  have HE : Hid (∀ w', Keeps (fun _ => False) w w' → w'.cell? ⟨bb, o + k * 4 + 1, none⟩ = some (.int .i64 op1) ∧ w'.cell? ⟨bb, o + k * 4 + 1 + 1, none⟩ = some (.int .i64 n1) ∧ w'.cell? ⟨bb, o + k * 4 + 1 + 2, none⟩ = some (.slice A1 args1.length c1)) := fun w' hK => ⟨hK.cell e1 (fun h => h), hK.cell e2 (fun h => h), hK.cell e3 (fun h => h)⟩
  clear hof1 e0 e1 e2 e3 r1
  have HS : Hid (∀ W, Keeps (fun _ => False) w W → SigR ok W C R AS BS) := fun W h => hs.keep h (fun _ _ h => h)
  clear hxm hb hs hcl
  have hk1 : (k : Int) < b.facts.length := by omega
  have hk0 : (0 : Int) ≤ k := by omega
  obtain ⟨a0, a1, a2, a3, a4, a5, a6, cc0, cc1, cc2, cc3, cc4, cc5, cc6⟩ := p
  simp only at hat ⊢
  subst hat
  obtain ⟨N0, hN0⟩ : ∃ N0 : Nat, N0 = b.incls.length + b.roles.length + k := ⟨_, rfl⟩
  rw [← hN0]
  obtain ⟨N1, hN1⟩ : ∃ m : Nat, m = N0 - b.incls.length := ⟨_, rfl⟩
  have g0 : ¬ ((N0 : Int) < (b.incls.length : Int)) := by omega
  have s0 : wrap64 ((N0 : Int) - (b.incls.length : Int)) = (N1 : Int) := by unfold wrap64; omega
  have g1 : ¬ ((N1 : Int) < (b.roles.length : Int)) := by omega
  have s1 : wrap64 ((N1 : Int) - (b.roles.length : Int)) = (k : Int) := by unfold wrap64; omega
  clear hN0 hN1
  go_enter Tryz.func27, Tryz.ntmps27
  go_wp2_with fail
  generalize hW0 : World.alloc _ _ = W0
  have hK0 : Keeps (fun _ => False) w W0 := by rw [← hW0]; repeat (first | exact Keeps.refl _ _ | refine Keeps.drewN ?_ _ | refine Keeps.drew ?_ | refine Keeps.alloc ?_ _ | refine Keeps.set ?_ (Or.inl (by rfl)) _)
  have hb0 : W0.heap[w.heap.size]? = some (.cells #[.slice a0 b.cs.length cc0, .slice a1 b.rs.length cc1, .slice a2 b.is.length cc2, .slice a3 b.incls.length cc3, .slice a4 b.roles.length cc4, .slice (some ⟨bb, o, none⟩) b.facts.length cc5, .slice a6 b.links.length cc6] 30 (0, 0)) := by rw [← hW0]; exact blkAlloc (blkNew rfl) _
  have hb1 : W0.heap[w.heap.size + 1]? = some (.cells #[.slice AS C.length cS, .slice BS R.length dS] 33 (0, 0)) := by rw [← hW0]; exact blkNew (by simp)
  clear hW0
  have HK0 := Lib.hid hK0
  have HB0 := Lib.hid hb0
  have HB1 := Lib.hid hb1
  have hH : ∀ w', Keeps (fun _ => False) W0 w' → (w'.cell? ⟨w.heap.size, 3, none⟩ = some (.slice a3 b.incls.length cc3) ∧ w'.cell? ⟨w.heap.size, 4, none⟩ = some (.slice a4 b.roles.length cc4) ∧ w'.cell? ⟨w.heap.size, 5, none⟩ = some (.slice (some ⟨bb, o, none⟩) b.facts.length cc5) ∧ w'.cell? ⟨w.heap.size + 1, 0, none⟩ = some (.slice AS C.length cS) ∧ w'.cell? ⟨w.heap.size + 1, 1, none⟩ = some (.slice BS R.length dS) ∧ w'.cell? ⟨bb, o + k * 4 + 1, none⟩ = some (.int .i64 op1) ∧ w'.cell? ⟨bb, o + k * 4 + 1 + 1, none⟩ = some (.int .i64 n1) ∧ w'.cell? ⟨bb, o + k * 4 + 1 + 2, none⟩ = some (.slice A1 args1.length c1)) := by
    intro w' hK
    obtain ⟨x0, x1, x2, x3, x4, x5, x6⟩ := cells7 (hK.blk HB0.out (fun h => h))
    obtain ⟨y0, y1⟩ := cells2 (hK.blk HB1.out (fun h => h))
    exact ⟨x3, x4, x5, y0, y1, HE.out w' (HK0.out.then_ hK)⟩
  have HH := Lib.hid hH
  clear hK0 hb0 hb1 hH
  obtain ⟨b0, b1', b2', b3, b4, b5, b6, b7⟩ := HH.out _ (Keeps.refl _ _)
  have ub := blkLt HB0.out
  have ub1 := blkLt HB1.out
  go_wp2_with fail
  clear b0 b1' b2' b3 b4 b5 b6 b7
  go_region_held3 (fun w' => (w'.cell? ⟨w.heap.size, 3, none⟩ = some (.slice a3 b.incls.length cc3) ∧ w'.cell? ⟨w.heap.size, 4, none⟩ = some (.slice a4 b.roles.length cc4) ∧ w'.cell? ⟨w.heap.size, 5, none⟩ = some (.slice (some ⟨bb, o, none⟩) b.facts.length cc5) ∧ w'.cell? ⟨w.heap.size + 1, 0, none⟩ = some (.slice AS C.length cS) ∧ w'.cell? ⟨w.heap.size + 1, 1, none⟩ = some (.slice BS R.length dS) ∧ w'.cell? ⟨bb, o + k * 4 + 1, none⟩ = some (.int .i64 op1) ∧ w'.cell? ⟨bb, o + k * 4 + 1 + 1, none⟩ = some (.int .i64 n1) ∧ w'.cell? ⟨bb, o + k * 4 + 1 + 2, none⟩ = some (.slice A1 args1.length c1)))
    (first | exact HH.out _ (Keeps.refl _ _) | exact HH.out _ (Keeps.refl _ _).drew | exact HH.out _ HK2.out)
    ((go_at_call 30; refine (HO1.out W0.drew (HK0.out.drew)).mono ?_; rintro e w2 ⟨rfl, hk2⟩; have HK2 := Lib.hid hk2.undrew; clear hk2))
  all_goals
    go_wp2_with fail
    go_ret
    exact ⟨rfl, HK0.out.then_ HK2.out⟩
set_option maxRecDepth 100000 in
set_option maxHeartbeats 16000000 in
theorem refLocal4n_calls (C R : List Int) (AS BS : Option Addr) (cS dS : Nat) (b : Kb) (p : KbA) (k : Nat) (ok : Nat → Prop) (w : World) (hb : KbR ok w b p) (hv : KbFit b) (hs : SigR ok w C R AS BS) (hC : C.length ≤ 1000000) (hR : R.length ≤ 1000000) (hk : k < b.links.length) (hl1 : b.incls.length ≤ 1000000) (hl2 : b.roles.length ≤ 1000000) (hl3 : b.facts.length ≤ 1000000) (hl4 : b.links.length ≤ 1000000) :
    Calls Tryz.prog 27 #[.agg #[.slice p.a0 b.cs.length p.c0, .slice p.a1 b.rs.length p.c1, .slice p.a2 b.is.length p.c2, .slice p.a3 b.incls.length p.c3, .slice p.a4 b.roles.length p.c4, .slice p.a5 b.facts.length p.c5, .slice p.a6 b.links.length p.c6], .int .i64 ((b.incls.length + b.roles.length + b.facts.length + k : Nat) : Int), .agg #[.slice AS C.length cS, .slice BS R.length dS], .bool false] w (SaysB (localX false (inL C) (inL R) (.link b.links[k].1 b.links[k].2.1 b.links[k].2.2)) w) := by
  have hxm : b.links[k] ∈ b.links := List.getElem_mem _
  obtain ⟨bb, o, hat, hbb, hcl⟩ := hb.links (by intro h; rw [h] at hk; simp at hk)
  have hrr := hv.l _ hxm
  have hec := (hcl k hk).1
  have HHS : Hid (∀ z W, Keeps (fun _ => False) w W → Calls Tryz.prog 43 #[.slice BS R.length dS, .int .i64 z] W fun e w' => e = .returned (.bool (decide (z ∈ R))) ∧ w' = W) := fun z W h => has_same R z _ BS dS W (hs.r.keep h (fun _ _ h => h)) (by omega)
  simp only [localX, inL]
  generalize b.links[k].1 = x1 at *
  have HE : Hid (∀ w', Keeps (fun _ => False) w w' → w'.cell? ⟨bb, o + k * 3, none⟩ = some (.int .i64 x1)) := fun w' hK => hK.cell hec (fun h => h)
  clear hrr hec
  have HS : Hid (∀ W, Keeps (fun _ => False) w W → SigR ok W C R AS BS) := fun W h => hs.keep h (fun _ _ h => h)
  clear hxm hb hs hcl
  have hk1 : (k : Int) < b.links.length := by omega
  have hk0 : (0 : Int) ≤ k := by omega
  obtain ⟨a0, a1, a2, a3, a4, a5, a6, cc0, cc1, cc2, cc3, cc4, cc5, cc6⟩ := p
  simp only at hat ⊢
  subst hat
  obtain ⟨N0, hN0⟩ : ∃ N0 : Nat, N0 = b.incls.length + b.roles.length + b.facts.length + k := ⟨_, rfl⟩
  rw [← hN0]
  obtain ⟨N1, hN1⟩ : ∃ m : Nat, m = N0 - b.incls.length := ⟨_, rfl⟩
  have g0 : ¬ ((N0 : Int) < (b.incls.length : Int)) := by omega
  have s0 : wrap64 ((N0 : Int) - (b.incls.length : Int)) = (N1 : Int) := by unfold wrap64; omega
  obtain ⟨N2, hN2⟩ : ∃ m : Nat, m = N1 - b.roles.length := ⟨_, rfl⟩
  have g1 : ¬ ((N1 : Int) < (b.roles.length : Int)) := by omega
  have s1 : wrap64 ((N1 : Int) - (b.roles.length : Int)) = (N2 : Int) := by unfold wrap64; omega
  have g2 : ¬ ((N2 : Int) < (b.facts.length : Int)) := by omega
  have s2 : wrap64 ((N2 : Int) - (b.facts.length : Int)) = (k : Int) := by unfold wrap64; omega
  have t2 : IntKind.i64.wrap ((N2 : Int) - (b.facts.length : Int)) = (k : Int) := by rw [show (N2 : Int) - (b.facts.length : Int) = (k : Int) by omega]; exact IntWalk.i64_in _ (by omega)
  clear hN0 hN1 hN2
  go_enter Tryz.func27, Tryz.ntmps27
  go_wp2_with fail
  generalize hW0 : World.alloc _ _ = W0
  have hK0 : Keeps (fun _ => False) w W0 := by rw [← hW0]; repeat (first | exact Keeps.refl _ _ | refine Keeps.drewN ?_ _ | refine Keeps.drew ?_ | refine Keeps.alloc ?_ _ | refine Keeps.set ?_ (Or.inl (by rfl)) _)
  have hb0 : W0.heap[w.heap.size]? = some (.cells #[.slice a0 b.cs.length cc0, .slice a1 b.rs.length cc1, .slice a2 b.is.length cc2, .slice a3 b.incls.length cc3, .slice a4 b.roles.length cc4, .slice a5 b.facts.length cc5, .slice (some ⟨bb, o, none⟩) b.links.length cc6] 30 (0, 0)) := by rw [← hW0]; exact blkAlloc (blkNew rfl) _
  have hb1 : W0.heap[w.heap.size + 1]? = some (.cells #[.slice AS C.length cS, .slice BS R.length dS] 33 (0, 0)) := by rw [← hW0]; exact blkNew (by simp)
  clear hW0
  have HK0 := Lib.hid hK0
  have HB0 := Lib.hid hb0
  have HB1 := Lib.hid hb1
  have hH : ∀ w', Keeps (fun _ => False) W0 w' → (w'.cell? ⟨w.heap.size, 3, none⟩ = some (.slice a3 b.incls.length cc3) ∧ w'.cell? ⟨w.heap.size, 4, none⟩ = some (.slice a4 b.roles.length cc4) ∧ w'.cell? ⟨w.heap.size, 5, none⟩ = some (.slice a5 b.facts.length cc5) ∧ w'.cell? ⟨w.heap.size, 6, none⟩ = some (.slice (some ⟨bb, o, none⟩) b.links.length cc6) ∧ w'.cell? ⟨w.heap.size + 1, 0, none⟩ = some (.slice AS C.length cS) ∧ w'.cell? ⟨w.heap.size + 1, 1, none⟩ = some (.slice BS R.length dS) ∧ w'.cell? ⟨bb, o + k * 3, none⟩ = some (.int .i64 x1)) := by
    intro w' hK
    obtain ⟨x0, x1, x2, x3, x4, x5, x6⟩ := cells7 (hK.blk HB0.out (fun h => h))
    obtain ⟨y0, y1⟩ := cells2 (hK.blk HB1.out (fun h => h))
    exact ⟨x3, x4, x5, x6, y0, y1, HE.out w' (HK0.out.then_ hK)⟩
  have HH := Lib.hid hH
  clear hK0 hb0 hb1 hH
  obtain ⟨b0, b1', b2', b3, b4, b5, b6⟩ := HH.out _ (Keeps.refl _ _)
  have ub := blkLt HB0.out
  have ub1 := blkLt HB1.out
  have ub2 := World.block_lt_of_cell? _ _ b6
  have HHQ : Hid (∀ n : Nat, Calls Tryz.prog 43 #[.slice BS R.length dS, .int .i64 x1] (W0.drewN n) fun e w' => e = .returned (.bool (decide (x1 ∈ R))) ∧ w' = W0.drewN n) := fun n => HHS.out _ _ (HK0.out.drewN n)
  generalize decide (x1 ∈ R) = hr at *
  go_wp2_with fail
  go_quiet ((go_at_call 43; exact Calls.quiet_of_same (HHQ.out _)))
  all_goals
    go_wp2_with fail
    go_ret
    exact ⟨by simp, by first | exact HK0.out | exact HK0.out.drewN _ | (refine Keeps.drewN ?_ _; exact HK0.out)⟩
set_option maxRecDepth 100000 in
set_option maxHeartbeats 16000000 in
theorem refLocal4e_calls (C R : List Int) (AS BS : Option Addr) (cS dS : Nat) (b : Kb) (p : KbA) (k : Nat) (ok : Nat → Prop) (w : World) (hb : KbR ok w b p) (hv : KbFit b) (hs : SigR ok w C R AS BS) (hC : C.length ≤ 1000000) (hR : R.length ≤ 1000000) (hk : k < b.links.length) (hl1 : b.incls.length ≤ 1000000) (hl2 : b.roles.length ≤ 1000000) (hl3 : b.facts.length ≤ 1000000) (hl4 : b.links.length ≤ 1000000) :
    Calls Tryz.prog 27 #[.agg #[.slice p.a0 b.cs.length p.c0, .slice p.a1 b.rs.length p.c1, .slice p.a2 b.is.length p.c2, .slice p.a3 b.incls.length p.c3, .slice p.a4 b.roles.length p.c4, .slice p.a5 b.facts.length p.c5, .slice p.a6 b.links.length p.c6], .int .i64 ((b.incls.length + b.roles.length + b.facts.length + k : Nat) : Int), .agg #[.slice AS C.length cS, .slice BS R.length dS], .bool true] w (SaysB (localX true (inL C) (inL R) (.link b.links[k].1 b.links[k].2.1 b.links[k].2.2)) w) := by
  have hxm : b.links[k] ∈ b.links := List.getElem_mem _
  obtain ⟨bb, o, hat, hbb, hcl⟩ := hb.links (by intro h; rw [h] at hk; simp at hk)
  have hrr := hv.l _ hxm
  have hec := (hcl k hk).1
  have HHS : Hid (∀ z W, Keeps (fun _ => False) w W → Calls Tryz.prog 43 #[.slice BS R.length dS, .int .i64 z] W fun e w' => e = .returned (.bool (decide (z ∈ R))) ∧ w' = W) := fun z W h => has_same R z _ BS dS W (hs.r.keep h (fun _ _ h => h)) (by omega)
  simp only [localX, inL]
  generalize b.links[k].1 = x1 at *
  have HE : Hid (∀ w', Keeps (fun _ => False) w w' → w'.cell? ⟨bb, o + k * 3, none⟩ = some (.int .i64 x1)) := fun w' hK => hK.cell hec (fun h => h)
  clear hrr hec
  have HS : Hid (∀ W, Keeps (fun _ => False) w W → SigR ok W C R AS BS) := fun W h => hs.keep h (fun _ _ h => h)
  clear hxm hb hs hcl
  have hk1 : (k : Int) < b.links.length := by omega
  have hk0 : (0 : Int) ≤ k := by omega
  obtain ⟨a0, a1, a2, a3, a4, a5, a6, cc0, cc1, cc2, cc3, cc4, cc5, cc6⟩ := p
  simp only at hat ⊢
  subst hat
  obtain ⟨N0, hN0⟩ : ∃ N0 : Nat, N0 = b.incls.length + b.roles.length + b.facts.length + k := ⟨_, rfl⟩
  rw [← hN0]
  obtain ⟨N1, hN1⟩ : ∃ m : Nat, m = N0 - b.incls.length := ⟨_, rfl⟩
  have g0 : ¬ ((N0 : Int) < (b.incls.length : Int)) := by omega
  have s0 : wrap64 ((N0 : Int) - (b.incls.length : Int)) = (N1 : Int) := by unfold wrap64; omega
  obtain ⟨N2, hN2⟩ : ∃ m : Nat, m = N1 - b.roles.length := ⟨_, rfl⟩
  have g1 : ¬ ((N1 : Int) < (b.roles.length : Int)) := by omega
  have s1 : wrap64 ((N1 : Int) - (b.roles.length : Int)) = (N2 : Int) := by unfold wrap64; omega
  have g2 : ¬ ((N2 : Int) < (b.facts.length : Int)) := by omega
  have s2 : wrap64 ((N2 : Int) - (b.facts.length : Int)) = (k : Int) := by unfold wrap64; omega
  have t2 : IntKind.i64.wrap ((N2 : Int) - (b.facts.length : Int)) = (k : Int) := by rw [show (N2 : Int) - (b.facts.length : Int) = (k : Int) by omega]; exact IntWalk.i64_in _ (by omega)
  clear hN0 hN1 hN2
  go_enter Tryz.func27, Tryz.ntmps27
  go_wp2_with fail
  generalize hW0 : World.alloc _ _ = W0
  have hK0 : Keeps (fun _ => False) w W0 := by rw [← hW0]; repeat (first | exact Keeps.refl _ _ | refine Keeps.drewN ?_ _ | refine Keeps.drew ?_ | refine Keeps.alloc ?_ _ | refine Keeps.set ?_ (Or.inl (by rfl)) _)
  have hb0 : W0.heap[w.heap.size]? = some (.cells #[.slice a0 b.cs.length cc0, .slice a1 b.rs.length cc1, .slice a2 b.is.length cc2, .slice a3 b.incls.length cc3, .slice a4 b.roles.length cc4, .slice a5 b.facts.length cc5, .slice (some ⟨bb, o, none⟩) b.links.length cc6] 30 (0, 0)) := by rw [← hW0]; exact blkAlloc (blkNew rfl) _
  have hb1 : W0.heap[w.heap.size + 1]? = some (.cells #[.slice AS C.length cS, .slice BS R.length dS] 33 (0, 0)) := by rw [← hW0]; exact blkNew (by simp)
  clear hW0
  have HK0 := Lib.hid hK0
  have HB0 := Lib.hid hb0
  have HB1 := Lib.hid hb1
  have hH : ∀ w', Keeps (fun _ => False) W0 w' → (w'.cell? ⟨w.heap.size, 3, none⟩ = some (.slice a3 b.incls.length cc3) ∧ w'.cell? ⟨w.heap.size, 4, none⟩ = some (.slice a4 b.roles.length cc4) ∧ w'.cell? ⟨w.heap.size, 5, none⟩ = some (.slice a5 b.facts.length cc5) ∧ w'.cell? ⟨w.heap.size, 6, none⟩ = some (.slice (some ⟨bb, o, none⟩) b.links.length cc6) ∧ w'.cell? ⟨w.heap.size + 1, 0, none⟩ = some (.slice AS C.length cS) ∧ w'.cell? ⟨w.heap.size + 1, 1, none⟩ = some (.slice BS R.length dS) ∧ w'.cell? ⟨bb, o + k * 3, none⟩ = some (.int .i64 x1)) := by
    intro w' hK
    obtain ⟨x0, x1, x2, x3, x4, x5, x6⟩ := cells7 (hK.blk HB0.out (fun h => h))
    obtain ⟨y0, y1⟩ := cells2 (hK.blk HB1.out (fun h => h))
    exact ⟨x3, x4, x5, x6, y0, y1, HE.out w' (HK0.out.then_ hK)⟩
  have HH := Lib.hid hH
  clear hK0 hb0 hb1 hH
  obtain ⟨b0, b1', b2', b3, b4, b5, b6⟩ := HH.out _ (Keeps.refl _ _)
  have ub := blkLt HB0.out
  have ub1 := blkLt HB1.out
  have ub2 := World.block_lt_of_cell? _ _ b6
  have HHQ : Hid (∀ n : Nat, Calls Tryz.prog 43 #[.slice BS R.length dS, .int .i64 x1] (W0.drewN n) fun e w' => e = .returned (.bool (decide (x1 ∈ R))) ∧ w' = W0.drewN n) := fun n => HHS.out _ _ (HK0.out.drewN n)
  generalize decide (x1 ∈ R) = hr at *
  go_wp2_with fail
  go_quiet ((go_at_call 43; exact Calls.quiet_of_same (HHQ.out _)))
  all_goals
    go_wp2_with fail
    go_ret
    exact ⟨by simp, by first | exact HK0.out | exact HK0.out.drewN _ | (refine Keeps.drewN ?_ _; exact HK0.out)⟩
/-- isagogeref19.Local. -/
theorem refLocal_calls (top : Bool) (C R : List Int) (AS BS : Option Addr) (cS dS : Nat) (b : Kb) (p : KbA) (k : Nat) (ok : Nat → Prop) (w : World) (hb : KbR ok w b p) (hv : KbFit b) (hs : SigR ok w C R AS BS) (hC : C.length ≤ 1000000) (hR : R.length ≤ 1000000) (hk : k < kbCount b) (hl1 : b.incls.length ≤ 1000000) (hl2 : b.roles.length ≤ 1000000) (hl3 : b.facts.length ≤ 1000000) (hl4 : b.links.length ≤ 1000000) :
    Calls Tryz.prog 27 #[.agg #[.slice p.a0 b.cs.length p.c0, .slice p.a1 b.rs.length p.c1, .slice p.a2 b.is.length p.c2, .slice p.a3 b.incls.length p.c3, .slice p.a4 b.roles.length p.c4, .slice p.a5 b.facts.length p.c5, .slice p.a6 b.links.length p.c6], .int .i64 (k : Int), .agg #[.slice AS C.length cS, .slice BS R.length dS], .bool top] w (SaysB (localX top (inL C) (inL R) (axAt b k)) w) := by
  unfold kbCount at hk
  by_cases h1 : k < b.incls.length
  · rw [axAt_incl h1]; exact refLocal1_calls top C R AS BS cS dS b p k ok w hb hv hs hC hR h1 hl1 hl2 hl3 hl4
  · by_cases h2 : k < b.incls.length + b.roles.length
    · obtain ⟨j, rfl⟩ : ∃ j, k = b.incls.length + j := ⟨k - b.incls.length, by omega⟩
      rw [axAt_role (show j < b.roles.length by omega)]
      cases top
      · exact refLocal2n_calls C R AS BS cS dS b p j ok w hb hv hs hC hR (by omega) hl1 hl2 hl3 hl4
      · exact refLocal2e_calls C R AS BS cS dS b p j ok w hb hv hs hC hR (by omega) hl1 hl2 hl3 hl4
    · by_cases h3 : k < b.incls.length + b.roles.length + b.facts.length
      · obtain ⟨j, rfl⟩ : ∃ j, k = b.incls.length + b.roles.length + j := ⟨k - b.incls.length - b.roles.length, by omega⟩
        rw [axAt_fact (show j < b.facts.length by omega)]
        exact refLocal3_calls top C R AS BS cS dS b p j ok w hb hv hs hC hR (by omega) hl1 hl2 hl3 hl4
      · obtain ⟨j, rfl⟩ : ∃ j, k = b.incls.length + b.roles.length + b.facts.length + j := ⟨k - b.incls.length - b.roles.length - b.facts.length, by omega⟩
        rw [axAt_link (show j < b.links.length by omega)]
        cases top
        · exact refLocal4n_calls C R AS BS cS dS b p j ok w hb hv hs hC hR (by omega) hl1 hl2 hl3 hl4
        · exact refLocal4e_calls C R AS BS cS dS b p j ok w hb hv hs hC hR (by omega) hl1 hl2 hl3 hl4
end Go.Proofs.YthiclhbnggehoaaGreatDoor
