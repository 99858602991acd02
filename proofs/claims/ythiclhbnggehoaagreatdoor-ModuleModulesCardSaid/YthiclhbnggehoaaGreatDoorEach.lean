/- concept.All as a sequence: the parts of a concept in preorder, for every loop body that keeps what is read and what the walk lays. -/
import Derived.Test.YthiclhbnggehoaaGreatDoorBase
import Derived.RangeFuncNested
import Derived.RangeFuncKeeps
import Derived.RangeFuncBound
import Derived.RangeFuncCalls
import Derived.RangeFuncLeaves
import Derived.Shelf.Abstract
import Derived.WalkKit
import Derived.OwnWalkIn
import Derived.TacticsInMore
import Derived.LoopNIn
import Derived.LoopIn
namespace Go.Proofs.YthiclhbnggehoaaGreatDoor
open Go.RowKit Go.Shelf
set_option linter.unusedVariables false
set_option linter.unusedSimpArgs false
attribute [local go_sem] Oper.semAt_some
theorem room_none {F : Fence} (hd : F.depth = none) (k : Nat) : F.room k := fun d h => by rw [hd] at h; cases h
theorem round_any {F : Fence} (hd : F.depth = none) {m m' : Nat} {P : Program} {l : Nat} {f : FuncId} {tmps : Array Value} {assign body : Code} {w : World} {R : Ending → World → Prop}
    (h : RoundIn F m P l f tmps assign body w R) : RoundIn F m' P l f tmps assign body w R := ⟨h.1, fun c cs _ => h.2 c cs (room_none hd _)⟩
theorem yield_any {F : Fence} (hd : F.depth = none) {m : Nat} (m' : Nat) {P : Program} {l : Nat} {args : Array Value} {W : World} {R : Ending → World → Prop} (h : YieldAt F m P l args W R) : YieldAt F m' P l args W R := by
  obtain ⟨fn, tmps, assign, body, hy, hR⟩ := h
  exact ⟨fn, tmps, assign, body, hy, round_any hd hR⟩
theorem preL_prefix (l : List Con) (k : Nat) : preL (l.take k) <+: preL l :=
  ⟨preL (l.drop k), by rw [← preL_append, List.take_append_drop]⟩
theorem preL_le (l : List Con) (k : Nat) : (preL (l.take k)).length ≤ (preL l).length := by
  induction l generalizing k with
  | nil => simp [preL]
  | cons c r ih => cases k with
    | zero => simp [preL]
    | succ k => simp only [List.take_succ_cons, preL, List.length_append]; have := ih k; omega
/-- What a loop's body may write: blocks that a footprint names; the footprint grows by new blocks alone. -/
structure KpR (Fp : World → Nat → Prop) (W W' : World) : Prop where
  os : W'.os = W.os
  tape : W'.tape = W.tape
  output : W'.output = W.output
  size : W.heap.size ≤ W'.heap.size
  same : ∀ k o, W.heap[k]? = some o → o.isCells = true → ¬ Fp W k → W'.heap[k]? = some o
  foot : ∀ k, Fp W' k → Fp W k ∨ W.heap.size ≤ k
theorem KpR.refl (Fp : World → Nat → Prop) (W : World) : KpR Fp W W := ⟨rfl, rfl, rfl, Nat.le_refl _, fun _ _ h _ _ => h, fun _ h => .inl h⟩
theorem KpR.trans {Fp : World → Nat → Prop} {A B C : World} (h : KpR Fp A B) (k : KpR Fp B C) : KpR Fp A C :=
  ⟨k.os.trans h.os, k.tape.trans h.tape, k.output.trans h.output, Nat.le_trans h.size k.size,
    fun i o hi ho hn => k.same i o (h.same i o hi ho hn) ho (fun hf => by rcases h.foot i hf with h1 | h1; exact hn h1; have := blkLt hi; omega),
    fun i hf => by rcases k.foot i hf with h1 | h1; exact h.foot i h1; exact .inr (by have := h.size; omega)⟩
/-- A footprint that new blocks and the loop's own records do not touch. -/
structure Foot (B : Nat) (Inv : World → Prop) (Fp : World → Nat → Prop) : Prop where
  lt : ∀ W k, Inv W → Fp W k → k < W.heap.size
  inv : ∀ W o, Inv W → Inv (W.alloc o)
  fp : ∀ W o k, Inv W → Fp (W.alloc o) k → Fp W k
  pinv : ∀ W l o o', B ≤ l → W.heap[l]? = some o → o.isCells = false → o.isWalk = false → Inv W → Inv (W.putObj l o')
  pfp : ∀ W l o o' k, B ≤ l → W.heap[l]? = some o → o.isCells = false → o.isWalk = false → Inv W → Fp (W.putObj l o') k → Fp W k
theorem Foot.alloc {B : Nat} {Inv : World → Prop} {Fp : World → Nat → Prop} (h : Foot B Inv Fp) {W : World} (hi : Inv W) (o : Obj) : KpR Fp W (W.alloc o) :=
  ⟨rfl, rfl, rfl, by simp, fun k o' hk _ _ => (Below.heap_alloc W o k (blkLt hk)).trans hk, fun k hf => .inl (h.fp W o k hi hf)⟩
/-- What a body owes that goes on. -/
def KpI (Inv : World → Prop) (Fp : World → Nat → Prop) (W W' : World) : Prop := Inv W → Inv W' ∧ KpR Fp W W'
theorem KpI.trans {Inv : World → Prop} {Fp : World → Nat → Prop} {A B C : World} (h : KpI Inv Fp A B) (k : KpI Inv Fp B C) : KpI Inv Fp A C :=
  fun hi => ⟨(k (h hi).1).1, (h hi).2.trans (k (h hi).1).2⟩
/-- A part of a concept: where its slice lies; what it reads as in the world w0. -/
def Part (ok : Nat → Prop) (w0 : World) (G : Con → Prop) : Type := { x : Con × Option Addr × Nat // ConR ok w0 x.1 [.int .i64 x.1.op, .int .i64 x.1.n, .slice x.2.1 x.1.args.length x.2.2] ∧ G x.1 }
def Part.con {ok : Nat → Prop} {w0 : World} {G : Con → Prop} (x : Part ok w0 G) : Con := x.1.1
def Part.val {ok : Nat → Prop} {w0 : World} {G : Con → Prop} (x : Part ok w0 G) : Value := .agg #[.int .i64 x.1.1.op, .int .i64 x.1.1.n, .slice x.1.2.1 x.1.1.args.length x.1.2.2]
mutual
theorem ConR.same {ok : Nat → Prop} {w w' : World} (hs : ∀ k, ok k → k < w.heap.size → w'.heap[k]? = w.heap[k]?) : ∀ {c : Con} {cs : List Value}, ConR ok w c cs → ConR ok w' c cs
  | ⟨op, n, args⟩, cs, h => by
    simp only [ConR] at h ⊢
    obtain ⟨A, cap, h1, h2, h3⟩ := h
    exact ⟨A, cap, h1, h2, fun ha => by obtain ⟨b, o, e, hb, hr⟩ := h3 ha; exact ⟨b, o, e, hb, ConsR.same hs hb hr⟩⟩
theorem ConsR.same {ok : Nat → Prop} {w w' : World} (hs : ∀ k, ok k → k < w.heap.size → w'.heap[k]? = w.heap[k]?) : ∀ {l : List Con} {b o : Nat}, ok b → ConsR ok w l b o → ConsR ok w' l b o
  | [], b, _, hb, h => by
    simp only [ConsR] at h ⊢
    exact fun hn => by obtain ⟨cs, t, e⟩ := h hn; exact ⟨cs, t, (hs b hb (blkLt e)).trans e⟩
  | c :: r, b, o, hb, h => by
    simp only [ConsR] at h ⊢
    obtain ⟨⟨v0, v1, v2, h0, h1, h2, hc⟩, hr⟩ := h
    have hl := World.block_lt_of_cell? w ⟨b, o, none⟩ h0
    have hbb := hs b hb hl
    exact ⟨⟨v0, v1, v2, (World.cell?_of_block (w := w) (a := ⟨b, o, none⟩) hbb).trans h0, (World.cell?_of_block (w := w) (a := ⟨b, o + 1, none⟩) hbb).trans h1, (World.cell?_of_block (w := w) (a := ⟨b, o + 2, none⟩) hbb).trans h2, ConR.same hs hc⟩, ConsR.same hs hb hr⟩
end
set_option maxRecDepth 100000 in
set_option maxHeartbeats 4000000 in
theorem each_in (F : Fence) (hd : F.depth = none) (hf : F.fn 111) (hro : F.round = none) (l N B : Nat) (ok : Nat → Prop) (w0 : World) (G : Con → Prop) (hG : ∀ c, G c → ∀ i (h : i < c.args.length), G c.args[i]) (hGl : ∀ c, G c → c.args.length ≤ 2)
    (Inv : World → Prop) (Fp : World → Nat → Prop) (HF : Foot B Inv Fp) (hIok : ∀ W, Inv W → ∀ k, ok k → k < w0.heap.size → W.heap[k]? = w0.heap[k]?)
    (J Jx : List (Part ok w0 G) → World → Prop) (hJ : ∀ pre W o, J pre W → J pre (W.alloc o))
    (hY : ∀ m pre x W, J pre W → pre.length < N → YieldAt F m Tryz.prog l #[x.val] W fun e W' => (e = .returned (.bool true) ∧ J (pre ++ [x]) W' ∧ KpI Inv Fp W W') ∨ (e = .returned (.bool false) ∧ Jx (pre ++ [x]) W')) (M : Nat) :
    ∀ (x : Part ok w0 G) (n : Nat) (pre : List (Part ok w0 G)) (W : World), x.con.size < M → Inv W → J pre W → pre.length + (preC x.con).length ≤ N →
      CallsIn F n Tryz.prog 111 #[x.val, .func (.yield l) #[] #[]] W fun e W' =>
        (e = .returned (.bool true) ∧ ∃ ys, ys.map Part.con = preC x.con ∧ J (pre ++ ys) W' ∧ Inv W' ∧ KpR Fp W W') ∨ (e = .returned (.bool false) ∧ ∃ q, q.map Part.con <+: preC x.con ∧ Jx (pre ++ q) W') := by
  induction M with
  | zero => intro x n pre W h; omega
  | succ M ih =>
  intro x n pre W hM hI hJ0 hN
  have IH := Lib.hid @ih
  clear ih
  have hdd : ∀ k : Nat, (F.depth.isSome = true → 1 ≤ k) := fun k h => by rw [hd] at h; cases h
  have hJ1 := hJ pre W (.cells #[.int .i64 x.con.op, .int .i64 x.con.n, .slice x.1.2.1 x.con.args.length x.1.2.2] 37) hJ0
  have hI1 := HF.inv W (.cells #[.int .i64 x.con.op, .int .i64 x.con.n, .slice x.1.2.1 x.con.args.length x.1.2.2] 37) hI
  have hK1 := HF.alloc hI (.cells #[.int .i64 x.con.op, .int .i64 x.con.n, .slice x.1.2.1 x.con.args.length x.1.2.2] 37)
  have hbox := blkNew (w := W) (o := .cells #[.int .i64 x.con.op, .int .i64 x.con.n, .slice x.1.2.1 x.con.args.length x.1.2.2] 37) rfl
  have hnf : ¬ Fp (W.alloc (.cells #[.int .i64 x.con.op, .int .i64 x.con.n, .slice x.1.2.1 x.con.args.length x.1.2.2] 37)) W.heap.size := fun h => by
    have := HF.lt W _ hI (HF.fp W _ _ hI h); omega
  have hlen : pre.length < N := by
    have : 0 < (preC x.con).length := by cases x.con; simp [preC]
    omega
  obtain ⟨fn, tmps, assign, body, hy, hR⟩ := hY (n - 1) pre x _ hJ1 hlen
  have hR2 : RoundIn F (n - 1) Tryz.prog l fn tmps assign body (W.alloc (.cells #[.int .i64 x.con.op, .int .i64 x.con.n, .slice x.1.2.1 x.con.args.length x.1.2.2] 37)) fun e W2 =>
      (e = .returned (.bool true) ∧ J (pre ++ [x]) W2 ∧ Inv W2 ∧ KpR Fp W W2 ∧ W2.cell? ⟨W.heap.size, 2, none⟩ = some (.slice x.1.2.1 x.con.args.length x.1.2.2)) ∨ (e = .returned (.bool false) ∧ Jx (pre ++ [x]) W2) :=
    hR.mono fun e W2 h => h.elim (fun ⟨he, hj, hk⟩ => .inl ⟨he, hj, (hk hI1).1, hK1.trans (hk hI1).2, (cells3 ((hk hI1).2.same _ _ hbox rfl hnf)).2.2⟩) .inr
  obtain ⟨c, hc, hg, hxv, hxc⟩ : ∃ c, ConR ok w0 c [.int .i64 c.op, .int .i64 c.n, .slice x.1.2.1 c.args.length x.1.2.2] ∧ G c ∧ x.val = .agg #[.int .i64 c.op, .int .i64 c.n, .slice x.1.2.1 c.args.length x.1.2.2] ∧ x.con = c := ⟨x.1.1, x.2.1, x.2.2, rfl, rfl⟩
  rw [hxv] at hy ⊢
  rw [hxc] at hy hM hN hR2 ⊢
  generalize x.1.2.1 = A at *
  generalize x.1.2.2 = cap at *
  clear hR hJ1 hI1 hK1 hbox hnf hJ0 hlen hxv
  have HY := Lib.hid hY
  have HJ := Lib.hid hJ
  have HC := Lib.hid hc
  have HG := Lib.hid hg
  have hal := hGl c hg
  clear hY hJ hc hg
  refine callsIn_of_wp Tryz.func111 rfl hf ?_ hro
  simp only [Tryz.ntmps111, List.size_toArray, List.length_cons, List.length_nil, Nat.reduceAdd, Nat.reduceSub, Array.replicate_succ, Array.replicate_zero, List.push_toArray, List.append_toArray, List.nil_append, List.cons_append]
  gi_wp2_with ((try refine ⟨hdd _, ?_⟩); refine hR2.mono ?_; clear hR2; rintro e W2 (⟨rfl, hJ2, hI2, hK2, hB2⟩ | ⟨rfl, hx2⟩))
  · have HJ2 := Lib.hid hJ2
    have HI2 := Lib.hid hI2
    have HK2 := Lib.hid hK2
    clear hJ2 hI2 hK2 hy hB2
    gi_loopw [14] (fun i wr => ∃ (k : Nat) (ys : List (Part ok w0 G)), k ≤ c.args.length ∧ i = .int .i64 k ∧ Hid (ys.map Part.con = preL (c.args.take k)) ∧ Hid (J (pre ++ [x] ++ ys) wr) ∧ Hid (Inv wr) ∧ Hid (KpR Fp W wr)) (fun i _ => c.args.length - (intOf i).toNat)
    case atStart => exact ⟨0, [], Nat.zero_le _, rfl, by unfold Hid; simp [preL], by unfold Hid; simpa using HJ2.out, HI2, HK2⟩
    case round =>
      clear HJ2 HI2 HK2
      obtain ⟨k, ys, hk, rfl, HYS, HJR, HIR, HKR⟩ := hrel
      by_cases hlt : k < c.args.length
      · obtain ⟨b, o, hA, hob, hr⟩ : ∃ b o, A = some ⟨b, o, none⟩ ∧ ok b ∧ ConsR ok w0 c.args b o := by
          obtain ⟨A1, cap1, e1, _, hr⟩ := HC.out.form
          simp only [List.cons.injEq, Value.slice.injEq, and_true, true_and] at e1
          obtain ⟨rfl, rfl⟩ := e1
          exact hr (by intro h; rw [h] at hlt; simp at hlt)
        obtain ⟨A', cap', e0, e1, e2, hc⟩ := hr.at_ k hlt
        subst hA
        have hbs := hIok wr HIR.out b hob (World.block_lt_of_cell? w0 _ e0)
        rw [← World.cell?_of_block (w := w0) (a := ⟨b, o + k * 3, none⟩) hbs] at e0
        rw [← World.cell?_of_block (w := w0) (a := ⟨b, o + k * 3 + 1, none⟩) hbs] at e1
        rw [← World.cell?_of_block (w := w0) (a := ⟨b, o + k * 3 + 2, none⟩) hbs] at e2
        have hsn := Con.size_at k hlt
        have hgk := hG c HG.out k hlt
        have htk := preL_take c.args k hlt
        have hlk : (preL (c.args.take (k + 1))).length ≤ (preL c.args).length := preL_le _ _
        have hNk : (pre ++ [x] ++ ys).length + (preC c.args[k]).length ≤ N := by
          have h1 := congrArg List.length HYS.out
          have h2 := congrArg List.length htk
          have h3 : (preC c).length = (preL c.args).length + 1 := by cases c; simp [preC, Con.args]
          simp only [List.length_map, List.length_append] at h1 h2 ⊢
          simp only [List.length_singleton]
          omega
        have hszk : c.args[k].size < M := by
          have : c.size = Con.sizes c.args + 1 := by cases c; simp [Con.size, Con.args]
          omega
        have HTK := Lib.hid htk
        generalize c.args[k] = d at *
        have hih := (IH.out ⟨(d, A', cap'), hc, hgk⟩ (n - 1) (pre ++ [x] ++ ys) (wr.alloc (.cells #[.int .i64 d.op, .int .i64 d.n, .slice A' d.args.length cap'] 37)) hszk (HF.inv _ _ HIR.out) (HJ.out _ _ _ HJR.out) hNk)
        have hih2 : CallsIn F (n - 1) Tryz.prog 111 #[.agg #[.int .i64 d.op, .int .i64 d.n, .slice A' d.args.length cap'], .func (.yield l) #[] #[]] (wr.alloc (.cells #[.int .i64 d.op, .int .i64 d.n, .slice A' d.args.length cap'] 37)) fun e W' =>
            (e = .returned (.bool true) ∧ ∃ zs : List (Part ok w0 G), zs.map Part.con = preC d ∧ J (pre ++ [x] ++ ys ++ zs) W' ∧ Inv W' ∧ KpR Fp W W') ∨ (e = .returned (.bool false) ∧ ∃ q : List (Part ok w0 G), q.map Part.con <+: preC d ∧ Jx (pre ++ [x] ++ ys ++ q) W') :=
          hih.mono fun e W' h => h.elim (fun ⟨he, zs, h1, h2, h3, h4⟩ => .inl ⟨he, zs, h1, h2, h3, (HKR.out.trans (HF.alloc HIR.out _)).trans h4⟩) .inr
        have HIH := Lib.hid hih2
        clear hih hih2 htk hc hr hsn hgk hNk hszk
        gi_wp2_with ((try refine ⟨hdd _, ?_⟩); gi_at_call 111; refine HIH.out.mono ?_; clear HIH; rintro e W3 (⟨rfl, zs, hz, hJ3, hI3, hK3⟩ | ⟨rfl, q, hq, hx3⟩))
        · go_roundw
          case rel => exact ⟨k + 1, ys ++ zs, by omega, by go_num, by unfold Hid; rw [HTK.out, List.map_append, HYS.out, hz], by unfold Hid; simpa using hJ3, hI3, hK3⟩
          case measure => simp [intOf]; omega
        · go_ret
          obtain ⟨r, hr⟩ := hq
          refine .inr ⟨rfl, [x] ++ ys ++ q, ?_, by simpa using hx3⟩
          have h3 : preC c = c :: preL c.args := by cases c; simp [preC, Con.args]
          have h4 : preL (c.args.take (k + 1)) <+: preL c.args := preL_prefix _ _
          rw [HTK.out] at h4
          rw [h3, List.map_append, List.map_append, HYS.out]
          simp only [List.map_cons, List.map_nil, hxc, List.singleton_append, List.cons_append, List.nil_append, List.prefix_cons_inj]
          refine List.IsPrefix.trans ?_ h4
          rw [List.prefix_append_right_inj]
          exact ⟨r, hr⟩
      · obtain rfl : c.args.length = k := by omega
        gi_wp2
        go_ret
        rw [List.take_length] at HYS
        refine .inl ⟨rfl, [x] ++ ys, ?_, by simpa using HJR.out, HIR.out, HKR.out⟩
        have h3 : preC c = c :: preL c.args := by cases c; simp [preC, Con.args]
        rw [h3, List.map_append, HYS.out]; simp [hxc]
  · go_ret
    refine .inr ⟨rfl, [x], ?_, hx2⟩
    have h3 : preC c = c :: preL c.args := by cases c; simp [preC, Con.args]
    rw [h3]; simp [hxc]
set_option maxRecDepth 100000 in
set_option maxHeartbeats 4000000 in
theorem all1_in (F : Fence) (hd : F.depth = none) (n : Nat) (hf1 : F.fn 110) (hf : F.fn 111) (hro : F.round = none) (l N B Bt : Nat) (ok : Nat → Prop) (w0 : World) (G : Con → Prop) (hG : ∀ c, G c → ∀ i (h : i < c.args.length), G c.args[i]) (hGl : ∀ c, G c → c.args.length ≤ 2)
    (Inv : World → Prop) (Fp : World → Nat → Prop) (HF : Foot B Inv Fp) (hIok : ∀ W, Inv W → ∀ k, ok k → k < w0.heap.size → W.heap[k]? = w0.heap[k]?)
    (J Jx : List (Part ok w0 G) → World → Prop) (hJ : ∀ pre W o, J pre W → J pre (W.alloc o)) (x : Part ok w0 G)
    (hY : ∀ pre y W, J pre W → pre.length < (preC x.con).length → YieldAt F (n - 1) Tryz.prog l #[y.val] W fun e W' => (e = .returned (.bool true) ∧ J (pre ++ [y]) W' ∧ KpI Inv Fp W W') ∨ (e = .returned (.bool false) ∧ Jx (pre ++ [y]) W'))
    (W : World) (hB : W.heap[Bt]? = some (.cells #[.int .i64 x.con.op, .int .i64 x.con.n, .slice x.1.2.1 x.con.args.length x.1.2.2] 37 (0, 0))) (hI : Inv W) (h0 : J [] W) :
    CallsIn F n Tryz.prog 110 #[.func (.yield l) #[] #[], .pointer (some ⟨Bt, 0, none⟩)] W fun e W' => (∃ v, e = .returned v) ∧ ((∃ ys : List (Part ok w0 G), ys.map Part.con = preC x.con ∧ J ys W') ∨ (∃ pre : List (Part ok w0 G), pre.map Part.con <+: preC x.con ∧ Jx pre W')) := by
  have hdd : ∀ k : Nat, (F.depth.isSome = true → 1 ≤ k) := fun k h => by rw [hd] at h; cases h
  have hp := each_in F hd hf hro l (preC x.con).length B ok w0 G hG hGl Inv Fp HF hIok J Jx hJ (fun m pre y W hj hl => yield_any hd m (hY pre y W hj hl)) (x.con.size + 1) x (n - 1) [] W (by omega) hI h0 (by simp)
  obtain ⟨b0, b1, b2⟩ := cells3 hB
  have hv : x.val = .agg #[.int .i64 x.con.op, .int .i64 x.con.n, .slice x.1.2.1 x.con.args.length x.1.2.2] := rfl
  rw [hv] at hp
  generalize x.con = c at *
  generalize x.1.2.1 = A at *
  generalize x.1.2.2 = cap at *
  clear hY hv hB
  refine callsIn_of_wp Tryz.func110 rfl hf1 ?_ hro
  simp only [Tryz.ntmps110, List.size_toArray, List.length_cons, List.length_nil, Nat.reduceAdd, Nat.reduceSub, Array.replicate_succ, Array.replicate_zero, List.push_toArray, List.append_toArray, List.nil_append, List.cons_append]
  gi_wp2_with ((try refine ⟨hdd _, ?_⟩); gi_at_call 111; refine hp.mono ?_; clear hp; rintro e W1 (⟨rfl, ys, hy, hJ1, _⟩ | ⟨rfl, q, hq, hx⟩))
  · go_end0
    exact ⟨⟨_, rfl⟩, .inl ⟨ys, hy, by simpa using hJ1⟩⟩
  · go_end0
    exact ⟨⟨_, rfl⟩, .inr ⟨q, hq, by simpa using hx⟩⟩
set_option maxRecDepth 100000 in
set_option maxHeartbeats 4000000 in
theorem all_in (F : Fence) (n : Nat) (hf : F.fn 103) (hro : F.round = none) (v0 v1 v2 : Value) (w : World) :
    CallsIn F n Tryz.prog 103 #[.agg #[v0, v1, v2]] w fun e w' => e = .returned (.func (.func 110) #[] #[.pointer (some ⟨w.heap.size, 0, none⟩)]) ∧ w' = w.alloc (.cells #[v0, v1, v2] 37) := by
  refine callsIn_of_wp Tryz.func103 rfl hf ?_ hro
  simp only [Tryz.ntmps103, List.size_toArray, List.length_cons, List.length_nil, Nat.reduceAdd, Nat.reduceSub, Array.replicate_succ, Array.replicate_zero, List.push_toArray, List.append_toArray, List.nil_append, List.cons_append]
  gi_wp2
  go_ret
  exact ⟨rfl, rfl⟩
/-- The sequence that concept.All hands back. -/
theorem all_stops (F : Fence) (hd : F.depth = none) (n : Nat) (hf1 : F.fn 110) (hf : F.fn 111) (hro : F.round = none) (B Bt : Nat) (ok : Nat → Prop) (w0 w : World) (G : Con → Prop) (hG : ∀ c, G c → ∀ i (h : i < c.args.length), G c.args[i]) (hGl : ∀ c, G c → c.args.length ≤ 2)
    (Inv : World → Prop) (Fp : World → Nat → Prop) (HF : Foot B Inv Fp) (hIok : ∀ W, Inv W → ∀ k, ok k → k < w0.heap.size → W.heap[k]? = w0.heap[k]?) (hI0 : ∀ W, Below w.heap.size w W → Inv W) (x : Part ok w0 G)
    (hB : w.heap[Bt]? = some (.cells #[.int .i64 x.con.op, .int .i64 x.con.n, .slice x.1.2.1 x.con.args.length x.1.2.2] 37 (0, 0))) :
    SeqStopsK F n Tryz.prog 110 #[.pointer (some ⟨Bt, 0, none⟩)] (fun y : Part ok w0 G => #[y.val]) (KpI Inv Fp) (fun ys => ys.map Part.con = preC x.con) (fun pre => pre.map Part.con <+: preC x.con) (preC x.con).length w := fun l J Jx W hW hA _ hY h0 =>
  all1_in F hd n hf1 hf hro l (preC x.con).length B Bt ok w0 G hG hGl Inv Fp HF hIok J Jx (fun pre W1 o hj => hA pre W1 (W1.alloc o) none hj (World.grownBy_alloc W1 o none) (fun r e => by cases e)) x hY W ((hW.block Bt (blkLt hB)).trans hB) (hI0 W hW) h0
end Go.Proofs.YthiclhbnggehoaaGreatDoor
