/- What (*hier.Space).True computes. -/
import Derived.Test.YtknonaboaaiabaaGreatDoorFit
namespace Go.Proofs.YtknonaboaaiabaaGreatDoor
open Go.RowKit
set_option linter.unusedVariables false
set_option linter.unusedSimpArgs false
/-- Bit n of a type. -/
def bitB (t n : Int) : Bool := bits BinOp.and IntKind.i64 (t / 2 ^ n.toNat) 1 == 1
def seenP (pl : List (ByteArray × Int)) (x : ByteArray) : Bool := (findL pl x).isSome
def numP (pl : List (ByteArray × Int)) (x : ByteArray) : Int := (findL pl x).getD 0
mutual
def trueC (cs rs : List ByteArray) (pl : List (ByteArray × Int)) (t : Int) : Con → Bool × Bool
  | ⟨op, n, args⟩ => if op = 1 then (true, true) else if op = 2 then (false, true)
    else if op = 0 then (seenP pl (textC cs rs ⟨op, n, args⟩) && bitB t (numP pl (textC cs rs ⟨op, n, args⟩)), seenP pl (textC cs rs ⟨op, n, args⟩))
    else if op = 3 then ((true1 cs rs pl t args).2 && !(true1 cs rs pl t args).1, (true1 cs rs pl t args).2)
    else if op = 4 then (if !(true1 cs rs pl t args).2 || !(true2 cs rs pl t args).2 then (false, false) else ((true1 cs rs pl t args).1 && (true2 cs rs pl t args).1, true))
    else if op = 5 then (if !(true1 cs rs pl t args).2 || !(true2 cs rs pl t args).2 then (false, false) else ((true1 cs rs pl t args).1 || (true2 cs rs pl t args).1, true))
    else (seenP pl (textC cs rs (quantC ⟨op, n, args⟩)) && (bitB t (numP pl (textC cs rs (quantC ⟨op, n, args⟩))) == decide (op = 6)), seenP pl (textC cs rs (quantC ⟨op, n, args⟩)))
def true1 (cs rs : List ByteArray) (pl : List (ByteArray × Int)) (t : Int) : List Con → Bool × Bool
  | [] => (false, false)
  | c :: _ => trueC cs rs pl t c
def true2 (cs rs : List ByteArray) (pl : List (ByteArray × Int)) (t : Int) : List Con → Bool × Bool
  | _ :: r => true1 cs rs pl t r
  | [] => (false, false)
end
def RetTrue (r : Bool × Bool) (w : World) (e : Ending) (w' : World) : Prop := e = .returned (.tuple #[.bool r.1, .bool r.2]) ∧ Keeps (fun _ => False) w w'
theorem placeT_eq (pl : List (ByteArray × Int)) (x : ByteArray) : placeT pl x = .tuple #[.int .i64 (numP pl x), .bool (seenP pl x)] := rfl
/-- The numbers of a Space's marks. -/
def PlOk (pl : List (ByteArray × Int)) : Prop := ∀ x, 0 ≤ numP pl x ∧ numP pl x ≤ 63
set_option maxRecDepth 100000 in
set_option maxHeartbeats 4000000 in
theorem true_calls (b : Kb) (p : KbA) (mv : Value) (m g : Nat) (pl : List (ByteArray × Int)) (t : Int) (ok2 : Nat → Prop) (hcs : ∀ s ∈ b.cs, s.size ≤ 12) (hrs : ∀ s ∈ b.rs, s.size ≤ 12) (hcl : b.cs.length ≤ 1000000) (hrl : b.rs.length ≤ 1000000) (hpl : PlOk pl) (N : Nat) :
    ∀ (c : Con) (A : Option Addr) (cap : Nat) (ok : Nat → Prop) (w : World), c.size < N → c.size ≤ 100000 → SpaceR w g b p mv m pl → Row1 ok2 w Value.string b.cs p.a0 → Row1 ok2 w Value.string b.rs p.a1 → DualsTab w →
      fitC b.cs.length b.rs.length c = true → ConR ok w c [.int .i64 c.op, .int .i64 c.n, .slice A c.args.length cap] →
      Calls Tryz.prog 129 #[.pointer (some ⟨g, 0, none⟩), .int .i64 t, .agg #[.int .i64 c.op, .int .i64 c.n, .slice A c.args.length cap]] w (RetTrue (trueC b.cs b.rs pl t c) w) := by
  induction N with
  | zero => intro c A cap ok w h; omega
  | succ N ih =>
  intro c A cap ok w hN hz hsp h0 h1 hd hf hc
  have IH := Lib.hid @ih
  clear ih
  obtain ⟨op, n, args⟩ := c
  simp only [Con.op, Con.n, Con.args] at hc ⊢
  obtain ⟨hop, har, hn, hl⟩ := fit_parts hf
  have hsh := shape_of_fit hf
  have hPL := Lib.hid hpl
  have HC := Lib.hid hc
  have harg : ∀ i, (hi : i < args.length) → ∃ bk o A' cap', A = some ⟨bk, o, none⟩ ∧ bk < w.heap.size ∧ w.cell? ⟨bk, o + i * 3, none⟩ = some (.int .i64 args[i].op) ∧ w.cell? ⟨bk, o + i * 3 + 1, none⟩ = some (.int .i64 args[i].n) ∧ w.cell? ⟨bk, o + i * 3 + 2, none⟩ = some (.slice A' args[i].args.length cap') ∧
      ∀ W, Keeps (fun _ => False) w W → Calls Tryz.prog 129 #[.pointer (some ⟨g, 0, none⟩), .int .i64 t, .agg #[.int .i64 args[i].op, .int .i64 args[i].n, .slice A' args[i].args.length cap']] W (RetTrue (trueC b.cs b.rs pl t args[i]) W) := by
    intro i hi
    have hc' := hc
    simp only [ConR] at hc'
    obtain ⟨A1, cap1, e1, hcap, hr⟩ := hc'
    simp only [List.cons.injEq, Value.slice.injEq, and_true, true_and] at e1
    obtain ⟨rfl, rfl⟩ := e1
    obtain ⟨bk, o, rfl, hb, hr⟩ := hr (by intro h; subst h; simp at hi)
    obtain ⟨A', cap', e0, e1, e2, hcd⟩ := hr.at_ i hi
    have hsz := Con.size_at i hi
    simp only [Con.size] at hN hz
    exact ⟨bk, o, A', cap', rfl, World.block_lt_of_cell? w _ e0, e0, e1, e2, fun W hk => IH.out args[i] A' cap' ok W (by omega) (by omega) (hsp.keep hk (fun h => h) (fun h => h)) (h0.keep hk (fun _ _ h => h)) (h1.keep hk (fun _ _ h => h)) (hd.keep hk (fun h => h)) (fitL_at hl i hi) (hcd.keep hk (fun _ _ h => h))⟩
  have HARG := Lib.hid harg
  have hplace : ∀ (ok' : Nat → Prop) (d : Con) (A' : Option Addr) (cap' : Nat) (W : World), Keeps (fun _ => False) w W → d.size ≤ 1000000 → fitC b.cs.length b.rs.length d = true → ConR ok' W d [.int .i64 d.op, .int .i64 d.n, .slice A' d.args.length cap'] →
      Calls Tryz.prog 184 #[.pointer (some ⟨g, 0, none⟩), .agg #[.int .i64 d.op, .int .i64 d.n, .slice A' d.args.length cap']] W fun e w' => e = .returned (.tuple #[.int .i64 (numP pl (textC b.cs b.rs d)), .bool (seenP pl (textC b.cs b.rs d))]) ∧ Keeps (fun _ => False) W w' :=
    fun ok' d A' cap' W hk hs hfd hcd => place_calls b p mv m g pl d A' cap' ok' ok2 W (hsp.keep hk (fun h => h) (fun h => h)) (h0.keep hk (fun _ _ h => h)) (h1.keep hk (fun _ _ h => h)) hcs hrs hcl hrl hs hfd hcd
  have HPLACE := Lib.hid hplace
  have hquant : op = 6 ∨ op = 7 → ∀ W, Keeps (fun _ => False) w W → Calls Tryz.prog 185 #[.agg #[.int .i64 op, .int .i64 n, .slice A args.length cap]] W (RetQuant ok ⟨op, n, args⟩ W) :=
    fun h W hk => quant_calls ⟨op, n, args⟩ A cap ok W hsh h (hc.keep hk (fun _ _ h => h)) (hd.keep hk (fun h => h))
  have HQUANT := Lib.hid hquant
  have HF := Lib.hid hf
  have HZ := Lib.hid hz
  clear harg hplace hquant hc hsp h0 h1 hd hf hsh hcs hrs hpl hl hn
  have hcase : op = 0 ∨ op = 1 ∨ op = 2 ∨ op = 3 ∨ op = 4 ∨ op = 5 ∨ op = 6 ∨ op = 7 := by omega
  rcases hcase with rfl | rfl | rfl | rfl | rfl | rfl | rfl | rfl
  · have hT : trueC b.cs b.rs pl t ⟨0, n, args⟩ = (seenP pl (textC b.cs b.rs ⟨0, n, args⟩) && bitB t (numP pl (textC b.cs b.rs ⟨0, n, args⟩)), seenP pl (textC b.cs b.rs ⟨0, n, args⟩)) := by simp [trueC]
    rw [hT]
    have hp := hPL.out (textC b.cs b.rs ⟨0, n, args⟩)
    have HCALL := Lib.hid (fun W hk => HPLACE.out ok ⟨0, n, args⟩ A cap W hk (by have := HZ.out; omega) HF.out (HC.out.keep hk (fun _ _ h => h)))
    simp only [Con.op, Con.n, Con.args] at HCALL
    generalize numP pl (textC b.cs b.rs ⟨0, n, args⟩) = z at *
    generalize seenP pl (textC b.cs b.rs ⟨0, n, args⟩) = s at *
    clear hT har hop HARG HPLACE HQUANT
    go_enter Tryz.func129, Tryz.ntmps129
    go_wp2_with fail
    generalize hW0 : World.alloc _ _ = W0
    have hK0 : Keeps (fun _ => False) w W0 := by rw [← hW0]; repeat (first | exact Keeps.refl _ _ | refine Keeps.drewN ?_ _ | refine Keeps.drew ?_ | refine Keeps.alloc ?_ _ | refine Keeps.set ?_ (Or.inl (by rfl)) _)
    have hb0 : W0.heap[w.heap.size]? = some (.cells #[.int .i64 0, .int .i64 n, .slice A args.length cap] 94 (0, 0)) := by rw [← hW0]; exact blkNew rfl
    clear hW0
    refine (HCALL.out W0 hK0).mono ?_
    rintro e w1 ⟨rfl, hk1⟩
    clear HCALL
    cases s
    · go_wp2_with fail
      exact bodyPost_ret (v := .tuple #[.bool (false), .bool (false)]) (by simp [results, Tryz.results129, go_sem, bitB]) rfl ⟨by simp, hK0.then_ hk1⟩
    · go_wp2_with fail
      exact bodyPost_ret (v := .tuple #[.bool (bitB t z), .bool (true)]) (by simp [results, Tryz.results129, go_sem, bitB]) rfl ⟨by simp, hK0.then_ hk1⟩
  · rw [show trueC b.cs b.rs pl t ⟨1, n, args⟩ = (true, true) by simp [trueC]]
    clear har hop HARG HPLACE HQUANT
    go_enter Tryz.func129, Tryz.ntmps129
    go_wp2_with fail
    exact bodyPost_ret (v := .tuple #[.bool true, .bool true]) (by simp [results, Tryz.results129, go_sem, bitB]) rfl ⟨rfl, by repeat (first | exact Keeps.refl _ _ | refine Keeps.drewN ?_ _ | refine Keeps.drew ?_ | refine Keeps.alloc ?_ _ | refine Keeps.set ?_ (Or.inl (by rfl)) _)⟩
  · rw [show trueC b.cs b.rs pl t ⟨2, n, args⟩ = (false, true) by simp [trueC]]
    clear har hop HARG HPLACE HQUANT
    go_enter Tryz.func129, Tryz.ntmps129
    go_wp2_with fail
    exact bodyPost_ret (v := .tuple #[.bool false, .bool true]) (by simp [results, Tryz.results129, go_sem, bitB]) rfl ⟨rfl, by repeat (first | exact Keeps.refl _ _ | refine Keeps.drewN ?_ _ | refine Keeps.drew ?_ | refine Keeps.alloc ?_ _ | refine Keeps.set ?_ (Or.inl (by rfl)) _)⟩
  · have hl1 : args.length = 1 := by unfold arityZ at har; simp at har; omega
    obtain ⟨d, rfl⟩ : ∃ d, args = [d] := List.length_eq_one_iff.1 hl1
    have hT : trueC b.cs b.rs pl t ⟨3, n, [d]⟩ = ((trueC b.cs b.rs pl t d).2 && !(trueC b.cs b.rs pl t d).1, (trueC b.cs b.rs pl t d).2) := by simp [trueC, true1]
    rw [hT]
    obtain ⟨bk, o, A', cap', rfl, hbl, e0, e1, e2, hcall⟩ := HARG.out 0 (by simp)
    simp only [List.getElem_cons_zero, Nat.zero_mul, Nat.add_zero] at e0 e1 e2 hcall
    have HCALL := Lib.hid hcall
    clear hT hcall
    generalize trueC b.cs b.rs pl t d = r at HCALL ⊢
    obtain ⟨rb, ro⟩ := r
    simp only [List.length_cons, List.length_nil, Nat.zero_add]
    clear har hop HARG HPLACE HQUANT
    go_enter Tryz.func129, Tryz.ntmps129
    go_wp2_with fail
    generalize hW0 : World.alloc _ _ = W0
    have hK0 : Keeps (fun _ => False) w W0 := by rw [← hW0]; repeat (first | exact Keeps.refl _ _ | refine Keeps.drewN ?_ _ | refine Keeps.drew ?_ | refine Keeps.alloc ?_ _ | refine Keeps.set ?_ (Or.inl (by rfl)) _)
    clear hW0
    refine (HCALL.out W0 hK0).mono ?_
    rintro e w1 ⟨rfl, hk1⟩
    clear HCALL
    cases ro
    · go_wp2_with fail
      exact bodyPost_ret (v := .tuple #[.bool (false), .bool (false)]) (by simp [results, Tryz.results129, go_sem, bitB]) rfl ⟨by simp, hK0.then_ hk1⟩
    · go_wp2_with fail
      exact bodyPost_ret (v := .tuple #[.bool (!rb), .bool (true)]) (by simp [results, Tryz.results129, go_sem, bitB]) rfl ⟨by simp, hK0.then_ hk1⟩
  · have hl2 : args.length = 2 := by unfold arityZ at har; simp at har; omega
    obtain ⟨d1, d2, rfl⟩ : ∃ d1 d2, args = [d1, d2] := by
      rcases args with _ | ⟨d1, _ | ⟨d2, _ | _⟩⟩ <;> simp at hl2
      exact ⟨d1, d2, rfl⟩
    have hT : trueC b.cs b.rs pl t ⟨4, n, [d1, d2]⟩ = if !(trueC b.cs b.rs pl t d1).2 || !(trueC b.cs b.rs pl t d2).2 then (false, false) else ((trueC b.cs b.rs pl t d1).1 && (trueC b.cs b.rs pl t d2).1, true) := by simp [trueC, true1, true2]
    rw [hT]
    obtain ⟨bk, o, A1, cap1, rfl, hbl, e0, e1, e2, hcall1⟩ := HARG.out 0 (by simp)
    obtain ⟨bk2, o2, A2, cap2, hAA, hbl2, f0, f1, f2, hcall2⟩ := HARG.out 1 (by simp)
    simp only [Option.some.injEq, Addr.mk.injEq, and_true] at hAA
    obtain ⟨rfl, rfl⟩ := hAA
    simp only [List.getElem_cons_zero, List.getElem_cons_succ, Nat.zero_mul, Nat.add_zero, Nat.one_mul] at e0 e1 e2 f0 f1 f2 hcall1 hcall2
    have HCALL1 := Lib.hid hcall1
    have HCALL2 := Lib.hid hcall2
    clear hT hcall1 hcall2
    generalize trueC b.cs b.rs pl t d1 = r1 at HCALL1 ⊢
    generalize trueC b.cs b.rs pl t d2 = r2 at HCALL2 ⊢
    obtain ⟨rb1, ro1⟩ := r1
    obtain ⟨rb2, ro2⟩ := r2
    have F0 := Lib.hid f0
    have F1 := Lib.hid f1
    have F2 := Lib.hid f2
    simp only [List.length_cons, List.length_nil, Nat.zero_add, Nat.reduceAdd]
    generalize hres : (if !ro1 || !ro2 then (false, false) else (rb1 && rb2, true)) = res
    have HRES := Lib.hid hres
    clear hres
    clear har hop HARG HPLACE HQUANT f0 f1 f2
    go_enter Tryz.func129, Tryz.ntmps129
    go_wp2_with fail
    generalize hW0 : World.alloc _ _ = W0
    have hK0 : Keeps (fun _ => False) w W0 := by rw [← hW0]; repeat (first | exact Keeps.refl _ _ | refine Keeps.drewN ?_ _ | refine Keeps.drew ?_ | refine Keeps.alloc ?_ _ | refine Keeps.set ?_ (Or.inl (by rfl)) _)
    have hb0 : W0.heap[w.heap.size]? = some (.cells #[.int .i64 4, .int .i64 n, .slice (some ⟨bk, o, none⟩) 2 cap] 94 (0, 0)) := by rw [← hW0]; exact blkNew rfl
    clear hW0
    refine (HCALL1.out W0 hK0).mono ?_
    rintro e w1 ⟨rfl, hk1⟩
    clear HCALL1
    have hK1 := hK0.then_ hk1
    have hb1 := hk1.blk hb0 (fun h => h)
    clear hb0 hk1 hK0 e0 e1 e2
    obtain ⟨x0, x1, x2⟩ := cells3 hb1
    have f0 := hK1.cell F0.out (fun h => h)
    have f1 := hK1.cell F1.out (fun h => h)
    have f2 := hK1.cell F2.out (fun h => h)
    go_wp2_with fail
    refine (HCALL2.out w1 hK1).mono ?_
    rintro e w2 ⟨rfl, hk2⟩
    clear HCALL2
    have hb2 := hk2.blk hb1 (fun h => h)
    obtain ⟨y0, y1, y2⟩ := cells3 hb2
    clear f0 f1 f2 x0 x1 x2
    cases ro1
    · go_wp2_with fail
      exact bodyPost_ret (v := .tuple #[.bool (false), .bool (false)]) (by simp [results, Tryz.results129, go_sem, bitB]) rfl ⟨by rw [← HRES.out]; rfl, hK1.then_ hk2⟩
    · cases ro2
      · go_wp2_with fail
        exact bodyPost_ret (v := .tuple #[.bool (false), .bool (false)]) (by simp [results, Tryz.results129, go_sem, bitB]) rfl ⟨by rw [← HRES.out]; rfl, hK1.then_ hk2⟩
      · cases rb1 <;> cases rb2
        · go_wp2_with fail
          exact bodyPost_ret (v := .tuple #[.bool (false && false), .bool (true)]) (by simp [results, Tryz.results129, go_sem, bitB]) rfl ⟨by rw [← HRES.out]; rfl, hK1.then_ hk2⟩
        · go_wp2_with fail
          exact bodyPost_ret (v := .tuple #[.bool (false && true), .bool (true)]) (by simp [results, Tryz.results129, go_sem, bitB]) rfl ⟨by rw [← HRES.out]; rfl, hK1.then_ hk2⟩
        · go_wp2_with fail
          exact bodyPost_ret (v := .tuple #[.bool (true && false), .bool (true)]) (by simp [results, Tryz.results129, go_sem, bitB]) rfl ⟨by rw [← HRES.out]; rfl, hK1.then_ hk2⟩
        · go_wp2_with fail
          exact bodyPost_ret (v := .tuple #[.bool (true && true), .bool (true)]) (by simp [results, Tryz.results129, go_sem, bitB]) rfl ⟨by rw [← HRES.out]; rfl, hK1.then_ hk2⟩
  · have hl2 : args.length = 2 := by unfold arityZ at har; simp at har; omega
    obtain ⟨d1, d2, rfl⟩ : ∃ d1 d2, args = [d1, d2] := by
      rcases args with _ | ⟨d1, _ | ⟨d2, _ | _⟩⟩ <;> simp at hl2
      exact ⟨d1, d2, rfl⟩
    have hT : trueC b.cs b.rs pl t ⟨5, n, [d1, d2]⟩ = if !(trueC b.cs b.rs pl t d1).2 || !(trueC b.cs b.rs pl t d2).2 then (false, false) else ((trueC b.cs b.rs pl t d1).1 || (trueC b.cs b.rs pl t d2).1, true) := by simp [trueC, true1, true2]
    rw [hT]
    obtain ⟨bk, o, A1, cap1, rfl, hbl, e0, e1, e2, hcall1⟩ := HARG.out 0 (by simp)
    obtain ⟨bk2, o2, A2, cap2, hAA, hbl2, f0, f1, f2, hcall2⟩ := HARG.out 1 (by simp)
    simp only [Option.some.injEq, Addr.mk.injEq, and_true] at hAA
    obtain ⟨rfl, rfl⟩ := hAA
    simp only [List.getElem_cons_zero, List.getElem_cons_succ, Nat.zero_mul, Nat.add_zero, Nat.one_mul] at e0 e1 e2 f0 f1 f2 hcall1 hcall2
    have HCALL1 := Lib.hid hcall1
    have HCALL2 := Lib.hid hcall2
    clear hT hcall1 hcall2
    generalize trueC b.cs b.rs pl t d1 = r1 at HCALL1 ⊢
    generalize trueC b.cs b.rs pl t d2 = r2 at HCALL2 ⊢
    obtain ⟨rb1, ro1⟩ := r1
    obtain ⟨rb2, ro2⟩ := r2
    have F0 := Lib.hid f0
    have F1 := Lib.hid f1
    have F2 := Lib.hid f2
    simp only [List.length_cons, List.length_nil, Nat.zero_add, Nat.reduceAdd]
    generalize hres : (if !ro1 || !ro2 then (false, false) else (rb1 || rb2, true)) = res
    have HRES := Lib.hid hres
    clear hres
    clear har hop HARG HPLACE HQUANT f0 f1 f2
    go_enter Tryz.func129, Tryz.ntmps129
    go_wp2_with fail
    generalize hW0 : World.alloc _ _ = W0
    have hK0 : Keeps (fun _ => False) w W0 := by rw [← hW0]; repeat (first | exact Keeps.refl _ _ | refine Keeps.drewN ?_ _ | refine Keeps.drew ?_ | refine Keeps.alloc ?_ _ | refine Keeps.set ?_ (Or.inl (by rfl)) _)
    have hb0 : W0.heap[w.heap.size]? = some (.cells #[.int .i64 5, .int .i64 n, .slice (some ⟨bk, o, none⟩) 2 cap] 94 (0, 0)) := by rw [← hW0]; exact blkNew rfl
    clear hW0
    refine (HCALL1.out W0 hK0).mono ?_
    rintro e w1 ⟨rfl, hk1⟩
    clear HCALL1
    have hK1 := hK0.then_ hk1
    have hb1 := hk1.blk hb0 (fun h => h)
    clear hb0 hk1 hK0 e0 e1 e2
    obtain ⟨x0, x1, x2⟩ := cells3 hb1
    have f0 := hK1.cell F0.out (fun h => h)
    have f1 := hK1.cell F1.out (fun h => h)
    have f2 := hK1.cell F2.out (fun h => h)
    go_wp2_with fail
    refine (HCALL2.out w1 hK1).mono ?_
    rintro e w2 ⟨rfl, hk2⟩
    clear HCALL2
    have hb2 := hk2.blk hb1 (fun h => h)
    obtain ⟨y0, y1, y2⟩ := cells3 hb2
    clear f0 f1 f2 x0 x1 x2
    cases ro1
    · go_wp2_with fail
      exact bodyPost_ret (v := .tuple #[.bool (false), .bool (false)]) (by simp [results, Tryz.results129, go_sem, bitB]) rfl ⟨by rw [← HRES.out]; rfl, hK1.then_ hk2⟩
    · cases ro2
      · go_wp2_with fail
        exact bodyPost_ret (v := .tuple #[.bool (false), .bool (false)]) (by simp [results, Tryz.results129, go_sem, bitB]) rfl ⟨by rw [← HRES.out]; rfl, hK1.then_ hk2⟩
      · cases rb1 <;> cases rb2
        · go_wp2_with fail
          exact bodyPost_ret (v := .tuple #[.bool (false || false), .bool (true)]) (by simp [results, Tryz.results129, go_sem, bitB]) rfl ⟨by rw [← HRES.out]; rfl, hK1.then_ hk2⟩
        · go_wp2_with fail
          exact bodyPost_ret (v := .tuple #[.bool (false || true), .bool (true)]) (by simp [results, Tryz.results129, go_sem, bitB]) rfl ⟨by rw [← HRES.out]; rfl, hK1.then_ hk2⟩
        · go_wp2_with fail
          exact bodyPost_ret (v := .tuple #[.bool (true || false), .bool (true)]) (by simp [results, Tryz.results129, go_sem, bitB]) rfl ⟨by rw [← HRES.out]; rfl, hK1.then_ hk2⟩
        · go_wp2_with fail
          exact bodyPost_ret (v := .tuple #[.bool (true || true), .bool (true)]) (by simp [results, Tryz.results129, go_sem, bitB]) rfl ⟨by rw [← HRES.out]; rfl, hK1.then_ hk2⟩
  · have hT : trueC b.cs b.rs pl t ⟨6, n, args⟩ = (seenP pl (textC b.cs b.rs (quantC ⟨6, n, args⟩)) && (bitB t (numP pl (textC b.cs b.rs (quantC ⟨6, n, args⟩))) == true), seenP pl (textC b.cs b.rs (quantC ⟨6, n, args⟩))) := by simp [trueC]
    rw [hT]
    have hp := hPL.out (textC b.cs b.rs (quantC ⟨6, n, args⟩))
    have hsq := size_quant ⟨6, n, args⟩
    have hfq := fit_quant HF.out (.inl rfl)
    have hqc := HQUANT.out (.inl rfl)
    have HQ2 : Hid (∀ W, Keeps (fun _ => False) w W → Calls Tryz.prog 185 #[.agg #[.int .i64 6, .int .i64 n, .slice A args.length cap]] W (fun e w' => ∃ A' cap', e = .returned (.tuple #[.agg #[.int .i64 (quantC ⟨6, n, args⟩).op, .int .i64 (quantC ⟨6, n, args⟩).n, .slice A' (quantC ⟨6, n, args⟩).args.length cap'], .bool true]) ∧ ConR (fun b => ok b ∨ W.heap.size ≤ b) w' (quantC ⟨6, n, args⟩) [.int .i64 (quantC ⟨6, n, args⟩).op, .int .i64 (quantC ⟨6, n, args⟩).n, .slice A' (quantC ⟨6, n, args⟩).args.length cap'] ∧ Keeps (fun _ => False) W w')) := fun W hk => (hqc W hk).mono fun e w' ⟨A', cap', h1, h2, h3⟩ => ⟨A', cap', by rw [h1]; rfl, h2, h3⟩
    have HSQ := Lib.hid hsq
    have HFQ := Lib.hid hfq
    clear hT har hop HARG HQUANT hqc hsq hfq
    generalize quantC ⟨6, n, args⟩ = q at *
    have HCALL := Lib.hid (fun (ok' : Nat → Prop) (A' : Option Addr) (cap' : Nat) W hk => HPLACE.out ok' q A' cap' W hk (by have := HZ.out; have := HSQ.out; omega) HFQ.out)
    generalize numP pl (textC b.cs b.rs q) = z at *
    generalize seenP pl (textC b.cs b.rs q) = s at *
    clear HPLACE
    go_enter Tryz.func129, Tryz.ntmps129
    go_wp2_with fail
    generalize hW0 : World.alloc _ _ = W0
    have hK0 : Keeps (fun _ => False) w W0 := by rw [← hW0]; repeat (first | exact Keeps.refl _ _ | refine Keeps.drewN ?_ _ | refine Keeps.drew ?_ | refine Keeps.alloc ?_ _ | refine Keeps.set ?_ (Or.inl (by rfl)) _)
    have hb0 : W0.heap[w.heap.size]? = some (.cells #[.int .i64 6, .int .i64 n, .slice A args.length cap] 94 (0, 0)) := by rw [← hW0]; exact blkNew rfl
    clear hW0
    refine (HQ2.out W0 hK0).mono ?_
    clear HQ2
    rintro e w1 ⟨A', cap', rfl, hcq, hk1⟩
    have hK1 := hK0.then_ hk1
    have HCQ := Lib.hid hcq
    clear hcq hk1 hK0 hb0
    go_wp2_with fail
    generalize hW2 : World.alloc _ _ = W2
    have hK2 : Keeps (fun _ => False) w1 W2 := by rw [← hW2]; repeat (first | exact Keeps.refl _ _ | refine Keeps.drewN ?_ _ | refine Keeps.drew ?_ | refine Keeps.alloc ?_ _ | refine Keeps.set ?_ (Or.inl (by rfl)) _)
    clear hW2
    refine (HCALL.out _ A' cap' W2 (hK1.then_ hK2) (HCQ.out.keep hK2 (fun _ _ h => h))).mono ?_
    rintro e w3 ⟨rfl, hk3⟩
    clear HCALL
    cases s
    · go_wp2_with fail
      exact bodyPost_ret (v := .tuple #[.bool (false), .bool (false)]) (by simp [results, Tryz.results129, go_sem, bitB]) rfl ⟨by simp, (hK1.then_ hK2).then_ hk3⟩
    · go_wp2_with fail
      exact bodyPost_ret (v := .tuple #[.bool (bitB t z == true), .bool (true)]) (by simp [results, Tryz.results129, go_sem, bitB]) rfl ⟨by simp, (hK1.then_ hK2).then_ hk3⟩
  · have hT : trueC b.cs b.rs pl t ⟨7, n, args⟩ = (seenP pl (textC b.cs b.rs (quantC ⟨7, n, args⟩)) && (bitB t (numP pl (textC b.cs b.rs (quantC ⟨7, n, args⟩))) == false), seenP pl (textC b.cs b.rs (quantC ⟨7, n, args⟩))) := by simp [trueC]
    rw [hT]
    have hp := hPL.out (textC b.cs b.rs (quantC ⟨7, n, args⟩))
    have hsq := size_quant ⟨7, n, args⟩
    have hfq := fit_quant HF.out (.inr rfl)
    have hqc := HQUANT.out (.inr rfl)
    have HQ2 : Hid (∀ W, Keeps (fun _ => False) w W → Calls Tryz.prog 185 #[.agg #[.int .i64 7, .int .i64 n, .slice A args.length cap]] W (fun e w' => ∃ A' cap', e = .returned (.tuple #[.agg #[.int .i64 (quantC ⟨7, n, args⟩).op, .int .i64 (quantC ⟨7, n, args⟩).n, .slice A' (quantC ⟨7, n, args⟩).args.length cap'], .bool false]) ∧ ConR (fun b => ok b ∨ W.heap.size ≤ b) w' (quantC ⟨7, n, args⟩) [.int .i64 (quantC ⟨7, n, args⟩).op, .int .i64 (quantC ⟨7, n, args⟩).n, .slice A' (quantC ⟨7, n, args⟩).args.length cap'] ∧ Keeps (fun _ => False) W w')) := fun W hk => (hqc W hk).mono fun e w' ⟨A', cap', h1, h2, h3⟩ => ⟨A', cap', by rw [h1]; rfl, h2, h3⟩
    have HSQ := Lib.hid hsq
    have HFQ := Lib.hid hfq
    clear hT har hop HARG HQUANT hqc hsq hfq
    generalize quantC ⟨7, n, args⟩ = q at *
    have HCALL := Lib.hid (fun (ok' : Nat → Prop) (A' : Option Addr) (cap' : Nat) W hk => HPLACE.out ok' q A' cap' W hk (by have := HZ.out; have := HSQ.out; omega) HFQ.out)
    generalize numP pl (textC b.cs b.rs q) = z at *
    generalize seenP pl (textC b.cs b.rs q) = s at *
    clear HPLACE
    go_enter Tryz.func129, Tryz.ntmps129
    go_wp2_with fail
    generalize hW0 : World.alloc _ _ = W0
    have hK0 : Keeps (fun _ => False) w W0 := by rw [← hW0]; repeat (first | exact Keeps.refl _ _ | refine Keeps.drewN ?_ _ | refine Keeps.drew ?_ | refine Keeps.alloc ?_ _ | refine Keeps.set ?_ (Or.inl (by rfl)) _)
    have hb0 : W0.heap[w.heap.size]? = some (.cells #[.int .i64 7, .int .i64 n, .slice A args.length cap] 94 (0, 0)) := by rw [← hW0]; exact blkNew rfl
    clear hW0
    refine (HQ2.out W0 hK0).mono ?_
    clear HQ2
    rintro e w1 ⟨A', cap', rfl, hcq, hk1⟩
    have hK1 := hK0.then_ hk1
    have HCQ := Lib.hid hcq
    clear hcq hk1 hK0 hb0
    go_wp2_with fail
    generalize hW2 : World.alloc _ _ = W2
    have hK2 : Keeps (fun _ => False) w1 W2 := by rw [← hW2]; repeat (first | exact Keeps.refl _ _ | refine Keeps.drewN ?_ _ | refine Keeps.drew ?_ | refine Keeps.alloc ?_ _ | refine Keeps.set ?_ (Or.inl (by rfl)) _)
    clear hW2
    refine (HCALL.out _ A' cap' W2 (hK1.then_ hK2) (HCQ.out.keep hK2 (fun _ _ h => h))).mono ?_
    rintro e w3 ⟨rfl, hk3⟩
    clear HCALL
    cases s
    · go_wp2_with fail
      exact bodyPost_ret (v := .tuple #[.bool (false), .bool (false)]) (by simp [results, Tryz.results129, go_sem, bitB]) rfl ⟨by simp, (hK1.then_ hK2).then_ hk3⟩
    · go_wp2_with fail
      exact bodyPost_ret (v := .tuple #[.bool (bitB t z == false), .bool (true)]) (by simp [results, Tryz.results129, go_sem, bitB]) rfl ⟨by simp, (hK1.then_ hK2).then_ hk3⟩
end Go.Proofs.YtknonaboaaiabaaGreatDoor
