/- What concept.Mark and concept.Sorted compute. -/
import Derived.Maps.OwnIn
import Derived.Test.YthiclhbnggehoaaGreatDoorEach
namespace Go.Proofs.YthiclhbnggehoaaGreatDoor
open Go.RowKit Go.Shelf
set_option linter.unusedVariables false
set_option linter.unusedSimpArgs false
attribute [local go_sem] Oper.semAt_some
theorem keepsGrown {W W' : World} {row : Option Nat} {B : Nat} (hg : W.grownBy W' row) (hr : ∀ r, row = some r → B ≤ r ∧ ∃ o : Obj, W.heap[r]? = some o ∧ o.isCells = false) : Keeps (fun i => B ≤ i) W W' :=
  ⟨hg.os, hg.tape, hg.output, hg.size, fun k hk hn => hg.block k hk (fun e => hn (hr k e.symm).1)⟩
/-- 'm[x] = v' in a fenced walk. -/
theorem wp_putIn {F : Fence} {nF : Nat} {P : Program} {κ ν : Type} [DecidableEq κ] {k : TypeId} {ek : κ → Value} {ev : ν → Value} {ops : Array Oper} {rest : List Oper} {o : Oper} {a : Act} {Q : Exit → Act → World → Prop} {w : World}
    (hg : o.guard = none) (m x v : Operand) (t : TypeId) (hop : o.op = Op.mapUpdate t m x v) (e : TypeId) (K : KeyTy P k ek) (ht : P.underlying t = some (.map k e)) (b : Nat) (l : List (κ × ν)) (hown : MapL w b ek ev l) (hm : a.eval m = .map (some b))
    (key : κ) (val : ν) (hx : a.eval x = ek key) (hv : a.eval v = ev val) (h : ∀ w', MapL w' b ek ev (putL l key val) → Keeps (fun i => i = b) w w' → w'.heap.size = w.heap.size → wpListIn F nF P ops Q rest (a.put o.dst undef) w') : wpListIn F nF P ops Q (o :: rest) a w := by
  refine wpListIn_plain hg fun K' hK' => ?_
  obtain ⟨w', hrun, r1, r2, r3⟩ := hown.put K ht key val
  unfold Oper.wpIn
  refine ⟨by simp [Oper.about, hop], ?_⟩
  rw [Oper.semAt_plain F _ _ (by rw [hop]; intro c hc'; cases hc')]
  simp [execOp, hop, hm, hx, hv, hrun, Result.andThen]
  exact hK' _ _ (h w' r1 r2 r3)
theorem Keeps.sub {S T : Nat → Prop} {w w' : World} (h : Keeps S w w') (hs : ∀ i, S i → T i) : Keeps T w w' := ⟨h.os, h.tape, h.output, h.size, fun k hk hn => h.block k hk (fun hS => hn (hs k hS))⟩
def markN (l : List (Int × Bool)) (cs : List Con) : List (Int × Bool) := cs.foldl (fun l c => if c.op = 0 then putL l c.n true else l) l
def markR (l : List (Int × Bool)) (cs : List Con) : List (Int × Bool) := cs.foldl (fun l c => if c.op = 6 ∨ c.op = 7 then putL l (wrap64 (c.n.tdiv 2)) true else l) l
theorem markN_snoc (l : List (Int × Bool)) (cs : List Con) (c : Con) : markN l (cs ++ [c]) = if c.op = 0 then putL (markN l cs) c.n true else markN l cs := by simp [markN]
theorem markR_snoc (l : List (Int × Bool)) (cs : List Con) (c : Con) : markR l (cs ++ [c]) = if c.op = 6 ∨ c.op = 7 then putL (markR l cs) (wrap64 (c.n.tdiv 2)) true else markR l cs := by simp [markR]
theorem fit_args {nc nr : Nat} : ∀ c, fitC nc nr c = true → ∀ i (h : i < c.args.length), fitC nc nr c.args[i] = true
  | ⟨op, n, args⟩, h, i, hi => by simp only [fitC, Bool.and_eq_true] at h; exact fitL_at h.2 i hi
theorem fit_le {nc nr : Nat} : ∀ c, fitC nc nr c = true → c.args.length ≤ 2
  | ⟨op, n, args⟩, h => by
    simp only [fitC, Bool.and_eq_true, decide_eq_true_eq] at h
    have : arityZ op ≤ 2 := by unfold arityZ; split; omega; split <;> omega
    simp only [Con.args]; omega
/-- Nothing that is read has changed since w. -/
def Still (ok : Nat → Prop) (w W : World) : Prop := w.heap.size ≤ W.heap.size ∧ ∀ k, ok k → k < w.heap.size → W.heap[k]? = w.heap[k]?
theorem Still.keeps {ok S : Nat → Prop} {w A B : World} (h : Still ok w A) (hk : Keeps S A B) (hs : ∀ k, ok k → k < w.heap.size → ¬ S k) : Still ok w B :=
  ⟨Nat.le_trans h.1 hk.size, fun k ho hl => (hk.block k (by have := h.1; omega) (hs k ho hl)).trans (h.2 k ho hl)⟩
theorem Still.refl (ok : Nat → Prop) (w : World) : Still ok w w := ⟨Nat.le_refl _, fun _ _ _ => rfl⟩
theorem cells1 {w : World} {g : Nat} {t : TypeId} {fz : Nat × Nat} {v0 : Value} (h : w.heap[g]? = some (.cells #[v0] t fz)) : w.cell? ⟨g, 0, none⟩ = some v0 := by rw [blkCell h]; rfl
theorem putKeeps (W : World) (l : Nat) (o' : Obj) : Keeps (fun i => i = l) W (W.putObj l o') := ⟨rfl, rfl, rfl, by simp, fun k _ hk => World.putObj_heap_other hk⟩
theorem Foot.still (ok : Nat → Prop) (w : World) (B : Nat) (hB : w.heap.size ≤ B) : Foot B (Still ok w) (fun _ _ => False) where
  lt _ _ _ h := h.elim
  inv W o h := h.keeps ((Keeps.refl (fun _ => False) W).alloc o) (fun _ _ _ h => h)
  fp _ _ _ _ h := h
  pinv W l o o' hl _ _ _ h := h.keeps (putKeeps W l o') (fun k _ hk e => by omega)
  pfp _ _ _ _ _ _ _ _ _ _ h := h
theorem KpR.ofKeeps {Fp : World → Nat → Prop} {S : Nat → Prop} {W W' : World} (h : Keeps S W W') (hs : ∀ k o, S k → W.heap[k]? = some o → o.isCells = true → Fp W k) (hf : ∀ k, Fp W' k → Fp W k ∨ W.heap.size ≤ k) : KpR Fp W W' :=
  ⟨h.os, h.tape, h.output, h.size, fun k o hk ho hn => (h.block k (blkLt hk) (fun hS => hn (hs k o hS hk ho))).trans hk, hf⟩
theorem MapL.nocells {κ ν : Type} [DecidableEq κ] {ek : κ → Value} {ev : ν → Value} {w : World} {b : Nat} {l : List (κ × ν)} (h : MapL w b ek ev l) {o : Obj} (ho : w.heap[b]? = some o) : o.isCells = false := by
  obtain ⟨es, c, h1, _⟩ := h; rw [h1] at ho; cases ho; rfl
/-- A loop's body that turns maps below B alone. -/
theorem KeepsFrom.ofKeeps {S : Nat → Prop} {B : Nat} {W W' : World} (h : Keeps S W W') (hs : ∀ k o, S k → W.heap[k]? = some o → o.isCells = false → k < B) : KeepsFrom B W W' :=
  ⟨h.size, fun k o hB hk ho => (h.block k (blkLt hk) (fun hS => by have := hs k o hS hk ho; omega)).trans hk⟩
set_option maxRecDepth 100000 in
set_option maxHeartbeats 4000000 in
theorem mark_calls (nc nr : Nat) (c : Con) (A : Option Addr) (cap : Nat) (ok : Nat → Prop) (b1 b2 : Nat) (l1 l2 : List (Int × Bool)) (w : World) (hc : ConR ok w c [.int .i64 c.op, .int .i64 c.n, .slice A c.args.length cap]) (hf : fitC nc nr c = true)
    (h1 : MapL w b1 (Value.int .i64) Value.bool l1) (h2 : MapL w b2 (Value.int .i64) Value.bool l2) (hne : b1 ≠ b2) (hok : ∀ k, ok k → k ≠ b1 ∧ k ≠ b2) :
    Calls Tryz.prog 93 #[.agg #[.int .i64 c.op, .int .i64 c.n, .slice A c.args.length cap], .map (some b1), .map (some b2)] w fun e w' =>
      (∃ v, e = .returned v) ∧ MapL w' b1 (Value.int .i64) Value.bool (markN l1 (preC c)) ∧ MapL w' b2 (Value.int .i64) Value.bool (markR l2 (preC c)) ∧ Keeps (fun i => i = b1 ∨ i = b2) w w' := by
  refine (callsIn_wide (n := 3)).1 ?_
  refine callsIn_of_wp_marks Tryz.func93 rfl trivial ?_ rfl
  simp only [Tryz.ntmps93, List.size_toArray, List.length_cons, List.length_nil, Nat.reduceAdd, Nat.reduceSub, Array.replicate_succ, Array.replicate_zero, List.push_toArray, List.append_toArray, List.nil_append, List.cons_append]
  gi_wp2_with ((try refine ⟨trivial, ?_⟩); gi_at_call 103; refine (all_in Fence.wide (3 - 1) trivial rfl _ _ _ _).mono ?_; rintro e w' ⟨rfl, rfl⟩)
  generalize hW0 : World.alloc _ _ = W0
  have hK0 : Keeps (fun _ => False) w W0 := by rw [← hW0]; repeat (first | exact Keeps.refl _ _ | refine Keeps.drewN ?_ _ | refine Keeps.drew ?_ | refine Keeps.alloc ?_ _ | refine Keeps.set ?_ (Or.inl (by rfl)) _)
  have hx1 : W0.heap[w.heap.size + 1]? = some (.cells #[.map (some b1)] 98 (0, 0)) := by rw [← hW0]; exact blkAlloc (blkAlloc (blkNew (by simp)) _) _
  have hx2 : W0.heap[w.heap.size + 1 + 1]? = some (.cells #[.map (some b2)] 98 (0, 0)) := by rw [← hW0]; exact blkAlloc (blkNew (by simp)) _
  have hx3 : W0.heap[w.heap.size + 1 + 1 + 1]? = some (.cells #[.int .i64 c.op, .int .i64 c.n, .slice A c.args.length cap] 37 (0, 0)) := by rw [← hW0]; exact blkNew (by simp)
  have hsz0 : W0.heap.size = w.heap.size + 4 := by rw [← hW0]; simp
  clear hW0
  have hb1 := h1.lt
  have hb2 := h2.lt
  refine wpIn_rangeFunc_ownH rfl (by decide) (gf := 110) (lb := #[.pointer (some ⟨w.heap.size + 1 + 1 + 1, 0, none⟩)]) rfl trivial (enters_of Tryz.func110 (by kernel_rfl) rfl)
    (all_stops Fence.wide rfl (3 - 1) trivial trivial rfl W0.heap.size (w.heap.size + 1 + 1 + 1) ok w W0 (fun c => fitC nc nr c = true) fit_args fit_le (Still ok w) (fun _ _ => False) (Foot.still ok w _ (by omega)) (fun W h => h.2) (fun W hb => (Still.refl ok w).keeps (hK0.then_ (Keeps.of_below hb)) (fun _ _ _ h => h)) ⟨(c, A, cap), hc, hf⟩ hx3)
    KpI.trans (fun W l o o' hl hlo ho hw hI => ⟨(Foot.still ok w W0.heap.size (by omega)).pinv W l o o' hl hlo ho hw hI, KpR.ofKeeps (putKeeps W l o') (fun k o2 hk hk2 ho2 => by subst hk; rw [hlo] at hk2; cases hk2; rw [ho] at ho2; cases ho2) (fun k h => .inl h)⟩) (Below.refl _ _) (fun _ => rfl)
    (fun pre W => MapL W b1 (Value.int .i64) Value.bool (markN l1 (pre.map Part.con)) ∧ MapL W b2 (Value.int .i64) Value.bool (markR l2 (pre.map Part.con)) ∧ W.heap[w.heap.size + 1]? = some (.cells #[.map (some b1)] 98 (0, 0)) ∧ W.heap[w.heap.size + 1 + 1]? = some (.cells #[.map (some b2)] 98 (0, 0)) ∧ W0.heap.size ≤ W.heap.size ∧ Keeps (fun i => i = b1 ∨ i = b2) w W)
    (fun _ _ _ => False)
    (fun s X Y row hs hg hr => by
      have hk := keepsGrown hg hr
      exact ⟨hs.1.keep hk (by omega), hs.2.1.keep hk (by omega), hk.blk hs.2.2.1 (by omega), hk.blk hs.2.2.2.1 (by omega), Nat.le_trans hs.2.2.2.2.1 hk.size, hs.2.2.2.2.2.trans hk (fun i hi => .inr (by omega))⟩)
    (fun _ _ _ _ _ hs _ _ => hs)
    ⟨h1.keep hK0 (fun h => h), h2.keep hK0 (fun h => h), hx1, hx2, Nat.le_refl _, hK0.of0⟩
    (fun x a' W => ∃ Bx, W0.heap.size ≤ Bx ∧ W.heap[Bx]? = some (.cells #[.int .i64 x.con.op, .int .i64 x.con.n, .slice x.1.2.1 x.con.args.length x.1.2.2] 37 (0, 0)) ∧ a' = { tmps := #[.agg #[.int .i64 c.op, .int .i64 c.n, .slice A c.args.length cap], .map (some b1), .map (some b2), .pointer (some ⟨w.heap.size, 0, none⟩), .pointer (some ⟨w.heap.size + 1, 0, none⟩), .pointer (some ⟨w.heap.size + 1 + 1, 0, none⟩), .pointer (some ⟨Bx, 0, none⟩), .agg #[.int .i64 c.op, .int .i64 c.n, .slice A c.args.length cap], .func (.func 110) #[] #[.pointer (some ⟨w.heap.size + 1 + 1 + 1, 0, none⟩)], x.val, undef, undef, undef, undef, undef, undef, undef, undef, undef, undef, undef, undef, undef, undef], defers := [] })
    (fun x a' _ X Y row hs hg hr => by
      obtain ⟨Bx, g1, g2, g3⟩ := hs
      exact ⟨Bx, g1, (hg.block Bx (blkLt g2) (fun e => by obtain ⟨_, o, ho, hn⟩ := hr Bx e.symm; rw [g2] at ho; cases ho; cases hn)).trans g2, g3⟩)
    ?assign ?body ?done ?stop
  case assign =>
    rintro l pre ⟨⟨d, A', cap'⟩, hd, hfd⟩ W K ⟨m1, m2, e1, e2, hs, hkw⟩ hK
    simp only [Part.val] at hK ⊢
    gi_wp2
    have hkk := (Keeps.refl (fun _ => False) W).alloc (.cells #[.int .i64 d.op, .int .i64 d.n, .slice A' d.args.length cap'] 37)
    exact hK _ _ ((KeepsOthers.alloc _ _).from _) (fun hI => ⟨hI.keeps hkk (fun _ _ _ h => h), KpR.ofKeeps hkk (fun _ _ h _ _ => h.elim) (fun k h => .inl h)⟩) ⟨m1.keep hkk (fun h => h), m2.keep hkk (fun h => h), hkk.blk e1 (fun h => h), hkk.blk e2 (fun h => h), Nat.le_trans hs hkk.size, hkw.then_ hkk.of0⟩ ⟨W.heap.size, hs, blkNew rfl, rfl⟩
  case body =>
    rintro l pre x a' W hl hr ⟨m1, m2, e1, e2, hs, hkw⟩ ⟨Bx, hBx, hB, rfl⟩ hlt
    rw [show x.val = .agg #[.int .i64 x.con.op, .int .i64 x.con.n, .slice x.1.2.1 x.con.args.length x.1.2.2] from rfl]
    obtain ⟨y0, y1, y2⟩ := cells3 hB
    have z1 := cells1 e1
    have z2 := cells1 e2
    have hn0 : x.con.op = 6 ∨ x.con.op = 7 → 0 ≤ x.con.n := by
      have hfd : fitC nc nr x.con = true := x.2.2
      intro h
      generalize x.con = d at *
      obtain ⟨op, n, args⟩ := d
      simp only [fitC, Bool.and_eq_true, nodeOk, Con.op, Con.n] at hfd h ⊢
      have := hfd.1.2
      split at this
      · omega
      · simp at this; omega
    have HI : ∀ W', Keeps (fun i => i = b1 ∨ i = b2) W W' → MapL W' b1 (Value.int .i64) Value.bool (markN l1 (pre.map Part.con ++ [x.con])) → MapL W' b2 (Value.int .i64) Value.bool (markR l2 (pre.map Part.con ++ [x.con])) →
        KeepsFrom W0.heap.size W W' ∧ KpI (Still ok w) (fun _ _ => False) W W' ∧ (MapL W' b1 (Value.int .i64) Value.bool (markN l1 ((pre ++ [x]).map Part.con)) ∧ MapL W' b2 (Value.int .i64) Value.bool (markR l2 ((pre ++ [x]).map Part.con)) ∧ W'.heap[w.heap.size + 1]? = some (.cells #[.map (some b1)] 98 (0, 0)) ∧ W'.heap[w.heap.size + 1 + 1]? = some (.cells #[.map (some b2)] 98 (0, 0)) ∧ W0.heap.size ≤ W'.heap.size ∧ Keeps (fun i => i = b1 ∨ i = b2) w W') := fun W' hk g1 g2 =>
      ⟨KeepsFrom.ofKeeps hk (fun k o hS _ _ => by rcases hS with rfl | rfl <;> omega),
        fun hI => ⟨hI.keeps hk (fun k ho _ hS => by have := hok k ho; rcases hS with h | h; exact this.1 h; exact this.2 h), KpR.ofKeeps hk (fun k o hS hk2 ho2 => by rcases hS with rfl | rfl; (have := m1.nocells hk2; rw [this] at ho2; cases ho2); (have := m2.nocells hk2; rw [this] at ho2; cases ho2)) (fun k h => .inl h)⟩,
        by simpa using g1, by simpa using g2, hk.blk e1 (by omega), hk.blk e2 (by omega), Nat.le_trans hs hk.size, hkw.then_ hk⟩
    have hM1 := Lib.hid (markN_snoc l1 (pre.map Part.con) x.con)
    have hM2 := Lib.hid (markR_snoc l2 (pre.map Part.con) x.con)
    have M1 := Lib.hid m1
    have M2 := Lib.hid m2
    have HII := Lib.hid HI
    have HSZ := Lib.hid hsz0
    clear m1 m2 e1 e2 hs HI hB hlt hsz0
    generalize x.con.op = op at *
    generalize x.con.n = dn at *
    by_cases h0 : op = 0
    · subst h0
      gi_wp2_with (gi_at_mapUpdate; refine wp_putIn rfl _ _ _ 98 rfl 4 (keyInt Tryz.underlying3) Tryz.underlying98 b1 _ M1.out rfl dn true rfl rfl ?_; intro w5 hm5 hk5 hz5)
      refine HII.out _ (hk5.sub (fun i hi => .inl hi)) (by rw [hM1.out, if_pos trivial]; exact hm5) (by rw [hM2.out, if_neg (by omega)]; exact M2.out.keep hk5 (fun e => hne e.symm))
    · by_cases h67 : op = 6 ∨ op = 7
      · have hn1 := hn0 h67
        rw [if_neg h0] at hM1
        rw [if_pos h67] at hM2
        rcases h67 with rfl | rfl
        all_goals
          gi_wp2_with (gi_at_mapUpdate; refine wp_putIn rfl _ _ _ 98 rfl 4 (keyInt Tryz.underlying3) Tryz.underlying98 b2 _ M2.out rfl _ true rfl rfl ?_; intro w5 hm5 hk5 hz5)
          exact HII.out _ (hk5.sub (fun i hi => .inr hi)) (by rw [hM1.out]; exact M1.out.keep hk5 hne) (by rw [hM2.out]; exact hm5)
      · rw [if_neg h0] at hM1
        rw [if_neg h67] at hM2
        have h6 : (op == 6) = false := by simp; omega
        have h7 : (op == 7) = false := by simp; omega
        have h00 : (op == 0) = false := by simpa using h0
        gi_wp2
        exact HII.out _ (Keeps.refl _ _) (by rw [hM1.out]; exact M1.out) (by rw [hM2.out]; exact M2.out)
  case done =>
    rintro D xs W hD hxs ⟨m1, m2, e1, e2, hs, hkw⟩ hK
    gi_wp2
    have hxs' : xs.map Part.con = preC c := hxs
    rw [hxs'] at m1 m2
    refine ⟨by simp, .inl ⟨_, _, rfl, run_takeDeferred hK, ?_⟩⟩
    exact ⟨_, results_none rfl _ _ _, ⟨_, rfl⟩, m1.keep (putKeeps W D _) (by omega), m2.keep (putKeeps W D _) (by omega), hkw.trans (putKeeps W D _) (fun i hi => .inr (by omega))⟩
  case stop =>
    rintro D c pre W _ _ h _
    exact h.elim
theorem markN_len (m : List (Int × Bool)) (cs : List Con) : (markN m cs).length ≤ m.length + cs.length := by
  induction cs generalizing m with
  | nil => simp [markN]
  | cons c r ih =>
    have h1 := ih (if c.op = 0 then putL m c.n true else m)
    have h2 := putL_len m c.n true
    have e : markN m (c :: r) = markN (if c.op = 0 then putL m c.n true else m) r := rfl
    rw [e]
    simp only [List.length_cons]
    split at h1 <;> split <;> omega
theorem markN_key {m : List (Int × Bool)} {cs : List Con} {y : Int} (h : y ∈ (markN m cs).map (·.1)) : y ∈ m.map (·.1) ∨ ∃ c ∈ cs, c.op = 0 ∧ c.n = y := by
  induction cs generalizing m with
  | nil => exact .inl h
  | cons c r ih =>
    have e : markN m (c :: r) = markN (if c.op = 0 then putL m c.n true else m) r := rfl
    rw [e] at h
    rcases ih h with h1 | ⟨d, hd, h2⟩
    · split at h1
      · rename_i h0
        rcases putL_key h1 with rfl | h3
        · exact .inr ⟨c, List.mem_cons_self, h0, rfl⟩
        · exact .inl h3
      · exact .inl h1
    · exact .inr ⟨d, List.mem_cons_of_mem _ hd, h2⟩
end Go.Proofs.YthiclhbnggehoaaGreatDoor
