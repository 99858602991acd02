/- The reference's collect. -/
import Derived.Test.YtoafelppnagpbaaGreatDoorRPlace
import Derived.Test.YtoafelppnagpbaaGreatDoorR1
import Derived.Test.YtoafelppnagpbaaGreatDoorFit
import Derived.Test.YtoafelppnagpbaaGreatDoorQuant
import Derived.Test.YtoafelppnagpbaaGreatDoorReads
import Derived.Test.YtoafelppnagpbaaGreatDoorSpaceC
namespace Go.Proofs.YtoafelppnagpbaaGreatDoor
open Go.RowKit
set_option linter.unusedVariables false
set_option linter.unusedSimpArgs false
def addMark (c : Con) (out : List Con) : List Con := if (c.op = 6 ∨ c.op = 7) ∧ placeZ out (quantC c) < 0 then out ++ [quantC c] else out
mutual
def collectC : Con → List Con → List Con
  | ⟨op, n, args⟩, out => collectL args (addMark ⟨op, n, args⟩ out)
def collectL : List Con → List Con → List Con
  | [], out => out
  | c :: r, out => collectL r (collectC c out)
end
theorem collectL_drop {l : List Con} {k : Nat} (h : k < l.length) (out : List Con) : collectL (l.drop k) out = collectL (l.drop (k + 1)) (collectC l[k] out) := by
  rw [List.drop_eq_getElem_cons h]; simp only [collectL]
theorem addMark_len (c : Con) (out : List Con) : (addMark c out).length ≤ out.length + 1 := by
  unfold addMark; split <;> simp
mutual
theorem collectC_len : ∀ (c : Con) (out : List Con), (collectC c out).length ≤ out.length + c.size
  | ⟨op, n, args⟩, out => by
    have h1 := collectL_len args (addMark ⟨op, n, args⟩ out)
    have h2 := addMark_len ⟨op, n, args⟩ out
    simp only [collectC, Con.size]; omega
theorem collectL_len : ∀ (l : List Con) (out : List Con), (collectL l out).length ≤ out.length + Con.sizes l
  | [], out => by simp [collectL]
  | c :: r, out => by
    have h1 := collectL_len r (collectC c out)
    have h2 := collectC_len c out
    simp only [collectL, Con.sizes]; omega
end
theorem OwnCons.lt {w : World} {base : Nat} {v : Value} {l : List Con} (h : OwnCons w base v l) (b : Nat) (hb : v.ownBlock = some b) : base ≤ b ∧ b < w.heap.size := by
  obtain ⟨cells, h1, _⟩ := h
  exact h1.lt b hb
/-- A row of the call's own that has grown. -/
structure AccI (base : Nat) (v0 : Value) (w0 : World) (l : List Con) (v : Value) (w : World) : Prop where
  own : OwnCons w base v l
  keep : Keeps (fun k => v0.ownBlock = some k) w0 w
  at_ : v.ownBlock = v0.ownBlock ∨ ∃ g, v.ownBlock = some g ∧ w0.heap.size ≤ g
theorem AccI.trans {base : Nat} {v0 v1 v2 : Value} {w0 w1 w2 : World} {l1 l2 : List Con} (h : AccI base v0 w0 l1 v1 w1) (k : AccI base v1 w1 l2 v2 w2) : AccI base v0 w0 l2 v2 w2 where
  own := k.own
  keep := h.keep.trans k.keep (fun i hi => by
    rcases h.at_ with e | ⟨g, e, hg⟩
    · exact .inl (by rw [← e]; exact hi)
    · rw [e] at hi; cases hi; exact .inr hg)
  at_ := by
    have := h.keep.size
    rcases k.at_ with e | ⟨g, e, hg⟩
    · rcases h.at_ with e' | ⟨g, e', hg⟩
      · exact .inl (e.trans e')
      · exact .inr ⟨g, e.trans e', hg⟩
    · exact .inr ⟨g, e, by omega⟩
theorem AccI.still {base : Nat} {v : Value} {w0 w : World} {l : List Con} (h : OwnCons w0 base v l) (hk : Keeps (fun _ => False) w0 w) : AccI base v w0 l v w := ⟨h.keep hk (fun _ _ h => h), hk.of0, .inl rfl⟩
theorem AccI.more {base : Nat} {v0 v : Value} {w0 w w' : World} {l : List Con} (h : AccI base v0 w0 l v w) (hk : Keeps (fun _ => False) w w') : AccI base v0 w0 l v w' := h.trans (AccI.still h.own hk)
theorem AccI.ok {base : Nat} {v0 v : Value} {w0 w : World} {l : List Con} (h : AccI base v0 w0 l v w) {ok : Nat → Prop} (hok : ∀ k, ok k → base ≤ k ∧ v0.ownBlock ≠ some k) : ∀ k, ok k ∧ k < w0.heap.size → base ≤ k ∧ v.ownBlock ≠ some k := fun k hk =>
  ⟨(hok k hk.1).1, fun e => by
    rcases h.at_ with e' | ⟨g, e', hg⟩
    · exact (hok k hk.1).2 (e' ▸ e)
    · rw [e'] at e; cases e; have := hk.2; omega⟩
set_option maxRecDepth 100000 in
set_option maxHeartbeats 4000000 in
theorem collectR_calls (base : Nat) (N : Nat) : ∀ (c : Con) (A : Option Addr) (cap : Nat) (ok : Nat → Prop) (v : Value) (l : List Con) (w : World), c.size < N → shapeC c = true → c.size ≤ 40000 → l.length + c.size ≤ 100000 → base ≤ w.heap.size → ConR ok w c [.int .i64 c.op, .int .i64 c.n, .slice A c.args.length cap] →
    (∀ k, ok k → base ≤ k ∧ v.ownBlock ≠ some k) → OwnCons w base v l → Calls Tryz.prog 39 #[.agg #[.int .i64 c.op, .int .i64 c.n, .slice A c.args.length cap], v] w fun e w' => ∃ v', e = .returned v' ∧ AccI base v w (collectC c l) v' w' := by
  induction N with
  | zero => intro c _ _ _ _ _ _ h; exact absurd h (Nat.not_lt_zero _)
  | succ N ih =>
  intro c A cap ok v l w hN hsh hs hll hbw hc hok hown
  have IH := Lib.hid @ih
  have HC := Lib.hid hc
  have HSH := Lib.hid hsh
  have HOK := Lib.hid hok
  have HOW := Lib.hid hown
  clear ih hc hsh hok hown
  have hqs := size_quant c
  have HMK := Lib.hid (fun (W : World) (hop : c.op = 6 ∨ c.op = 7) (hk : Keeps (fun _ => False) w W) => markR_calls c A cap (fun k => ok k ∧ k < w.heap.size) W HSH.out hop (HC.out.lim.keep hk (fun _ _ h => h)))
  have HPL : Hid (∀ W (m : Con) (A2 : Option Addr) (cap2 : Nat) (ok2 : Nat → Prop), Keeps (fun _ => False) w W → m.size ≤ 100000 → ConR ok2 W m [.int .i64 m.op, .int .i64 m.n, .slice A2 m.args.length cap2] → Calls Tryz.prog 41 #[v, .agg #[.int .i64 m.op, .int .i64 m.n, .slice A2 m.args.length cap2]] W fun e w' => e = .returned (.int .i64 (placeZ l m)) ∧ Keeps (fun _ => False) W w') := fun W m A2 cap2 ok2 hk hm hc2 => by
    obtain ⟨AL, capL, rfl, _, hca⟩ := HOW.out.consAt
    exact placeR_calls l m AL capL A2 cap2 ok2 _ W hm (by omega) (hca.keep hk (fun _ _ h => h)) hc2
  obtain ⟨op, n, args⟩ := c
  have HV : Hid (collectC ⟨op, n, args⟩ l = collectL (args.drop 0) (addMark ⟨op, n, args⟩ l)) := by unfold Hid; simp only [collectC, List.drop_zero]
  have HAM : Hid (addMark ⟨op, n, args⟩ l = if (op = 6 ∨ op = 7) ∧ placeZ l (quantC ⟨op, n, args⟩) < 0 then l ++ [quantC ⟨op, n, args⟩] else l) := by unfold Hid; rfl
  have hlen := addMark_len ⟨op, n, args⟩ l
  simp only [show ∀ o n a, (Con.mk o n a).op = o from fun _ _ _ => rfl, show ∀ o n a, (Con.mk o n a).n = n from fun _ _ _ => rfl, show ∀ o n a, (Con.mk o n a).args = a from fun _ _ _ => rfl] at HC HMK ⊢
  have hsz : (Con.mk op n args).size = Con.sizes args + 1 := by simp [Con.size]
  have HCA := Lib.hid (conArgs HC.out).lim
  have HSL : Hid (shapeL args = true) := by have h := HSH.out; unfold Hid; simp only [shapeC, Bool.and_eq_true] at h; exact h.2
  rw [hsz] at hN hs hll hqs
  generalize addMark ⟨op, n, args⟩ l = am at *
  generalize collectC ⟨op, n, args⟩ l = rv at *
  generalize quantC ⟨op, n, args⟩ = qc at *
  have hal := sameLen args
  clear hsz HSH
  obtain ⟨qb, hqb⟩ : ∃ qb : Bool, (decide (op = 6) || decide (op = 7)) = qb := ⟨_, rfl⟩
  have HQ : Hid (∀ W, Calls Tryz.prog 42 #[.int .i64 op] W fun e w' => e = .returned (.bool qb) ∧ w' = W) := fun W => by have := quantified_calls op W; rwa [hqb] at this
  go_enter Tryz.func39, Tryz.ntmps39
  go_wp2_with fail
  generalize hW0 : World.alloc _ _ = W0
  have hK0 : Keeps (fun _ => False) w W0 := by rw [← hW0]; repeat (first | exact Keeps.refl _ _ | refine Keeps.drewN ?_ _ | refine Keeps.drew ?_ | refine Keeps.alloc ?_ _ | refine Keeps.set ?_ (Or.inl (by rfl)) _)
  have hb0 : W0.heap[w.heap.size]? = some (.cells #[.int .i64 op, .int .i64 n, .slice A args.length cap] 39 (0, 0)) := by rw [← hW0]; exact blkNew rfl
  have hsz0 : W0.heap.size = w.heap.size + 1 := by rw [← hW0]; simp
  clear hW0
  have HB0 := Lib.hid hb0
  have HS0 := Lib.hid hsz0
  have HBV : Hid (v.ownBlock ≠ some w.heap.size) := fun e => by have := (HOW.out.lt _ e).2; omega
  clear hb0 hsz0
  refine (HQ.out W0).mono ?_
  clear HQ
  rintro e w1 ⟨rfl, hw1⟩
  subst hw1
  have HK1 := Lib.hid hK0
  clear hK0
  cases qb
  case' false =>
    have HA2 : Hid (am = l) := by unfold Hid; rw [HAM.out, if_neg]; intro h; have := h.1; simp only [Bool.or_eq_false_iff, decide_eq_false_iff_not] at hqb; omega
    have HACC : Hid (AccI base v w am v w1) := by unfold Hid; rw [HA2.out]; exact AccI.still HOW.out HK1.out
    obtain ⟨x0, x1, x2⟩ := cells3 HB0.out
    have hbl := blkLt HB0.out
    clear HA2 HMK HPL HAM
    go_wp2_with fail
  case' true =>
    have hop : op = 6 ∨ op = 7 := by simpa using hqb
    have HM1 := Lib.hid (HMK.out w1 hop HK1.out)
    unfold RetMk at HM1
    obtain ⟨x0, x1, x2⟩ := cells3 HB0.out
    have hbl := blkLt HB0.out
    go_wp2_with fail
    refine HM1.out.mono ?_
    clear HM1 x0 x1 x2 hbl
    rintro e w2 ⟨A2, cap2, rfl, hm2, hk2⟩
    have HM2 := Lib.hid hm2
    have HB2 := Lib.hid (hk2.blk HB0.out (fun h => h))
    have HK2 := Lib.hid (HK1.out.then_ hk2)
    have hz2 := hk2.size
    clear hm2 hk2
    go_wp2_with fail
    generalize hW3 : World.alloc _ _ = W3
    have hK3 : Keeps (fun _ => False) w2 W3 := by rw [← hW3]; repeat (first | exact Keeps.refl _ _ | refine Keeps.drewN ?_ _ | refine Keeps.drew ?_ | refine Keeps.alloc ?_ _ | refine Keeps.set ?_ (Or.inl (by rfl)) _)
    have hb3 : W3.heap[w2.heap.size]? = some (.cells #[.int .i64 qc.op, .int .i64 qc.n, .slice A2 qc.args.length cap2] 39 (0, 0)) := by rw [← hW3]; exact blkNew rfl
    clear hW3
    refine (HPL.out W3 qc A2 cap2 _ (HK2.out.then_ hK3) (by omega) (HM2.out.keep hK3 (fun _ _ h => h))).mono ?_
    rintro e w4 ⟨rfl, hk4⟩
    have HK4 := Lib.hid ((HK2.out.then_ hK3).then_ hk4)
    have HB4 := Lib.hid (hk4.blk (hK3.blk HB2.out (fun h => h)) (fun h => h))
    have HM4 := Lib.hid ((HM2.out.keep hK3 (fun _ _ h => h)).keep hk4 (fun _ _ h => h))
    have hb4 := hk4.blk hb3 (fun h => h)
    obtain ⟨y0, y1, y2⟩ := cells3 hb4
    have hbl4 := blkLt hb4
    generalize hpz : placeZ l qc = pz at *
    clear hb3 hb4 hk4 hK3 HM2 HB2 HK2
    by_cases hp : pz < 0
    case' pos =>
      have HA2 : Hid (am = l ++ [qc]) := by unfold Hid; rw [HAM.out, if_pos ⟨hop, hp⟩]
      have hpd : decide (pz < 0) = true := decide_eq_true hp
      obtain ⟨cells, hcl, _⟩ := HOW.out
      have HCL := Lib.hid hcl
      clear hcl
      go_wp2_with (at_builtin; refine wp_app1 rfl _ _ 31 31 rfl base 39 _ 3 40 Tryz.underlying31 infoCon rfl (by decide) (by decide) v l.length cells (ownsKeep (S := fun _ => False) HCL.out (HK4.out.then_ (by repeat (first | exact Keeps.refl _ _ | refine Keeps.drewN ?_ _ | refine Keeps.drew ?_ | refine Keeps.alloc ?_ _ | refine Keeps.set ?_ (Or.inl (by rfl)) _))) (fun _ _ h => h)) rfl _ 1 [.int .i64 qc.op, .int .i64 qc.n, .slice A2 qc.args.length cap2] (Src.ofBlock Tryz.underlying31 (cs := #[.int .i64 qc.op, .int .i64 qc.n, .slice A2 qc.args.length cap2]) (blkNew (by simp)) rfl (by simp [Value.oneCell'])) rfl (by decide) (by omega) (by have := HK4.out.size; simp; omega) ?_; intro g5 cap6 w6 ho6 hk6 hat6 hcap6 hlt6; have hb6 := hk6.blk (g := w.heap.size) (blkAlloc HB4.out _) (fun h => HBV.out h); obtain ⟨q0, q1, q2⟩ := cells3 hb6; have hbl6 := blkLt hb6)
      have HACC : Hid (AccI base v w am (.slice (some ⟨g5, 0, none⟩) (l.length + 1) cap6) w6) := by
        unfold Hid; rw [HA2.out]
        have hka : Keeps (fun _ => False) w _ := HK4.out.alloc (.cells #[.int .i64 qc.op, .int .i64 qc.n, .slice A2 qc.args.length cap2] 39)
        refine ⟨(HOW.out.keep hka (fun _ _ h => h)).app (ownsKeep HCL.out hka (fun _ _ h => h)) (c := qc) ((HM4.out.keep ((Keeps.refl (fun _ => False) w4).alloc _) (fun _ _ h => h)).mono (fun i hi => ?_)) ho6 hk6 hat6, hka.of0.then_ hk6, ?_⟩
        · rcases hi with hi | hi
          · exact HOK.out i hi.1
          · exact ⟨by have := HS0.out; omega, fun e => by have := (HOW.out.lt _ e).2; have := HS0.out; omega⟩
        · rcases hat6 with e | e
          · exact .inl (by rw [e]; simp [Value.ownBlock])
          · exact .inr ⟨g5, by simp [Value.ownBlock], by rw [e]; exact hka.size⟩
      clear HA2 HMK HPL HAM
    case' neg =>
      have HA2 : Hid (am = l) := by unfold Hid; rw [HAM.out, if_neg]; intro h; exact hp h.2
      have hpd : decide (pz < 0) = false := decide_eq_false hp
      have HACC : Hid (AccI base v w am v w4) := by unfold Hid; rw [HA2.out]; exact AccI.still HOW.out HK4.out
      obtain ⟨x0, x1, x2⟩ := cells3 HB4.out
      have hbl := blkLt HB4.out
      clear HA2 HMK HPL HAM
      go_wp2_with fail
  all_goals
    have hsd : am.length + Con.sizes (args.drop 0) ≤ 100000 := by rw [List.drop_zero]; omega
    go_loopw [1, 24] (fun v1 i wr => ∃ (k : Nat) (acc : List Con), k ≤ args.length ∧ i = .int .i64 k ∧ Hid (rv = collectL (args.drop k) acc) ∧ acc.length + Con.sizes (args.drop k) ≤ 100000 ∧ Hid (AccI base v w acc v1 wr)) (fun _ i _ => args.length - (intOf i).toNat)
    case atStart => exact ⟨0, am, Nat.zero_le _, rfl, HV, hsd, HACC⟩
    case round =>
      obtain ⟨k, acc, hk, rfl, HI, hsz, HA⟩ := hrel
      by_cases hlt : k < args.length
      · obtain ⟨bb, o, A', cap', rfl, hob, hbl', e0, e1, e2, hd⟩ := (HCA.out.keep HA.out.keep (fun j hj e => (HOK.out j hj.1).2 e)).nth k hlt
        have HST := Lib.hid (collectL_drop hlt acc)
        have i1 : (k : Int) < args.length := by omega
        have hsn := Con.size_at k hlt
        have hshk := Lib.hid (shapeL_at HSL.out k hlt)
        have hsdk : Con.sizes (args.drop k) = args[k].size + Con.sizes (args.drop (k + 1)) := by rw [List.drop_eq_getElem_cons hlt]; simp only [Con.sizes]
        have hcl := collectC_len args[k] acc
        have hwr : w.heap.size ≤ wr.heap.size := HA.out.keep.size
        generalize args[k] = d at *
        have HCALL := Lib.hid (fun W (hkw : Keeps (fun _ => False) wr W) => IH.out d A' cap' (fun j => ok j ∧ j < w.heap.size) u1 acc W (by omega) hshk.out (by omega) (by omega) (by have := hkw.size; omega) (hd.keep hkw (fun _ _ h => h)) (HA.out.ok HOK.out) (HA.out.own.keep hkw (fun _ _ h => h)))
        clear hd
        generalize collectC d acc = acc2 at *
        go_wp2_with fail
        generalize hW4 : World.alloc _ _ = W4
        have hK4 : Keeps (fun _ => False) wr W4 := by rw [← hW4]; repeat (first | exact Keeps.refl _ _ | refine Keeps.drewN ?_ _ | refine Keeps.drew ?_ | refine Keeps.alloc ?_ _ | refine Keeps.set ?_ (Or.inl (by rfl)) _)
        clear hW4
        refine (HCALL.out W4 hK4).mono ?_
        clear HCALL
        rintro e w5 ⟨v5, rfl, hacc⟩
        have HN := Lib.hid ((HA.out.more hK4).trans hacc)
        clear hacc
        go_wp2_with fail
        go_roundw
        case rel => exact ⟨k + 1, acc2, by omega, by go_num, by unfold Hid; rw [HI.out, HST.out], by omega, HN⟩
        case measure => simp [intOf]; omega
      · obtain rfl : k = args.length := by omega
        have HO : Hid (rv = acc) := by unfold Hid; rw [HI.out, List.drop_length]; simp only [collectL]
        go_wp2_with fail
        go_ret
        exact ⟨u1, rfl, by rw [HO.out]; exact HA.out⟩
end Go.Proofs.YtoafelppnagpbaaGreatDoor
/- The reference's Clauses. -/
namespace Go.Proofs.YtoafelppnagpbaaGreatDoor
open Go.RowKit
set_option linter.unusedVariables false
set_option linter.unusedSimpArgs false
theorem cells6c {w : World} {g : Nat} {t : TypeId} {fz : Nat × Nat} {v0 v1 v2 v3 v4 v5 : Value} (h : w.heap[g]? = some (.cells #[v0, v1, v2, v3, v4, v5] t fz)) : w.cell? ⟨g, 0, none⟩ = some v0 ∧ w.cell? ⟨g, 1, none⟩ = some v1 ∧ w.cell? ⟨g, 2, none⟩ = some v2 ∧ w.cell? ⟨g, 3, none⟩ = some v3 ∧ w.cell? ⟨g, 4, none⟩ = some v4 ∧ w.cell? ⟨g, 5, none⟩ = some v5 :=
  ⟨by rw [blkCell h]; rfl, by rw [blkCell h]; rfl, by rw [blkCell h]; rfl, by rw [blkCell h]; rfl, by rw [blkCell h]; rfl, by rw [blkCell h]; rfl⟩
set_option maxRecDepth 100000 in
set_option maxHeartbeats 4000000 in
theorem clauses_calls (b : Kb) (p : KbA) (ok : Nat → Prop) (w : World) (hb : KbR ok w b p) (hli : b.incls.length ≤ 1000) (hf : ∀ x ∈ b.incls, shapeC x.1 = true ∧ shapeC x.2 = true) :
    Calls Tryz.prog 38 #[.agg #[.slice p.a0 b.cs.length p.c0, .slice p.a1 b.rs.length p.c1, .slice p.a2 b.is.length p.c2, .slice p.a3 b.incls.length p.c3, .slice p.a4 b.roles.length p.c4, .slice p.a5 b.facts.length p.c5, .slice p.a6 b.links.length p.c6]] w fun e w' => ∃ v, e = .returned v ∧ OwnCons w' w.heap.size v (b.incls.map eitherC) ∧ Keeps (fun _ => False) w w' := by
  obtain ⟨a0, a1, a2, a3, a4, a5, a6, c0, c1, c2, c3, c4, c5, c6⟩ := p
  have HIN := Lib.hid hb.lim.incls
  have HF := Lib.hid hf
  dsimp only at HIN ⊢
  clear hb hf
  go_enter Tryz.func38, Tryz.ntmps38
  go_wp2_with fail
  generalize hW0 : World.alloc _ _ = W0
  have hK0 : Keeps (fun _ => False) w W0 := by rw [← hW0]; repeat (first | exact Keeps.refl _ _ | refine Keeps.drewN ?_ _ | refine Keeps.drew ?_ | refine Keeps.alloc ?_ _ | refine Keeps.set ?_ (Or.inl (by rfl)) _)
  have hB0 : W0.heap[w.heap.size]? = some (.cells #[.slice a0 b.cs.length c0, .slice a1 b.rs.length c1, .slice a2 b.is.length c2, .slice a3 b.incls.length c3, .slice a4 b.roles.length c4, .slice a5 b.facts.length c5, .slice a6 b.links.length c6] 30 (0, 0)) := by rw [← hW0]; exact blkNew rfl
  have hz0 : w.heap.size ≤ W0.heap.size := hK0.size
  clear hW0
  go_loopw [3, 9] (fun v i wr => ∃ (k : Nat), k ≤ b.incls.length ∧ i = .int .i64 k ∧ Hid (OwnCons wr w.heap.size v ((b.incls.take k).map eitherC)) ∧ Hid (Keeps (fun _ => False) w wr)) (fun _ i _ => b.incls.length - (intOf i).toNat)
  case atStart => exact ⟨0, Nat.zero_le _, rfl, OwnCons.nil _ _, hK0⟩
  case round =>
    obtain ⟨k, hk, rfl, HO, HK⟩ := hrel
    by_cases hlt : k < b.incls.length
    · obtain ⟨bb, o, rfl, hob, hc⟩ := (HIN.out.keep HK.out (fun _ _ h => h)) (by intro h; rw [h] at hlt; simp at hlt)
      obtain ⟨A1, d1, A2, d2, e0, e1, e2, e3, e4, e5, h1, h2⟩ := hc k hlt
      have hbl := World.block_lt_of_cell? wr _ e0
      simp only at hbl
      have HMAP : Hid ((b.incls.take (k + 1)).map eitherC = (b.incls.take k).map eitherC ++ [⟨5, 0, [nnfC b.incls[k].1 true, nnfC b.incls[k].2 false]⟩]) := by unfold Hid; rw [List.take_succ_eq_append_getElem hlt, List.map_append]; rfl
      have hsh := HF.out _ (List.getElem_mem hlt)
      have HLEN : Hid (((b.incls.take k).map eitherC).length ≤ 1000) := by unfold Hid; simp; omega
      obtain ⟨lq, hlq⟩ : ∃ lq, lq = (b.incls.take k).map eitherC := ⟨_, rfl⟩
      rw [← hlq] at HO HMAP HLEN
      clear hlq
      have HC1 := Lib.hid (fun W (hkw : Keeps (fun _ => False) wr W) => form_calls (b.incls[k].1.size + 1) b.incls[k].1 true A1 d1 _ W (by omega) hsh.1 (h1.keep hkw (fun _ _ h => h)))
      have HC2 := Lib.hid (fun W (hkw : Keeps (fun _ => False) wr W) => form_calls (b.incls[k].2.size + 1) b.incls[k].2 false A2 d2 _ W (by omega) hsh.2 (h2.keep hkw (fun _ _ h => h)))
      generalize nnfC b.incls[k].1 true = r1 at *
      generalize nnfC b.incls[k].2 false = r2 at *
      generalize b.incls[k].1 = x at *
      generalize b.incls[k].2 = y at *
      obtain ⟨cells, hcl, _⟩ := HO.out
      have HOW := Lib.hid hcl
      clear hc h1 h2 hsh hcl
      go_wp2_with fail
      generalize hW4 : World.alloc _ _ = W4
      have hK4 : Keeps (fun _ => False) wr W4 := by rw [← hW4]; repeat (first | exact Keeps.refl _ _ | refine Keeps.drewN ?_ _ | refine Keeps.drew ?_ | refine Keeps.alloc ?_ _ | refine Keeps.set ?_ (Or.inl (by rfl)) _)
      have hb4 : W4.heap[wr.heap.size]? = some (.cells #[.int .i64 x.op, .int .i64 x.n, .slice A1 x.args.length d1, .int .i64 y.op, .int .i64 y.n, .slice A2 y.args.length d2] 70 (0, 0)) := by rw [← hW4]; exact blkNew rfl
      clear hW4
      have HB4 := Lib.hid hb4
      have HK4 := Lib.hid hK4
      clear hb4 hK4 e0 e1 e2 e3 e4 e5
      generalize hgx : wr.heap.size = gx at *
      obtain ⟨p40, p41, p42, p43, p44, p45⟩ := cells6c HB4.out
      have hw4 := blkLt HB4.out
      go_region_law
       (first
        | (refine step_call (by rfl) 14 #[.agg #[.int .i64 x.op, .int .i64 x.n, .slice A1 x.args.length d1], .bool true] (by first | (go_simp; done) | (go_simp; rfl)) ?_; refine (HC1.out _ (by first | exact HK4.out | exact HK4.out.drew | exact HK4.out.drewN _)).mono ?_; rintro e w5 ⟨B1, f1, rfl, hr1, hk5⟩; refine ⟨_, rfl, ?_⟩; have HB5 := Lib.hid (hk5.blk HB4.out (fun h => h)); have HK5 := Lib.hid (HK4.out.drew.then_ hk5); have HR1 := Lib.hid hr1; obtain ⟨p50, p51, p52, p53, p54, p55⟩ := cells6c HB5.out; have hw5 := blkLt HB5.out; clear hr1)
        | (refine step_call (by rfl) 14 #[.agg #[.int .i64 y.op, .int .i64 y.n, .slice A2 y.args.length d2], .bool false] (by first | (go_simp; done) | (go_simp; rfl)) ?_; refine (HC2.out _ HK5.out).mono ?_; rintro e w6 ⟨B2, f2, rfl, hr2, hk6⟩; refine ⟨_, rfl, ?_⟩; have HB6 := Lib.hid (hk6.blk HB5.out (fun h => h)); have HK6 := Lib.hid (HK5.out.then_ hk6); have HR2 := Lib.hid hr2; have HR3 := Lib.hid (HR1.out.keep hk6 (fun _ _ h => h)); clear hr2)
        | (refine step_call (by rfl) 27 #[.int .i64 5, .int .i64 0, .slice (some ⟨w6.heap.size, 0, none⟩) 2 2] (by first | (go_simp; done) | (go_simp; rfl)) ?_; refine (of_calls _ _ _ _ _ _).mono ?_; rintro e w7 ⟨rfl, hk7⟩; refine ⟨_, rfl, ?_⟩; have HB7 := Lib.hid (hk7.blk (blkAlloc HB6.out _) (fun h => h)); have HN7 := Lib.hid (hk7.blk (blkNew (w := w6) rfl) (fun h => h)); have HK7 := Lib.hid ((HK6.out.alloc _).then_ hk7))
        | (refine step_app rfl _ _ 31 31 (by rfl) w.heap.size 39 _ 3 40 Tryz.underlying31 infoCon rfl (by decide) (by decide) u3 lq.length cells (ownsKeep (S := fun _ => False) HOW.out (HK7.out.alloc _) (fun _ _ h => h)) (by rfl) (.slice (some ⟨w7.heap.size, 0, none⟩) 1 1) 1 [.int .i64 5, .int .i64 0, .slice (some ⟨w6.heap.size, 0, none⟩) 2 2] (by exact Src.ofBlock Tryz.underlying31 (cs := #[.int .i64 5, .int .i64 0, .slice (some ⟨w6.heap.size, 0, none⟩) 2 2]) (blkNew (by first | rfl | simp)) (by rfl) (by simp [Value.oneCell'])) (by rfl) (by decide) (by have := HLEN.out; omega) (by have := HK7.out.size; have := HK.out.size; simp; omega) ?_; intro g8 cap8 w8 ho8 hk8 hat8 hcap8 hlt8)
        | fail)
      all_goals
        have hwr := HK.out.size
        have h56 := HK5.out.size
        have h6 := HK6.out.size
        obtain ⟨t0, t1, t2, t3, t4, t5⟩ := cells6c HN7.out
        have hr1' := (HR3.out.keep (((Keeps.refl (fun _ => False) w6).alloc _).then_ hk7) (fun _ _ h => h)).mono (ok' := fun i => wr.heap.size ≤ i) (fun i hi => by have h1 := HK4.out.size; exact Nat.le_trans (by omega) (Nat.le_trans h1 hi))
        have hr2' := (HR2.out.keep (((Keeps.refl (fun _ => False) w6).alloc _).then_ hk7) (fun _ _ h => h)).mono (ok' := fun i => wr.heap.size ≤ i) (fun i hi => by omega)
        have hnode : ConR (fun i => wr.heap.size ≤ i) w7 ⟨5, 0, [r1, r2]⟩ [.int .i64 5, .int .i64 0, .slice (some ⟨w6.heap.size, 0, none⟩) 2 2] := by
          simp only [ConR, ConsR]
          exact ⟨_, 2, rfl, Nat.le_refl _, fun _ => ⟨_, 0, rfl, by omega, ⟨_, _, _, t0, t1, t2, hr1'⟩, ⟨_, _, _, t3, t4, t5, hr2'⟩, trivial⟩⟩
        have hoc := cons_step (W0 := w) HO.out hwr (HK7.out.alloc (.cells #[.int .i64 5, .int .i64 0, .slice (some ⟨w6.heap.size, 0, none⟩) 2 2] 39)) (hnode.keep ((Keeps.refl (fun _ => False) w7).alloc _) (fun _ _ h => h)) (ownsKeep (S := fun _ => False) HOW.out (HK7.out.alloc _) (fun _ _ h => h)) ho8 hk8 hat8 HK.out (Nat.le_refl _)
        have HOC := Lib.hid hoc
        clear hoc hnode hr1' hr2' t0 t1 t2 t3 t4 t5 ho8 hat8
        go_wp2_with fail
        go_roundw
        case rel => exact ⟨k + 1, by omega, by go_num, by unfold Hid; rw [HMAP.out]; exact HOC.out.1, HOC.out.2⟩
        case measure => simp [intOf]; omega
    · obtain rfl : b.incls.length = k := by omega
      go_wp2_with fail
      go_ret
      exact ⟨u3, rfl, by have h := HO.out; rwa [List.take_length] at h, HK.out⟩
end Go.Proofs.YtoafelppnagpbaaGreatDoor
