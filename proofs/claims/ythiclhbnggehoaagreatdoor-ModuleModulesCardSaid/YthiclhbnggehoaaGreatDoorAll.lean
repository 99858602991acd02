/- kb.All: the axioms of a knowledge base, as a row of interface values. -/
import Derived.Test.YthiclhbnggehoaaGreatDoorBase
import Derived.Test.YthiclhbnggehoaaGreatDoorPKb
import Derived.Deep.RegionLaw
namespace Go.Proofs.YthiclhbnggehoaaGreatDoor
open Go.RowKit
set_option linter.unusedVariables false
set_option linter.unusedSimpArgs false
/-- An interface value that holds an axiom. -/
def AxR (ok : Nat → Prop) (w : World) : Ax → Value → Prop
  | .incl c d, v => ∃ A1 c1 A2 c2, v = .iface 162 (.agg #[.int .i64 c.op, .int .i64 c.n, .slice A1 c.args.length c1, .int .i64 d.op, .int .i64 d.n, .slice A2 d.args.length c2]) ∧ ConR ok w c [.int .i64 c.op, .int .i64 c.n, .slice A1 c.args.length c1] ∧ ConR ok w d [.int .i64 d.op, .int .i64 d.n, .slice A2 d.args.length c2]
  | .role r s, v => v = .iface 163 (.agg #[.int .i64 r, .int .i64 s])
  | .fact i c, v => ∃ A1 c1, v = .iface 164 (.agg #[.int .i64 i, .int .i64 c.op, .int .i64 c.n, .slice A1 c.args.length c1]) ∧ ConR ok w c [.int .i64 c.op, .int .i64 c.n, .slice A1 c.args.length c1]
  | .link r f t, v => v = .iface 165 (.agg #[.int .i64 r, .int .i64 f, .int .i64 t])
theorem AxR.keep {ok S : Nat → Prop} {w w' : World} {x : Ax} {v : Value} (h : AxR ok w x v) (hk : Keeps S w w') (hs : ∀ k, ok k → ¬ S k) : AxR ok w' x v := by
  cases x with
  | incl c d => obtain ⟨A1, c1, A2, c2, e, h1, h2⟩ := h; exact ⟨A1, c1, A2, c2, e, h1.keep hk hs, h2.keep hk hs⟩
  | role r s => exact h
  | fact i c => obtain ⟨A1, c1, e, h1⟩ := h; exact ⟨A1, c1, e, h1.keep hk hs⟩
  | link r f t => exact h
/-- A row of such values. -/
def AxsR (ok : Nat → Prop) (w : World) (xs : List Ax) (vals : List Value) : Prop := vals.length = xs.length ∧ ∀ i (h : i < xs.length) (h' : i < vals.length), AxR ok w xs[i] vals[i]
theorem AxsR.keep {ok S : Nat → Prop} {w w' : World} {xs : List Ax} {vals : List Value} (h : AxsR ok w xs vals) (hk : Keeps S w w') (hs : ∀ k, ok k → ¬ S k) : AxsR ok w' xs vals := ⟨h.1, fun i h1 h2 => (h.2 i h1 h2).keep hk hs⟩
theorem AxsR.snoc {ok : Nat → Prop} {w : World} {xs : List Ax} {vals : List Value} (h : AxsR ok w xs vals) {x : Ax} {v : Value} (hx : AxR ok w x v) : AxsR ok w (xs ++ [x]) (vals ++ [v]) := by
  refine ⟨by simp [h.1], fun i h1 h2 => ?_⟩
  have hl := h.1
  by_cases e : i < xs.length
  · rw [List.getElem_append_left e, List.getElem_append_left (by omega)]; exact h.2 i e (by omega)
  · simp only [List.length_append, List.length_singleton] at h1
    obtain rfl : i = xs.length := by omega
    rw [List.getElem_append_right (by omega), List.getElem_append_right (by omega)]
    simpa [hl] using hx
/-- A row of the call's own that holds axioms. -/
def OwnAx (ok : Nat → Prop) (w : World) (base : Nat) (v : Value) (xs : List Ax) : Prop := ∃ vals, w.ownsRow base 149 1 v xs.length vals ∧ AxsR ok w xs vals
theorem OwnAx.nil (ok : Nat → Prop) (w : World) (base : Nat) : OwnAx ok w base (.slice none 0 0) [] := ⟨[], World.ownsRow_nil _ _ _ _, rfl, fun i h => absurd h (Nat.not_lt_zero _)⟩
theorem Keeps.upto {S : Nat → Prop} {a b c : World} (_ : Keeps S b c) (h : Keeps (fun _ => False) a b) : Keeps (fun _ => False) a b := h
theorem infoAx : (Tryz.prog.info? 149).map (fun i => (i.zero, i.size, i.bytes)) = some (some .nilIface, 1, 16) := by kernel_rfl
theorem OwnAx.app {ok : Nat → Prop} {w w' : World} {base g cap : Nat} {v : Value} {xs : List Ax} {vals : List Value} (hx : AxsR ok w xs vals) (hok : ∀ k, ok k → k < base) (hv : ∀ k, v.ownBlock = some k → base ≤ k) {x : Ax} {u : Value} (hu : AxR ok w x u)
    (ho : w'.ownsRow base 149 1 (.slice (some ⟨g, 0, none⟩) (xs.length + 1) cap) (xs.length + 1) (vals ++ [u])) (hk : Keeps (fun k => v.ownBlock = some k) w w') : OwnAx ok w' base (.slice (some ⟨g, 0, none⟩) (xs.length + 1) cap) (xs ++ [x]) :=
  ⟨_, by simpa using ho, ((hx.snoc hu).keep hk (fun k h1 h2 => by have := hok k h1; have := hv k h2; omega))⟩
set_option maxRecDepth 100000 in
set_option maxHeartbeats 4000000 in
theorem all_calls (b : Kb) (p : KbA) (ok : Nat → Prop) (w : World) (hb : KbR ok w b p) (hok : ∀ k, ok k → k < w.heap.size) (hl1 : b.incls.length ≤ 100000) (hl2 : b.roles.length ≤ 100000) (hl3 : b.facts.length ≤ 100000) (hl4 : b.links.length ≤ 100000) :
    Calls Tryz.prog 95 #[.agg #[.slice p.a0 b.cs.length p.c0, .slice p.a1 b.rs.length p.c1, .slice p.a2 b.is.length p.c2, .slice p.a3 b.incls.length p.c3, .slice p.a4 b.roles.length p.c4, .slice p.a5 b.facts.length p.c5, .slice p.a6 b.links.length p.c6]] w fun e w' => ∃ v, e = .returned v ∧ OwnAx ok w' w.heap.size v (axs b) ∧ Keeps (fun _ => False) w w' := by
  have H3 := Lib.hid hb.incls
  have H4 := Lib.hid hb.roles
  have H5 := Lib.hid hb.facts
  have H6 := Lib.hid hb.links
  obtain ⟨I1, hI1⟩ : ∃ I, I = b.incls.map (fun x => Ax.incl x.1 x.2) := ⟨_, rfl⟩
  obtain ⟨I2, hI2⟩ : ∃ I, I = b.roles.map (fun x => Ax.role x.1 x.2) := ⟨_, rfl⟩
  obtain ⟨I3, hI3⟩ : ∃ I, I = b.facts.map (fun x => Ax.fact x.1 x.2) := ⟨_, rfl⟩
  obtain ⟨I4, hI4⟩ : ∃ I, I = b.links.map (fun x => Ax.link x.1 x.2.1 x.2.2) := ⟨_, rfl⟩
  have n1 : I1.length = b.incls.length := by rw [hI1]; simp
  have n2 : I2.length = b.roles.length := by rw [hI2]; simp
  have n3 : I3.length = b.facts.length := by rw [hI3]; simp
  have n4 : I4.length = b.links.length := by rw [hI4]; simp
  have hax : axs b = I1 ++ I2 ++ I3 ++ I4 := by rw [hI1, hI2, hI3, hI4]; rfl
  have HAX := Lib.hid hax
  have e1 : ∀ k (h : k < b.incls.length) (h' : k < I1.length), I1[k] = .incl b.incls[k].1 b.incls[k].2 := by intro k h h'; simp [hI1]
  have e2 : ∀ k (h : k < b.roles.length) (h' : k < I2.length), I2[k] = .role b.roles[k].1 b.roles[k].2 := by intro k h h'; simp [hI2]
  have e3 : ∀ k (h : k < b.facts.length) (h' : k < I3.length), I3[k] = .fact b.facts[k].1 b.facts[k].2 := by intro k h h'; simp [hI3]
  have e4 : ∀ k (h : k < b.links.length) (h' : k < I4.length), I4[k] = .link b.links[k].1 b.links[k].2.1 b.links[k].2.2 := by intro k h h'; simp [hI4]
  have HE1 := Lib.hid e1
  have HE2 := Lib.hid e2
  have HE3 := Lib.hid e3
  have HE4 := Lib.hid e4
  have HN1 := Lib.hid n1
  have HN2 := Lib.hid n2
  have HN3 := Lib.hid n3
  have HN4 := Lib.hid n4
  clear hax hI1 hI2 hI3 hI4 e1 e2 e3 e4 hb n1 n2 n3 n4
  obtain ⟨a0, a1, a2, a3, a4, a5, a6, c0, c1, c2, c3, c4, c5, c6⟩ := p
  simp only at H3 H4 H5 H6 ⊢
  go_enter Tryz.func95, Tryz.ntmps95
  go_wp2_with fail
  generalize hW0 : World.alloc _ _ = W0
  have hK0 : Keeps (fun _ => False) w W0 := by rw [← hW0]; repeat (first | exact Keeps.refl _ _ | refine Keeps.drewN ?_ _ | refine Keeps.drew ?_ | refine Keeps.alloc ?_ _ | refine Keeps.set ?_ (Or.inl (by rfl)) _)
  have hb1 : W0.heap[w.heap.size]? = some (.cells #[.slice a0 b.cs.length c0, .slice a1 b.rs.length c1, .slice a2 b.is.length c2, .slice a3 b.incls.length c3, .slice a4 b.roles.length c4, .slice a5 b.facts.length c5, .slice a6 b.links.length c6] 30 (0, 0)) := by rw [← hW0]; exact blkNew rfl
  clear hW0
  have HK0 := Lib.hid hK0
  have HB1 := Lib.hid hb1
  have hz0 := hK0.size
  clear hK0 hb1
  obtain ⟨y0, y1, y2, y3, y4, y5, y6⟩ := cells7 HB1.out
  go_loopw [3, 15] (fun v i wr => ∃ k : Nat, k ≤ b.incls.length ∧ i = .int .i64 k ∧ Hid (OwnAx ok wr W0.heap.size v (I1.take k)) ∧ Hid (Keeps (fun _ => False) W0 wr)) (fun _ i _ => b.incls.length - (intOf i).toNat)
  case atStart => exact ⟨0, Nat.zero_le _, rfl, OwnAx.nil _ _ _, Keeps.refl _ _⟩
  case round =>
    obtain ⟨k, hk, rfl, HO, HK⟩ := hrel
    have hzr := HK.out.size
    by_cases hlt : k < b.incls.length
    · obtain ⟨bb, o, rfl, hbb, hcl⟩ := (H3.out.keep (HK0.out.then_ HK.out) (fun _ _ h => h)) (by intro h; rw [h] at hlt; simp at hlt)
      obtain ⟨A1, d1, A2, d2, z0, z1, z2, z3, z4, z5, r1, r2⟩ := hcl k hlt
      have HX := Lib.hid (And.intro r1 r2)
      have HE := Lib.hid (HE1.out k hlt (by rw [HN1.out]; exact hlt))
      generalize b.incls[k].1 = c at *
      generalize b.incls[k].2 = d at *
      clear r1 r2 hcl
      have HT := Lib.hid (List.take_succ_eq_append_getElem (l := I1) (i := k) (by rw [HN1.out]; exact hlt))
      obtain ⟨vals, ho, hx⟩ := HO.out
      have hln : (I1.take k).length ≤ 1000000 := by simp only [List.length_append, List.length_take, HN1.out]; omega
      generalize hxs : (I1.take k) = xs at *
      have HXS := Lib.hid hxs
      have HVL := Lib.hid ho.lt
      have HOW := Lib.hid ho
      have HXR := Lib.hid hx
      have i1 : (k : Int) < b.incls.length := by omega
      clear hxs ho hx HO
      go_wp2_with (at_builtin; refine wp_app1 rfl _ _ 146 146 rfl W0.heap.size 149 .nilIface 1 16 Tryz.underlying146 infoAx rfl (by decide) (by decide) u3 xs.length vals (ownsKeep (S := fun _ => False) HOW.out (by repeat (first | exact Keeps.refl _ _ | refine Keeps.drewN ?_ _ | refine Keeps.drew ?_ | refine Keeps.alloc ?_ _ | refine Keeps.set ?_ (Or.inl (by rfl)) _)) (fun _ _ h => h)) rfl _ 1 [.iface 162 (.agg #[.int .i64 c.op, .int .i64 c.n, .slice A1 c.args.length d1, .int .i64 d.op, .int .i64 d.n, .slice A2 d.args.length d2])] (Src.ofBlock Tryz.underlying146 (cs := #[.iface 162 (.agg #[.int .i64 c.op, .int .i64 c.n, .slice A1 c.args.length d1, .int .i64 d.op, .int .i64 d.n, .slice A2 d.args.length d2])]) (blkNew (by first | rfl | simp)) rfl (by simp [Value.oneCell'])) rfl (by decide) (by omega) (by simp; omega) ?_; intro g cap w5 ho hk5 hat hcap hlt5)
      go_roundw
      case rel =>
        have hkk := hk5.upto (a := wr) (by repeat (first | exact Keeps.refl _ _ | refine Keeps.drewN ?_ _ | refine Keeps.drew ?_ | refine Keeps.alloc ?_ _ | refine Keeps.set ?_ (Or.inl (by rfl)) _))
        have hoa := OwnAx.app (ok := ok) (HXR.out.keep hkk (fun _ _ h => h)) (fun k hk => by have := hok k hk; omega) (fun k hk => (HVL.out k hk).1) (x := .incl c d) (by exact ⟨A1, d1, A2, d2, rfl, HX.out.1.keep hkk (fun _ _ h => h), HX.out.2.keep hkk (fun _ _ h => h)⟩) ho hk5
        refine ⟨k + 1, by omega, by go_num, ?_, (HK.out.then_ hkk).trans hk5 (fun i hi => .inr (by have := (HVL.out i hi).1; have := (HVL.out i hi).2; omega))⟩
        unfold Hid
        rw [HT.out, HE.out]
        exact hoa
      case measure => simp [intOf]; omega
    · obtain rfl : b.incls.length = k := by omega
      rw [List.take_of_length_le (Nat.le_of_eq HN1.out)] at HO
      obtain ⟨y0, y1, y2, y3, y4, y5, y6⟩ := cells7 (HK.out.blk HB1.out (fun h => h))
      go_wp2_with fail
      go_loopw [3, 28] (fun v i wr => ∃ k : Nat, k ≤ b.roles.length ∧ i = .int .i64 k ∧ Hid (OwnAx ok wr W0.heap.size v (I1 ++ I2.take k)) ∧ Hid (Keeps (fun _ => False) W0 wr)) (fun _ i _ => b.roles.length - (intOf i).toNat)
      case atStart => exact ⟨0, Nat.zero_le _, rfl, (by rw [List.take_zero, List.append_nil]; exact HO.out), HK.out⟩
      case round =>
        obtain ⟨k, hk, rfl, HO, HK⟩ := hrel
        have hzr := HK.out.size
        by_cases hlt : k < b.roles.length
        · obtain ⟨bb, o, rfl, hbb, hcl⟩ := (H4.out.keep (HK0.out.then_ HK.out) (fun _ _ h => h)) (by intro h; rw [h] at hlt; simp at hlt)
          obtain ⟨z0, z1⟩ := hcl k hlt
          have HE := Lib.hid (HE2.out k hlt (by rw [HN2.out]; exact hlt))
          generalize b.roles[k].1 = r at *
          generalize b.roles[k].2 = s at *
          clear hcl
          have HT := Lib.hid (List.take_succ_eq_append_getElem (l := I2) (i := k) (by rw [HN2.out]; exact hlt))
          obtain ⟨vals, ho, hx⟩ := HO.out
          have hln : (I1 ++ I2.take k).length ≤ 1000000 := by simp only [List.length_append, List.length_take, HN1.out, HN2.out]; omega
          generalize hxs : (I1 ++ I2.take k) = xs at *
          have HXS := Lib.hid hxs
          have HVL := Lib.hid ho.lt
          have HOW := Lib.hid ho
          have HXR := Lib.hid hx
          have i1 : (k : Int) < b.roles.length := by omega
          clear hxs ho hx HO
          go_wp2_with (at_builtin; refine wp_app1 rfl _ _ 146 146 rfl W0.heap.size 149 .nilIface 1 16 Tryz.underlying146 infoAx rfl (by decide) (by decide) u3 xs.length vals (ownsKeep (S := fun _ => False) HOW.out (by repeat (first | exact Keeps.refl _ _ | refine Keeps.drewN ?_ _ | refine Keeps.drew ?_ | refine Keeps.alloc ?_ _ | refine Keeps.set ?_ (Or.inl (by rfl)) _)) (fun _ _ h => h)) rfl _ 1 [.iface 163 (.agg #[.int .i64 r, .int .i64 s])] (Src.ofBlock Tryz.underlying146 (cs := #[.iface 163 (.agg #[.int .i64 r, .int .i64 s])]) (blkNew (by first | rfl | simp)) rfl (by simp [Value.oneCell'])) rfl (by decide) (by omega) (by simp; omega) ?_; intro g cap w5 ho hk5 hat hcap hlt5)
          go_roundw
          case rel =>
            have hkk := hk5.upto (a := wr) (by repeat (first | exact Keeps.refl _ _ | refine Keeps.drewN ?_ _ | refine Keeps.drew ?_ | refine Keeps.alloc ?_ _ | refine Keeps.set ?_ (Or.inl (by rfl)) _))
            have hoa := OwnAx.app (ok := ok) (HXR.out.keep hkk (fun _ _ h => h)) (fun k hk => by have := hok k hk; omega) (fun k hk => (HVL.out k hk).1) (x := .role r s) (by exact rfl) ho hk5
            refine ⟨k + 1, by omega, by go_num, ?_, (HK.out.then_ hkk).trans hk5 (fun i hi => .inr (by have := (HVL.out i hi).1; have := (HVL.out i hi).2; omega))⟩
            unfold Hid
            rw [HT.out, HE.out, ← List.append_assoc, HXS.out]
            exact hoa
          case measure => simp [intOf]; omega
        · obtain rfl : b.roles.length = k := by omega
          rw [List.take_of_length_le (Nat.le_of_eq HN2.out)] at HO
          obtain ⟨y0, y1, y2, y3, y4, y5, y6⟩ := cells7 (HK.out.blk HB1.out (fun h => h))
          go_wp2_with fail
          go_loopw [3, 41] (fun v i wr => ∃ k : Nat, k ≤ b.facts.length ∧ i = .int .i64 k ∧ Hid (OwnAx ok wr W0.heap.size v (I1 ++ I2 ++ I3.take k)) ∧ Hid (Keeps (fun _ => False) W0 wr)) (fun _ i _ => b.facts.length - (intOf i).toNat)
          case atStart => exact ⟨0, Nat.zero_le _, rfl, (by rw [List.take_zero, List.append_nil]; exact HO.out), HK.out⟩
          case round =>
            obtain ⟨k, hk, rfl, HO, HK⟩ := hrel
            have hzr := HK.out.size
            by_cases hlt : k < b.facts.length
            · obtain ⟨bb, o, rfl, hbb, hcl⟩ := (H5.out.keep (HK0.out.then_ HK.out) (fun _ _ h => h)) (by intro h; rw [h] at hlt; simp at hlt)
              obtain ⟨A1, d1, z0, z1, z2, z3, r1⟩ := hcl k hlt
              have HX := Lib.hid r1
              have HE := Lib.hid (HE3.out k hlt (by rw [HN3.out]; exact hlt))
              generalize b.facts[k].1 = x at *
              generalize b.facts[k].2 = c at *
              clear r1 hcl
              have HT := Lib.hid (List.take_succ_eq_append_getElem (l := I3) (i := k) (by rw [HN3.out]; exact hlt))
              obtain ⟨vals, ho, hx⟩ := HO.out
              have hln : (I1 ++ I2 ++ I3.take k).length ≤ 1000000 := by simp only [List.length_append, List.length_take, HN1.out, HN2.out, HN3.out]; omega
              generalize hxs : (I1 ++ I2 ++ I3.take k) = xs at *
              have HXS := Lib.hid hxs
              have HVL := Lib.hid ho.lt
              have HOW := Lib.hid ho
              have HXR := Lib.hid hx
              have i1 : (k : Int) < b.facts.length := by omega
              clear hxs ho hx HO
              go_wp2_with (at_builtin; refine wp_app1 rfl _ _ 146 146 rfl W0.heap.size 149 .nilIface 1 16 Tryz.underlying146 infoAx rfl (by decide) (by decide) u3 xs.length vals (ownsKeep (S := fun _ => False) HOW.out (by repeat (first | exact Keeps.refl _ _ | refine Keeps.drewN ?_ _ | refine Keeps.drew ?_ | refine Keeps.alloc ?_ _ | refine Keeps.set ?_ (Or.inl (by rfl)) _)) (fun _ _ h => h)) rfl _ 1 [.iface 164 (.agg #[.int .i64 x, .int .i64 c.op, .int .i64 c.n, .slice A1 c.args.length d1])] (Src.ofBlock Tryz.underlying146 (cs := #[.iface 164 (.agg #[.int .i64 x, .int .i64 c.op, .int .i64 c.n, .slice A1 c.args.length d1])]) (blkNew (by first | rfl | simp)) rfl (by simp [Value.oneCell'])) rfl (by decide) (by omega) (by simp; omega) ?_; intro g cap w5 ho hk5 hat hcap hlt5)
              go_roundw
              case rel =>
                have hkk := hk5.upto (a := wr) (by repeat (first | exact Keeps.refl _ _ | refine Keeps.drewN ?_ _ | refine Keeps.drew ?_ | refine Keeps.alloc ?_ _ | refine Keeps.set ?_ (Or.inl (by rfl)) _))
                have hoa := OwnAx.app (ok := ok) (HXR.out.keep hkk (fun _ _ h => h)) (fun k hk => by have := hok k hk; omega) (fun k hk => (HVL.out k hk).1) (x := .fact x c) (by exact ⟨A1, d1, rfl, HX.out.keep hkk (fun _ _ h => h)⟩) ho hk5
                refine ⟨k + 1, by omega, by go_num, ?_, (HK.out.then_ hkk).trans hk5 (fun i hi => .inr (by have := (HVL.out i hi).1; have := (HVL.out i hi).2; omega))⟩
                unfold Hid
                rw [HT.out, HE.out, ← List.append_assoc, HXS.out]
                exact hoa
              case measure => simp [intOf]; omega
            · obtain rfl : b.facts.length = k := by omega
              rw [List.take_of_length_le (Nat.le_of_eq HN3.out)] at HO
              obtain ⟨y0, y1, y2, y3, y4, y5, y6⟩ := cells7 (HK.out.blk HB1.out (fun h => h))
              go_wp2_with fail
              go_loopw [3, 54] (fun v i wr => ∃ k : Nat, k ≤ b.links.length ∧ i = .int .i64 k ∧ Hid (OwnAx ok wr W0.heap.size v (I1 ++ I2 ++ I3 ++ I4.take k)) ∧ Hid (Keeps (fun _ => False) W0 wr)) (fun _ i _ => b.links.length - (intOf i).toNat)
              case atStart => exact ⟨0, Nat.zero_le _, rfl, (by rw [List.take_zero, List.append_nil]; exact HO.out), HK.out⟩
              case round =>
                obtain ⟨k, hk, rfl, HO, HK⟩ := hrel
                have hzr := HK.out.size
                by_cases hlt : k < b.links.length
                · obtain ⟨bb, o, rfl, hbb, hcl⟩ := (H6.out.keep (HK0.out.then_ HK.out) (fun _ _ h => h)) (by intro h; rw [h] at hlt; simp at hlt)
                  obtain ⟨z0, z1, z2⟩ := hcl k hlt
                  have HE := Lib.hid (HE4.out k hlt (by rw [HN4.out]; exact hlt))
                  generalize b.links[k].1 = r at *
                  generalize b.links[k].2.1 = f at *
                  generalize b.links[k].2.2 = t at *
                  clear hcl
                  have HT := Lib.hid (List.take_succ_eq_append_getElem (l := I4) (i := k) (by rw [HN4.out]; exact hlt))
                  obtain ⟨vals, ho, hx⟩ := HO.out
                  have hln : (I1 ++ I2 ++ I3 ++ I4.take k).length ≤ 1000000 := by simp only [List.length_append, List.length_take, HN1.out, HN2.out, HN3.out, HN4.out]; omega
                  generalize hxs : (I1 ++ I2 ++ I3 ++ I4.take k) = xs at *
                  have HXS := Lib.hid hxs
                  have HVL := Lib.hid ho.lt
                  have HOW := Lib.hid ho
                  have HXR := Lib.hid hx
                  have i1 : (k : Int) < b.links.length := by omega
                  clear hxs ho hx HO
                  go_wp2_with (at_builtin; refine wp_app1 rfl _ _ 146 146 rfl W0.heap.size 149 .nilIface 1 16 Tryz.underlying146 infoAx rfl (by decide) (by decide) u3 xs.length vals (ownsKeep (S := fun _ => False) HOW.out (by repeat (first | exact Keeps.refl _ _ | refine Keeps.drewN ?_ _ | refine Keeps.drew ?_ | refine Keeps.alloc ?_ _ | refine Keeps.set ?_ (Or.inl (by rfl)) _)) (fun _ _ h => h)) rfl _ 1 [.iface 165 (.agg #[.int .i64 r, .int .i64 f, .int .i64 t])] (Src.ofBlock Tryz.underlying146 (cs := #[.iface 165 (.agg #[.int .i64 r, .int .i64 f, .int .i64 t])]) (blkNew (by first | rfl | simp)) rfl (by simp [Value.oneCell'])) rfl (by decide) (by omega) (by simp; omega) ?_; intro g cap w5 ho hk5 hat hcap hlt5)
                  go_roundw
                  case rel =>
                    have hkk := hk5.upto (a := wr) (by repeat (first | exact Keeps.refl _ _ | refine Keeps.drewN ?_ _ | refine Keeps.drew ?_ | refine Keeps.alloc ?_ _ | refine Keeps.set ?_ (Or.inl (by rfl)) _))
                    have hoa := OwnAx.app (ok := ok) (HXR.out.keep hkk (fun _ _ h => h)) (fun k hk => by have := hok k hk; omega) (fun k hk => (HVL.out k hk).1) (x := .link r f t) (by exact rfl) ho hk5
                    refine ⟨k + 1, by omega, by go_num, ?_, (HK.out.then_ hkk).trans hk5 (fun i hi => .inr (by have := (HVL.out i hi).1; have := (HVL.out i hi).2; omega))⟩
                    unfold Hid
                    rw [HT.out, HE.out, ← List.append_assoc, HXS.out]
                    exact hoa
                  case measure => simp [intOf]; omega
                · obtain rfl : b.links.length = k := by omega
                  rw [List.take_of_length_le (Nat.le_of_eq HN4.out)] at HO
                  go_wp2_with fail
                  go_ret
                  obtain ⟨vals, ho, hx⟩ := HO.out
                  exact ⟨_, rfl, ⟨vals, by rw [HAX.out]; exact World.ownsRow.mono ho hz0, by rw [HAX.out]; exact hx⟩, HK0.out.then_ HK.out⟩
end Go.Proofs.YthiclhbnggehoaaGreatDoor
