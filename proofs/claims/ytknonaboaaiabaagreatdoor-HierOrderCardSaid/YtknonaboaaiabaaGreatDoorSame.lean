/- The reference's Of. -/
import Derived.Test.YtknonaboaaiabaaGreatDoorNnf
import Derived.Test.YtknonaboaaiabaaGreatDoorFit
namespace Go.Proofs.YtknonaboaaiabaaGreatDoor
open Go.RowKit
set_option linter.unusedVariables false
set_option linter.unusedSimpArgs false
set_option maxRecDepth 100000 in
set_option maxHeartbeats 4000000 in
theorem of_calls (op n : Int) (A : Option Addr) (l cap : Nat) (w : World) : Calls Tryz.prog 71 #[.int .i64 op, .int .i64 n, .slice A l cap] w fun e w' => e = .returned (.agg #[.int .i64 op, .int .i64 n, .slice A l cap]) ∧ Keeps (fun _ => False) w w' := by
  go_enter Tryz.func71, Tryz.ntmps71
  go_wp2_with fail
  generalize hW0 : World.alloc _ _ = W0
  have hK0 : Keeps (fun _ => False) w W0 := by rw [← hW0]; repeat (first | exact Keeps.refl _ _ | refine Keeps.drewN ?_ _ | refine Keeps.drew ?_ | refine Keeps.alloc ?_ _ | refine Keeps.set ?_ (Or.inl (by rfl)) _)
  have hb0 : W0.heap[w.heap.size]? = some (.cells #[.int .i64 op, .int .i64 n, .slice A l cap] 94 (0, 0)) := by rw [← hW0]; exact blkNew rfl
  clear hW0
  obtain ⟨x0, x1, x2⟩ := cells3 hb0
  exact bodyPost_ret (v := .agg #[.int .i64 op, .int .i64 n, .slice A l cap]) (by simp [results, Tryz.results71, go_sem, x0, x1, x2]) rfl ⟨rfl, hK0⟩
end Go.Proofs.YtknonaboaaiabaaGreatDoor
/- The reference's Same. -/
namespace Go.Proofs.YtknonaboaaiabaaGreatDoor
open Go.RowKit
set_option linter.unusedVariables false
set_option linter.unusedSimpArgs false
theorem ConsAt.nth {ok : Nat → Prop} {w : World} {l : List Con} {A : Option Addr} (h : ConsAt ok w l A) (k : Nat) (hk : k < l.length) : ∃ b o A' cap', A = some ⟨b, o, none⟩ ∧ ok b ∧ b < w.heap.size ∧ w.cell? ⟨b, o + k * 3, none⟩ = some (.int .i64 l[k].op) ∧ w.cell? ⟨b, o + k * 3 + 1, none⟩ = some (.int .i64 l[k].n) ∧ w.cell? ⟨b, o + k * 3 + 2, none⟩ = some (.slice A' l[k].args.length cap') ∧ ConR ok w l[k] [.int .i64 l[k].op, .int .i64 l[k].n, .slice A' l[k].args.length cap'] := by
  obtain ⟨b, o, e, hb, hr⟩ := h (by intro h; subst h; simp at hk)
  obtain ⟨A', cap', e0, e1, e2, hc⟩ := hr.at_ k hk
  exact ⟨b, o, A', cap', e, hb, World.block_lt_of_cell? w _ e0, e0, e1, e2, hc⟩
theorem sameLen : ∀ l : List Con, l.length ≤ Con.sizes l
  | [] => Nat.le_refl _
  | ⟨op, n, a⟩ :: r => by have := sameLen r; simp only [List.length_cons, Con.sizes, Con.size]; omega
mutual
def sameC : Con → Con → Bool
  | ⟨o1, n1, a1⟩, ⟨o2, n2, a2⟩ => decide (o1 = o2) && (decide (n1 = n2) && (decide (a1.length = a2.length) && sameL a1 a2))
def sameL : List Con → List Con → Bool
  | c :: r, d :: s => sameC c d && sameL r s
  | [], _ => true
  | _ :: _, [] => true
end
theorem sameL_drop {a b : List Con} {k : Nat} (ha : k < a.length) (hb : k < b.length) : sameL (a.drop k) (b.drop k) = (sameC a[k] b[k] && sameL (a.drop (k + 1)) (b.drop (k + 1))) := by
  rw [List.drop_eq_getElem_cons ha, List.drop_eq_getElem_cons hb]; simp only [sameL]
theorem conArgs {ok : Nat → Prop} {w : World} {op n : Int} {args : List Con} {A : Option Addr} {cap : Nat} (hc : ConR ok w ⟨op, n, args⟩ [.int .i64 op, .int .i64 n, .slice A args.length cap]) : ConsAt ok w args A := by
  simp only [ConR] at hc
  obtain ⟨A1, cap1, e1, hcap, hr⟩ := hc
  simp only [List.cons.injEq, Value.slice.injEq, and_true, true_and] at e1
  obtain ⟨rfl, rfl⟩ := e1
  exact hr
set_option maxRecDepth 100000 in
set_option maxHeartbeats 4000000 in
theorem same_calls (N : Nat) : ∀ (c d : Con) (A B : Option Addr) (ca cb : Nat) (ok : Nat → Prop) (w : World), c.size < N → c.size ≤ 100000 → ConR ok w c [.int .i64 c.op, .int .i64 c.n, .slice A c.args.length ca] → ConR ok w d [.int .i64 d.op, .int .i64 d.n, .slice B d.args.length cb] →
    Calls Tryz.prog 74 #[.agg #[.int .i64 c.op, .int .i64 c.n, .slice A c.args.length ca], .agg #[.int .i64 d.op, .int .i64 d.n, .slice B d.args.length cb]] w fun e w' => e = .returned (.bool (sameC c d)) ∧ Keeps (fun _ => False) w w' := by
  induction N with
  | zero => intro c d A B ca cb ok w h; omega
  | succ N ih =>
  intro c d A B ca cb ok w hN hs hc hd
  have IH := Lib.hid @ih
  clear ih
  obtain ⟨o1, n1, a1⟩ := c
  obtain ⟨o2, n2, a2⟩ := d
  simp only [show ∀ o n a, (Con.mk o n a).op = o from fun _ _ _ => rfl, show ∀ o n a, (Con.mk o n a).n = n from fun _ _ _ => rfl, show ∀ o n a, (Con.mk o n a).args = a from fun _ _ _ => rfl] at hc hd ⊢
  have hsz : (Con.mk o1 n1 a1).size = Con.sizes a1 + 1 := by simp [Con.size]
  have HCA := Lib.hid (conArgs hc).lim
  have HDA := Lib.hid (conArgs hd).lim
  have hNN : Con.sizes a1 + 1 < N + 1 := by rw [← hsz]; exact hN
  have hs2 : Con.sizes a1 + 1 ≤ 100000 := by rw [← hsz]; exact hs
  have hal := sameLen a1
  have HV : Hid (sameC ⟨o1, n1, a1⟩ ⟨o2, n2, a2⟩ = (decide (o1 = o2) && (decide (n1 = n2) && (decide (a1.length = a2.length) && sameL a1 a2)))) := by unfold Hid; simp only [sameC]
  generalize sameC ⟨o1, n1, a1⟩ ⟨o2, n2, a2⟩ = sv at *
  clear hc hd hsz hN hs
  by_cases h1 : o1 = o2
  · have q1 : (o1 != o2) = false := by simpa using h1
    have q1' : (o1 == o2) = true := by simpa using h1
    by_cases h2 : n1 = n2
    · have q2 : (n1 != n2) = false := by simpa using h2
      by_cases h3 : a1.length = a2.length
      · have q3 : ((a1.length : Int) != (a2.length : Int)) = false := by simp [h3]
        have HVV : Hid (sv = sameL (a1.drop 0) (a2.drop 0)) := by unfold Hid; rw [HV.out, decide_eq_true h1, decide_eq_true h2, decide_eq_true h3]; rfl
        have H3 := Lib.hid h3
        clear HV h1 h2 h3 q1'
        go_enter Tryz.func74, Tryz.ntmps74
        go_wp2_with fail
        generalize hW0 : World.alloc _ _ = W0
        have hK0 : Keeps (fun _ => False) w W0 := by rw [← hW0]; repeat (first | exact Keeps.refl _ _ | refine Keeps.drewN ?_ _ | refine Keeps.drew ?_ | refine Keeps.alloc ?_ _ | refine Keeps.set ?_ (Or.inl (by rfl)) _)
        have hb1 : W0.heap[w.heap.size]? = some (.cells #[.int .i64 o1, .int .i64 n1, .slice A a1.length ca] 94 (0, 0)) := by rw [← hW0]; exact blkAlloc (blkNew rfl) _
        have hb2 : W0.heap[w.heap.size + 1]? = some (.cells #[.int .i64 o2, .int .i64 n2, .slice B a2.length cb] 94 (0, 0)) := by rw [← hW0]; exact blkNew (by simp)
        clear hW0
        have HB1 := Lib.hid hb1
        have HB2 := Lib.hid hb2
        clear hb1 hb2
        go_loopw [30] (fun i wr => ∃ k : Nat, k ≤ a1.length ∧ i = .int .i64 k ∧ Hid (sv = sameL (a1.drop k) (a2.drop k)) ∧ Keeps (fun _ => False) W0 wr) (fun i _ => a1.length - (intOf i).toNat)
        case atStart => exact ⟨0, Nat.zero_le _, rfl, HVV, Keeps.refl _ _⟩
        case round =>
          obtain ⟨k, hk, rfl, HI, HK⟩ := hrel
          by_cases hlt : k < a1.length
          · have hlt2 : k < a2.length := by have := H3.out; omega
            obtain ⟨bb, o, A1, d1, rfl, hob, hbl, e0, e1, e2, hc⟩ := (HCA.out.keep (hK0.then_ HK) (fun _ _ h => h)).nth k hlt
            obtain ⟨bb2, oo2, A2, d2, rfl, hob2, hbl2, f0, f1, f2, hd⟩ := (HDA.out.keep (hK0.then_ HK) (fun _ _ h => h)).nth k hlt2
            have hsk := Con.size_at k hlt
            have HST := Lib.hid (sameL_drop hlt hlt2)
            have i1 : (k : Int) < a1.length := by omega
            have i2 : (k : Int) < a2.length := by omega
            generalize a1[k] = x at *
            generalize a2[k] = y at *
            have HCALL := Lib.hid (fun W (hkw : Keeps (fun _ => False) wr W) => IH.out x y A1 A2 d1 d2 _ W (by omega) (by omega) (hc.keep hkw (fun _ _ h => h)) (hd.keep hkw (fun _ _ h => h)))
            clear hc hd
            generalize sameC x y = xy at *
            have HE0 := Lib.hid (And.intro e0 (And.intro e1 e2))
            have HF0 := Lib.hid (And.intro f0 (And.intro f1 f2))
            have HBR1 := Lib.hid (HK.blk HB1.out (fun h => h))
            have HBR2 := Lib.hid (HK.blk HB2.out (fun h => h))
            have HP : Hid (∀ w', Keeps (fun _ => False) wr w' → w'.cell? ⟨w.heap.size, 2, none⟩ = some (.slice (some ⟨bb, o, none⟩) a1.length ca) ∧ w'.cell? ⟨w.heap.size + 1, 2, none⟩ = some (.slice (some ⟨bb2, oo2, none⟩) a2.length cb) ∧ w'.cell? ⟨bb, o + k * 3, none⟩ = some (.int .i64 x.op) ∧ w'.cell? ⟨bb, o + k * 3 + 1, none⟩ = some (.int .i64 x.n) ∧ w'.cell? ⟨bb, o + k * 3 + 2, none⟩ = some (.slice A1 x.args.length d1) ∧ w'.cell? ⟨bb2, oo2 + k * 3, none⟩ = some (.int .i64 y.op) ∧ w'.cell? ⟨bb2, oo2 + k * 3 + 1, none⟩ = some (.int .i64 y.n) ∧ w'.cell? ⟨bb2, oo2 + k * 3 + 2, none⟩ = some (.slice A2 y.args.length d2)) := fun w' hkw =>
              ⟨(cells3 (hkw.blk HBR1.out (fun h => h))).2.2, (cells3 (hkw.blk HBR2.out (fun h => h))).2.2, hkw.cell HE0.out.1 (fun h => h), hkw.cell HE0.out.2.1 (fun h => h), hkw.cell HE0.out.2.2 (fun h => h), hkw.cell HF0.out.1 (fun h => h), hkw.cell HF0.out.2.1 (fun h => h), hkw.cell HF0.out.2.2 (fun h => h)⟩
            clear e0 e1 e2 f0 f1 f2
            go_wp2_with fail
            go_region_held3 (fun w' => w'.cell? ⟨w.heap.size, 2, none⟩ = some (.slice (some ⟨bb, o, none⟩) a1.length ca) ∧ w'.cell? ⟨w.heap.size + 1, 2, none⟩ = some (.slice (some ⟨bb2, oo2, none⟩) a2.length cb) ∧ w'.cell? ⟨bb, o + k * 3, none⟩ = some (.int .i64 x.op) ∧ w'.cell? ⟨bb, o + k * 3 + 1, none⟩ = some (.int .i64 x.n) ∧ w'.cell? ⟨bb, o + k * 3 + 2, none⟩ = some (.slice A1 x.args.length d1) ∧ w'.cell? ⟨bb2, oo2 + k * 3, none⟩ = some (.int .i64 y.op) ∧ w'.cell? ⟨bb2, oo2 + k * 3 + 1, none⟩ = some (.int .i64 y.n) ∧ w'.cell? ⟨bb2, oo2 + k * 3 + 2, none⟩ = some (.slice A2 y.args.length d2))
              (first
                | exact HP.out _ (Keeps.refl _ _)
                | exact HP.out _ (Keeps.refl _ _).drew
                | exact HP.out _ ((Keeps.refl _ _).drew.then_ hk5))
              ((go_at_call 74; refine (HCALL.out _ (by first | exact Keeps.refl _ _ | exact (Keeps.refl _ _).drew)).mono ?_; clear HCALL; rintro e w5 ⟨rfl, hk5⟩))
            have hkT : Keeps (fun _ => False) wr w5 := (Keeps.refl (fun _ => False) wr).drew.then_ hk5
            cases xy
            · have HO : Hid (sv = false) := by unfold Hid; rw [HI.out, HST.out]; rfl
              clear HI HST
              go_wp2_with fail
              go_ret
              exact ⟨by rw [HO.out]; rfl, (hK0.then_ HK).then_ hkT⟩
            · have HO : Hid (sv = sameL (a1.drop (k + 1)) (a2.drop (k + 1))) := by unfold Hid; rw [HI.out, HST.out]; rfl
              clear HI HST
              go_wp2_with fail
              go_roundw
              case rel => exact ⟨k + 1, by omega, by go_num, HO, HK.then_ hkT⟩
              case measure => simp [intOf]; omega
          · obtain rfl : a1.length = k := by omega
            have HO : Hid (sv = true) := by unfold Hid; rw [HI.out, List.drop_length]; simp only [sameL]
            clear HI
            go_wp2_with fail
            go_ret
            exact ⟨by rw [HO.out]; rfl, hK0.then_ HK⟩
      · have q3 : ((a1.length : Int) != (a2.length : Int)) = true := by simp; omega
        have HO : Hid (sv = false) := by unfold Hid; rw [HV.out, decide_eq_true h1, decide_eq_true h2, decide_eq_false h3]; rfl
        clear HV h1 h2 h3 q1'
        go_enter Tryz.func74, Tryz.ntmps74
        go_wp2_with fail
        go_ret
        exact ⟨by rw [HO.out]; rfl, by repeat (first | exact Keeps.refl _ _ | refine Keeps.drewN ?_ _ | refine Keeps.drew ?_ | refine Keeps.alloc ?_ _ | refine Keeps.set ?_ (Or.inl (by rfl)) _)⟩
    · have q2 : (n1 != n2) = true := by simpa using h2
      have HO : Hid (sv = false) := by unfold Hid; rw [HV.out, decide_eq_true h1, decide_eq_false h2]; rfl
      clear HV h1 h2 q1'
      go_enter Tryz.func74, Tryz.ntmps74
      go_wp2_with fail
      go_ret
      exact ⟨by rw [HO.out]; rfl, by repeat (first | exact Keeps.refl _ _ | refine Keeps.drewN ?_ _ | refine Keeps.drew ?_ | refine Keeps.alloc ?_ _ | refine Keeps.set ?_ (Or.inl (by rfl)) _)⟩
  · have q1 : (o1 != o2) = true := by simpa using h1
    have HO : Hid (sv = false) := by unfold Hid; rw [HV.out, decide_eq_false h1]; rfl
    clear HV h1
    go_enter Tryz.func74, Tryz.ntmps74
    go_wp2_with fail
    go_ret
    exact ⟨by rw [HO.out]; rfl, by repeat (first | exact Keeps.refl _ _ | refine Keeps.drewN ?_ _ | refine Keeps.drew ?_ | refine Keeps.alloc ?_ _ | refine Keeps.set ?_ (Or.inl (by rfl)) _)⟩
end Go.Proofs.YtknonaboaaiabaaGreatDoor
