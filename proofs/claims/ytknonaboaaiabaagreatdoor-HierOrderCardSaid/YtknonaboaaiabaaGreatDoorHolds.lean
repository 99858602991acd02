/- interp.holds at a role inclusion: each pair of the one is a pair of the other. -/
import Derived.Test.YtknonaboaaiabaaGreatDoorPairs
import Derived.Test.YtknonaboaaiabaaGreatDoorPOrd
import Derived.Test.YtknonaboaaiabaaGreatDoorNames
import Derived.Deep.RegionHeld3
namespace Go.Proofs.YtknonaboaaiabaaGreatDoor
open Go.RowKit
set_option linter.unusedVariables false
set_option linter.unusedSimpArgs false
section
variable {κ : Type} [DecidableEq κ]
theorem findL_put {ν : Type} (l : List (κ × ν)) (x y : κ) (v : ν) : findL (putL l x v) y = if x = y then some v else findL l y := by
  induction l with
  | nil => unfold putL findL; by_cases h : x = y <;> simp [h]
  | cons p r ih =>
    unfold putL
    by_cases hp : p.1 = x
    · rw [if_pos hp]
      subst hp
      by_cases h : p.1 = y <;> simp [findL, h]
    · rw [if_neg hp]
      by_cases h : p.1 = y
      · have : ¬ x = y := fun e => hp (h.trans e.symm)
        simp [findL, h, this]
      · have e1 : findL (p :: putL r x v) y = findL (putL r x v) y := by simp [findL, h]
        have e2 : findL (p :: r) y = findL r y := by simp [findL, h]
        rw [e1, e2, ih]
/-- A map that holds true at the elements of l, and nothing else. -/
def SetM (L : List (κ × Bool)) (l : List κ) : Prop := ∀ y, findL L y = if y ∈ l then some true else none
theorem SetM.nil : SetM ([] : List (κ × Bool)) [] := fun y => by simp [findL]
theorem SetM.put {L : List (κ × Bool)} {l : List κ} (h : SetM L l) (x : κ) : SetM (putL L x true) (l ++ [x]) := fun y => by
  rw [findL_put, h y]
  by_cases e : x = y
  · subst e; simp
  · have e2 : ¬ y = x := fun h => e h.symm
    simp [e, e2]
theorem SetM.look {L : List (κ × Bool)} {l : List κ} (h : SetM L l) (y : κ) : ((findL L y).map Value.bool).getD (.bool false) = .bool (decide (y ∈ l)) := by
  rw [h y]; by_cases e : y ∈ l <;> simp [e]
end
set_option maxRecDepth 100000 in
set_option maxHeartbeats 4000000 in
theorem holdsLit (B m : Nat) (L : List ((Int × Int) × Bool)) (l : List (Int × Int)) (w : World) (hB : w.heap[B]? = some (.cells #[.map (some m)] 153 (0, 0))) (hM : MapL w m valP Value.bool L) (hL : SetM L l) :
    AnswersP 138 #[.pointer (some ⟨B, 0, none⟩)] (fun x => !decide (x ∈ l)) w := by
  intro W x hk
  obtain ⟨xa, xb⟩ := x
  have hb := hk.blk hB (fun h => h)
  have hc : W.cell? ⟨B, 0, none⟩ = some (.map (some m)) := by rw [blkCell hb]; rfl
  have hlt := blkLt hb
  have HMP := Lib.hid (hM.keep hk (fun h => h))
  have HLK : Hid (((findL L (xa, xb)).map Value.bool).getD (.bool false) = .bool (decide ((xa, xb) ∈ l))) := by unfold Hid; rw [hL.look]; exact congrArg Value.bool (decide_eq_decide.2 Iff.rfl)
  dsimp only
  generalize decide ((xa, xb) ∈ l) = rv at *
  clear hb hk hB hM hL
  show Calls Tryz.prog 138 #[.agg #[.int .i64 xa, .int .i64 xb], .pointer (some ⟨B, 0, none⟩)] W _
  go_enter Tryz.func138, Tryz.ntmps138
  go_wp2_with (at_lookup; refine wp_look rfl _ _ 153 false rfl 4 keyPair Tryz.underlying153 m L (HMP.out.keep ((Keeps.refl (fun _ => False) _).alloc _) (fun h => h)) rfl (.bool false) (zeroBool _) (xa, xb) rfl ?_; rw [HLK.out]; simp only [Bool.false_eq_true, if_false])
  go_ret
  exact ⟨rfl, by repeat (first | exact Keeps.refl _ _ | refine Keeps.drewN ?_ _ | refine Keeps.drew ?_ | refine Keeps.alloc ?_ _ | refine Keeps.set ?_ (Or.inl (by rfl)) _)⟩
/-- The role inclusion holds. -/
noncomputable def satB (i : Itp) (x : Int × Int) : Bool := open Classical in decide (satR i x)
theorem sat_of {i : Itp} {x : Int × Int} {l l' : List (Int × Int)} (h : ∀ p, p ∈ l ↔ memR i x.1.toNat p) (h' : ∀ p, p ∈ l' ↔ memR i x.2.toNat p) : (!(l.any fun p => !decide (p ∈ l'))) = satB i x := by
  rw [Bool.eq_iff_iff]
  unfold satB satR
  simp only [Bool.not_eq_true', List.any_eq_false, Bool.not_eq_eq_eq_not, decide_eq_true_eq, Bool.not_true, decide_eq_false_iff_not, Classical.not_not]
  constructor
  · intro a p hp; exact (h' p).1 (a p ((h p).2 hp))
  · intro a p hp; exact (h' p).2 (a p ((h p).1 hp))
/-- What a drawn region of holds loads. -/
abbrev HoldH (w : World) (g gi bo oo : Nat) (v4 y0 y1 y2 y3 u0 u1 : Value) : Prop :=
  w.cell? ⟨g, 4, none⟩ = some v4 ∧ w.cell? ⟨gi, 0, none⟩ = some y0 ∧ w.cell? ⟨gi, 1, none⟩ = some y1 ∧ w.cell? ⟨gi, 2, none⟩ = some y2 ∧ w.cell? ⟨gi, 3, none⟩ = some y3 ∧ w.cell? ⟨bo, oo, none⟩ = some u0 ∧ w.cell? ⟨bo, oo + 1, none⟩ = some u1
set_option maxRecDepth 100000 in
set_option maxHeartbeats 4000000 in
theorem holds_calls (b : Kb) (p : KbA) (i : Itp) (q : ItpA) (ok : Nat → Prop) (w : World) (hb : KbR ok w b p) (hi : ItpR ok w i q) (k : Nat) (hk : k < b.roles.length) (hr0 : 0 ≤ b.roles[k].1 ∧ 0 ≤ b.roles[k].2) (hr1 : b.roles[k].1.toNat / 2 < i.roles.length) (hr2 : b.roles[k].2.toNat / 2 < i.roles.length)
    (hbd : ∀ l ∈ i.roles, l.length ≤ 1000 ∧ ∀ x ∈ l, 0 ≤ x.1 ∧ x.1 < 256 ∧ 0 ≤ x.2 ∧ x.2 < 256) (hli : b.incls.length ≤ 1000) (hlr : b.roles.length ≤ 1000) :
    Calls Tryz.prog 80 #[.agg #[.slice p.a0 b.cs.length p.c0, .slice p.a1 b.rs.length p.c1, .slice p.a2 b.is.length p.c2, .slice p.a3 b.incls.length p.c3, .slice p.a4 b.roles.length p.c4, .slice p.a5 b.facts.length p.c5, .slice p.a6 b.links.length p.c6], .agg #[.int .i64 i.size, .slice q.a0 i.cons.length q.c0, .slice q.a1 i.roles.length q.c1, .slice q.a2 i.inds.length q.c2], .int .i64 ((b.incls.length : Int) + k)] w fun e w' => e = .returned (.bool (satB i b.roles[k])) ∧ Keeps (fun _ => False) w w' := by
  have HRL := Lib.hid (fun W (hk : Keeps (fun _ => False) w W) (r : Nat) (hr : r / 2 < i.roles.length) => related_calls i q ok W r (hi.keep hk (fun _ _ h => h)) hr (hbd _ (List.getElem_mem hr)).2 (hbd _ (List.getElem_mem hr)).1)
  have HSAT := Lib.hid (fun l l' => sat_of (i := i) (x := b.roles[k]) (l := l) (l' := l'))
  obtain ⟨bo, oo, ha4, hob, hc⟩ := hb.roles (by intro h; rw [h] at hk; simp at hk)
  obtain ⟨e0, e1⟩ := hc k hk
  have hle0 := World.block_lt_of_cell? w _ e0
  generalize satB i b.roles[k] = rv at *
  generalize b.roles[k] = rr at *
  obtain ⟨ra, rb⟩ := rr
  dsimp only at hr0 hr1 hr2 e0 e1 HSAT
  obtain ⟨ra, rfl⟩ := Int.eq_ofNat_of_zero_le hr0.1
  obtain ⟨rb, rfl⟩ := Int.eq_ofNat_of_zero_le hr0.2
  simp only [Int.toNat_natCast] at hr1 hr2 HSAT
  have HR1 := Lib.hid hr1
  have HR2 := Lib.hid hr2
  generalize memR i = mr at *
  obtain ⟨a0, a1, a2, a3, a4, a5, a6, c0, c1, c2, c3, c4, c5, c6⟩ := p
  obtain ⟨q0, q1, q2, d0, d1, d2⟩ := q
  dsimp only at ha4 HRL ⊢
  subst ha4
  clear hb hi hc hr0 hr1 hr2 hbd
  dsimp only at hle0
  generalize b.incls.length = ni at *
  generalize b.roles.length = nr at *
  have i1 : (k : Int) < nr := by omega
  have i2 : ((ni : Int) + k < ni) = False := by simp; omega
  have i3 : (ni : Int) + k - ni = k := by omega
  have hmm := @run_makeMap Tryz.prog
  go_enter Tryz.func80, Tryz.ntmps80
  go_wp2_with fail
  generalize hW4 : World.alloc _ _ = W4
  have hK4 : Keeps (fun _ => False) w W4 := by rw [← hW4]; repeat (first | exact Keeps.refl _ _ | refine Keeps.drewN ?_ _ | refine Keeps.drew ?_ | refine Keeps.alloc ?_ _ | refine Keeps.set ?_ (Or.inl (by rfl)) _)
  have hbx : W4.heap[w.heap.size]? = some (.cells #[.slice a0 b.cs.length c0, .slice a1 b.rs.length c1, .slice a2 b.is.length c2, .slice a3 ni c3, .slice (some ⟨bo, oo, none⟩) nr c4, .slice a5 b.facts.length c5, .slice a6 b.links.length c6] 30 (0, 0)) := by rw [← hW4]; exact blkAlloc (blkAlloc (blkAlloc (blkNew rfl) _) _) _
  have hix : W4.heap[w.heap.size + 1]? = some (.cells #[.int .i64 i.size, .slice q0 i.cons.length d0, .slice q1 i.roles.length d1, .slice q2 i.inds.length d2] 37 (0, 0)) := by rw [← hW4]; exact blkAlloc (blkAlloc (blkNew (by simp)) _) _
  have hmx : MapL W4 (w.heap.size + 1 + 1) valP Value.bool [] := by
    have h1 := MapL.made (ek := valP) (ev := Value.bool) (κ := Int × Int) ((w.alloc (.cells #[.slice a0 b.cs.length c0, .slice a1 b.rs.length c1, .slice a2 b.is.length c2, .slice a3 ni c3, .slice (some ⟨bo, oo, none⟩) nr c4, .slice a5 b.facts.length c5, .slice a6 b.links.length c6] 30)).alloc (.cells #[.int .i64 i.size, .slice q0 i.cons.length d0, .slice q1 i.roles.length d1, .slice q2 i.inds.length d2] 37))
    rw [show ((w.alloc (.cells #[.slice a0 b.cs.length c0, .slice a1 b.rs.length c1, .slice a2 b.is.length c2, .slice a3 ni c3, .slice (some ⟨bo, oo, none⟩) nr c4, .slice a5 b.facts.length c5, .slice a6 b.links.length c6] 30)).alloc (.cells #[.int .i64 i.size, .slice q0 i.cons.length d0, .slice q1 i.roles.length d1, .slice q2 i.inds.length d2] 37)).heap.size = w.heap.size + 1 + 1 by simp] at h1
    rw [← hW4]
    exact h1.keep (S := fun _ => False) (by repeat (first | exact Keeps.refl _ _ | refine Keeps.drewN ?_ _ | refine Keeps.drew ?_ | refine Keeps.alloc ?_ _ | refine Keeps.set ?_ (Or.inl (by rfl)) _)) (fun h => h)
  have hcx : W4.heap[w.heap.size + 1 + 1 + 1]? = some (.cells #[.map (some (w.heap.size + 1 + 1))] 153 (0, 0)) := by rw [← hW4]; exact blkNew (by simp)
  clear hW4
  have HK4 := Lib.hid hK4
  have HBX := Lib.hid hbx
  have HIX := Lib.hid hix
  have HMX := Lib.hid hmx
  have HCX := Lib.hid hcx
  have HE := Lib.hid (And.intro e0 e1)
  clear hbx hix hmx hcx hK4 e0 e1
  have HP : Hid (∀ S w', Keeps S W4 w' → (∀ k, S k → k = w.heap.size + 1 + 1) → HoldH w' (w.heap.size) (w.heap.size + 1) bo (oo + k * 2) (.slice (some ⟨bo, oo, none⟩) nr c4) (.int .i64 i.size) (.slice q0 i.cons.length d0) (.slice q1 i.roles.length d1) (.slice q2 i.inds.length d2) (.int .i64 ra) (.int .i64 rb)) := fun S w' hk hs => by
    obtain ⟨x0, x1, x2, x3, x4, x5, x6⟩ := cells7 (hk.blk HBX.out (fun h => by have := hs _ h; omega))
    obtain ⟨y0, y1, y2, y3⟩ := cells4 (hk.blk HIX.out (fun h => by have := hs _ h; omega))
    have hbo : ¬ S bo := fun h => by have := hs _ h; omega
    exact ⟨x4, y0, y1, y2, y3, hk.cell (HK4.out.cell HE.out.1 (fun h => h)) hbo, hk.cell (HK4.out.cell HE.out.2 (fun h => h)) hbo⟩
  unfold HoldH at HP
  generalize hs1 : i.size = s1 at *
  generalize i.cons.length = nc at *
  generalize i.roles.length = nrr at *
  generalize i.inds.length = nd at *
  clear hs1 hle0
  go_region_held3 (fun w' => w'.cell? ⟨w.heap.size, 4, none⟩ = some (.slice (some ⟨bo, oo, none⟩) nr c4) ∧ w'.cell? ⟨w.heap.size + 1, 0, none⟩ = some (.int .i64 s1) ∧ w'.cell? ⟨w.heap.size + 1, 1, none⟩ = some (.slice q0 nc d0) ∧ w'.cell? ⟨w.heap.size + 1, 2, none⟩ = some (.slice q1 nrr d1) ∧ w'.cell? ⟨w.heap.size + 1, 3, none⟩ = some (.slice q2 nd d2) ∧ w'.cell? ⟨bo, oo + k * 2, none⟩ = some (.int .i64 ra) ∧ w'.cell? ⟨bo, oo + k * 2 + 1, none⟩ = some (.int .i64 rb))
    (first
      | exact HP.out _ _ (Keeps.refl (fun _ => False) _) (fun _ h => h.elim)
      | exact HP.out _ _ (Keeps.refl (fun _ => False) _).drew (fun _ h => h.elim)
      | exact HP.out _ _ ((Keeps.refl (fun _ => False) _).drew.then_ HK5.out) (fun _ h => h.elim))
    ((go_at_call 136; refine (HRL.out _ (by first | exact HK4.out | exact HK4.out.drew) rb HR2.out).mono ?_; rintro e w5 ⟨l2, A2, cap2, rfl, hr2, hn2, hm2, hk5⟩; have HK5 := Lib.hid hk5; have HR5 := Lib.hid hr2; have HM5 := Lib.hid hm2; clear hk5 hr2 hm2))
  rename_i _hHeld
  clear _hHeld
  have hz4 := HK4.out.size
  have hz5 := HK5.out.size
  have HK5' : Hid (Keeps (fun _ => False) W4 w5) := HK5.out.undrew
  clear HK5
  have HMP := Lib.hid (HMX.out.keep HK5'.out (fun h => h))
  have HSM : Hid (SetM ([] : List ((Int × Int) × Bool)) (l2.take 0)) := SetM.nil
  clear HMX
  have hzz : w.heap.size + 4 ≤ W4.heap.size := blkLt HCX.out
  have hz6 : W4.heap.size ≤ w5.heap.size := HK5'.out.size
  have hl2n : l2.length ≤ 9223372036854775807 := by omega
  go_wp2_with fail
  go_loopw [9, 51] (fun _ i wr => ∃ (n : Nat) (L : List ((Int × Int) × Bool)), n ≤ l2.length ∧ i = .int .i64 n ∧ Hid (MapL wr (w.heap.size + 1 + 1) valP Value.bool L) ∧ Hid (SetM L (l2.take n)) ∧ Hid (Keeps (fun b => b = w.heap.size + 1 + 1) w5 wr)) (fun _ i _ => l2.length - (intOf i).toNat)
  case atStart => exact ⟨0, [], Nat.zero_le _, rfl, HMP, HSM, Keeps.refl _ _⟩
  case round =>
    obtain ⟨n, L, hn, rfl, HM, HS, HK⟩ := hrel
    by_cases hlt : n < l2.length
    · obtain ⟨bx, ox, rfl, hbx, hcx⟩ := HR5.out.keep HK.out (fun b hb => by simp only [World.drew] at hb; omega) (by intro h; subst h; simp at hlt)
      obtain ⟨f0, f1⟩ := hcx n hlt
      have HTK := Lib.hid (List.take_succ_eq_append_getElem hlt)
      have j1 : (n : Int) < l2.length := by omega
      generalize l2[n] = x at *
      obtain ⟨xa, xb⟩ := x
      dsimp only at f0 f1
      clear hcx
      have hcell : wr.cell? ⟨w.heap.size + 1 + 1 + 1, 0, none⟩ = some (.map (some (w.heap.size + 1 + 1))) := by
        rw [blkCell (HK.out.blk (HK5'.out.blk HCX.out (fun h => h)) (by simp))]; rfl
      have hzr : w.heap.size + 1 + 1 + 1 < wr.heap.size := by have := HK.out.size; omega
      go_wp2_with (at_mapUpdate; refine wp_put rfl _ _ _ 153 rfl 4 keyPair Tryz.underlying153 (w.heap.size + 1 + 1) L (HM.out.keep ((Keeps.refl (fun _ => False) _).alloc _) (fun h => h)) rfl (xa, xb) rfl true rfl ?_; intro w6 hm6 hk6)
      go_roundw
      case rel => exact ⟨n + 1, _, by omega, by go_num, hm6, by unfold Hid; rw [HTK.out]; exact HS.out.put (xa, xb), (HK.out.alloc _).then_ hk6⟩
      case measure => simp [intOf]; omega
    · obtain rfl : n = l2.length := by omega
      have HS2 : Hid (SetM L l2) := by have h := HS.out; rw [List.take_length] at h; exact h
      have HKw : Hid (Keeps (fun b => b = w.heap.size + 1 + 1) W4 wr) := HK5'.out.of0.then_ HK.out
      have HC6 : Hid (wr.heap[w.heap.size + 1 + 1 + 1]? = some (.cells #[.map (some (w.heap.size + 1 + 1))] 153 (0, 0))) := HKw.out.blk HCX.out (by simp)
      have HM2 := HM
      have HP2 : Hid (∀ w', Keeps (fun _ => False) wr w' → w'.cell? ⟨w.heap.size, 4, none⟩ = some (.slice (some ⟨bo, oo, none⟩) nr c4) ∧ w'.cell? ⟨w.heap.size + 1, 0, none⟩ = some (.int .i64 s1) ∧ w'.cell? ⟨w.heap.size + 1, 1, none⟩ = some (.slice q0 nc d0) ∧ w'.cell? ⟨w.heap.size + 1, 2, none⟩ = some (.slice q1 nrr d1) ∧ w'.cell? ⟨w.heap.size + 1, 3, none⟩ = some (.slice q2 nd d2) ∧ w'.cell? ⟨bo, oo + k * 2, none⟩ = some (.int .i64 ra) ∧ w'.cell? ⟨bo, oo + k * 2 + 1, none⟩ = some (.int .i64 rb)) := fun w' hk => HP.out _ w' (HKw.out.trans hk (fun _ h => h.elim)) (fun _ h => h)
      have HKA : Hid (Keeps (fun _ => False) w wr) := HK4.out.trans HKw.out (fun i hi => .inr (by omega))
      have HM5' := HM5
      clear HP HMP HSM HK5' HCX HBX HIX HE HM HS HK HR5 HM5 HKw
      go_wp2_with fail
      go_region_held3 (fun w' => w'.cell? ⟨w.heap.size, 4, none⟩ = some (.slice (some ⟨bo, oo, none⟩) nr c4) ∧ w'.cell? ⟨w.heap.size + 1, 0, none⟩ = some (.int .i64 s1) ∧ w'.cell? ⟨w.heap.size + 1, 1, none⟩ = some (.slice q0 nc d0) ∧ w'.cell? ⟨w.heap.size + 1, 2, none⟩ = some (.slice q1 nrr d1) ∧ w'.cell? ⟨w.heap.size + 1, 3, none⟩ = some (.slice q2 nd d2) ∧ w'.cell? ⟨bo, oo + k * 2, none⟩ = some (.int .i64 ra) ∧ w'.cell? ⟨bo, oo + k * 2 + 1, none⟩ = some (.int .i64 rb))
        (first
          | exact HP2.out _ (Keeps.refl _ _)
          | exact HP2.out _ (Keeps.refl _ _).drew
          | exact HP2.out _ ((Keeps.refl _ _).drew.then_ HK7.out)
          | exact HP2.out _ (((Keeps.refl _ _).drew.then_ HK7.out).then_ HK8.out))
        ((first
          | (go_at_call 136; refine (HRL.out _ (by first | exact HKA.out | exact HKA.out.drew) ra HR1.out).mono ?_; rintro e w7 ⟨l1, A1, cap1, rfl, hr1, hn1, hm1, hk7⟩; have HK7 := Lib.hid hk7; have HR7 := Lib.hid hr1; have HM7 := Lib.hid hm1; clear hk7 hr1 hm1)
          | (go_at_call 137; refine (containsFuncP_calls l1 _ A1 cap1 w7 _ _ _ (enters_of Tryz.func138 (by kernel_rfl) rfl) HR7.out (by omega) (holdsLit _ _ L l2 w7 (HK7.out.undrew.blk HC6.out (fun h => h)) (HM2.out.keep HK7.out.undrew (fun h => h)) HS2.out)).mono ?_; rintro e w8 ⟨rfl, hk8⟩; have HK8 := Lib.hid hk8; clear hk8)))
      all_goals
        have HFIN := Lib.hid (HSAT.out l1 l2 HM7.out HM5'.out)
        generalize (l1.any fun p => !decide (p ∈ l2)) = an at *
        (try go_wp2_with fail)
        go_ret
        exact ⟨by rw [← HFIN.out]; rfl, (HKA.out.then_ HK7.out.undrew).then_ HK8.out⟩
end Go.Proofs.YtknonaboaaiabaaGreatDoor
