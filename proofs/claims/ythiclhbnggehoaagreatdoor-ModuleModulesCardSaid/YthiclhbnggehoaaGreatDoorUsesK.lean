/- kb.Uses: the names that occur in a knowledge base. -/
import Derived.Test.YthiclhbnggehoaaGreatDoorSetM
import Derived.Test.YthiclhbnggehoaaGreatDoorLocal
import Derived.Deep.RegionHeld3
import Derived.Test.YthiclhbnggehoaaGreatDoorPick
import Derived.Test.YthiclhbnggehoaaGreatDoorKnow
import Derived.Test.YthiclhbnggehoaaGreatDoorR2
namespace Go.Proofs.YthiclhbnggehoaaGreatDoor
open Go.RowKit
set_option linter.unusedVariables false
set_option linter.unusedSimpArgs false
/-- What the three sets hold behind the axioms xs. -/
structure UsesSt (g : Nat) (xs : List Ax) (w0 w : World) : Prop where
  n : MapS w g (xs.flatMap namesAx)
  r : MapS w (g + 1) (xs.flatMap rolesAx)
  i : ∃ X, MapS w (g + 1 + 1) X ∧ X.length ≤ 3 * xs.length
  k : Keeps (fun i => i = g ∨ i = g + 1 ∨ i = g + 1 + 1) w0 w
theorem UsesSt.keepF {g : Nat} {xs : List Ax} {w0 w w' : World} (h : UsesSt g xs w0 w) (hk : Keeps (fun _ => False) w w') : UsesSt g xs w0 w' := by
  obtain ⟨X, h1, h2⟩ := h.i
  exact ⟨h.n.keep hk (fun h => h), h.r.keep hk (fun h => h), ⟨X, h1.keep hk (fun h => h), h2⟩, h.k.then_ hk.of0⟩
theorem OwnInts.keep' {S : Nat → Prop} {w w' : World} {base : Nat} {v : Value} {l : List Int} (h : OwnInts w base v l) (hk : Keeps S w w') (hs : ∀ b, v.ownBlock = some b → ¬ S b) : OwnInts w' base v l := ownsKeep h hk hs
theorem Keeps.upto2 {S : Nat → Prop} {a b c : World} (_ : Keeps S b c) (h : Keeps (fun _ => False) a b) : Keeps (fun _ => False) a b := h
set_option maxRecDepth 100000 in
set_option maxHeartbeats 4000000 in
theorem usesK_calls (b : Kb) (p : KbA) (ok : Nat → Prop) (m : Int) (w : World) (hm : w.cell? ⟨1, 0, none⟩ = some (.int .i64 m)) (ht : ArgsTab w) (hb : KbR ok w b p) (hok : ∀ k, ok k → k < w.heap.size) (hv : KbFit b) (hval : kbValidB b = true)
    (hl1 : b.incls.length ≤ 1000) (hl2 : b.roles.length ≤ 1000) (hl3 : b.facts.length ≤ 1000) (hl4 : b.links.length ≤ 1000) (hn1 : ((axs b).flatMap namesAx).length ≤ 1000000) (hn2 : ((axs b).flatMap rolesAx).length ≤ 1000000) :
    Calls Tryz.prog 73 #[.agg #[.slice p.a0 b.cs.length p.c0, .slice p.a1 b.rs.length p.c1, .slice p.a2 b.is.length p.c2, .slice p.a3 b.incls.length p.c3, .slice p.a4 b.roles.length p.c4, .slice p.a5 b.facts.length p.c5, .slice p.a6 b.links.length p.c6]] w fun e w' => ∃ v1 v2 v3 K1 K2, e = .returned (.tuple #[v1, v2, v3, .int .i64 0]) ∧ OwnInts w' w.heap.size v1 (sortZ K1) ∧ OwnInts w' w.heap.size v2 (sortZ K2) ∧ K1.Nodup ∧ K2.Nodup ∧ (∀ y, y ∈ K1 ↔ y ∈ (axs b).flatMap namesAx) ∧ (∀ y, y ∈ K2 ↔ y ∈ (axs b).flatMap rolesAx) ∧ Keeps (fun _ => False) w w' := by
  have HVAL : Hid (∀ W, Keeps (fun _ => False) w W → Calls Tryz.prog 66 #[.agg #[.slice p.a0 b.cs.length p.c0, .slice p.a1 b.rs.length p.c1, .slice p.a2 b.is.length p.c2, .slice p.a3 b.incls.length p.c3, .slice p.a4 b.roles.length p.c4, .slice p.a5 b.facts.length p.c5, .slice p.a6 b.links.length p.c6]] W fun e w' => e = .returned (.bool (kbValidB b)) ∧ Keeps (fun _ => False) W w') :=
    fun W h => kbValid_calls b p ok W m (h.cell hm (fun h => h)) (ht.keep h (fun h => h)) (hb.keep h (fun _ _ h => h)) (by omega) (by omega) (by omega) (by omega)
  rw [hval] at HVAL
  have H3 := Lib.hid hb.incls
  have H4 := Lib.hid hb.roles
  have H5 := Lib.hid hb.facts
  have H6 := Lib.hid hb.links
  obtain ⟨I1, hI1⟩ : ∃ I, I = b.incls.map (fun x => Ax.incl x.1 x.2) := ⟨_, rfl⟩
  obtain ⟨I2, hI2⟩ : ∃ I, I = b.roles.map (fun x => Ax.role x.1 x.2) := ⟨_, rfl⟩
  obtain ⟨I3, hI3⟩ : ∃ I, I = b.facts.map (fun x => Ax.fact x.1 x.2) := ⟨_, rfl⟩
  obtain ⟨I4, hI4⟩ : ∃ I, I = b.links.map (fun x => Ax.link x.1 x.2.1 x.2.2) := ⟨_, rfl⟩
  have n1 : I1.length = b.incls.length := by rw [hI1]; simp
  have n2 : I2.length = b.roles.length := by rw [hI2]; simp
  have n3 : I3.length = b.facts.length := by rw [hI3]; simp
  have n4 : I4.length = b.links.length := by rw [hI4]; simp
  have hax : axs b = I1 ++ I2 ++ I3 ++ I4 := by rw [hI1, hI2, hI3, hI4]; rfl
  have HAX := Lib.hid hax
  have e1 : ∀ k (h : k < b.incls.length) (h' : k < I1.length), I1[k] = .incl b.incls[k].1 b.incls[k].2 := by intro k h h'; simp [hI1]
  have e2 : ∀ k (h : k < b.roles.length) (h' : k < I2.length), I2[k] = .role b.roles[k].1 b.roles[k].2 := by intro k h h'; simp [hI2]
  have e3 : ∀ k (h : k < b.facts.length) (h' : k < I3.length), I3[k] = .fact b.facts[k].1 b.facts[k].2 := by intro k h h'; simp [hI3]
  have e4 : ∀ k (h : k < b.links.length) (h' : k < I4.length), I4[k] = .link b.links[k].1 b.links[k].2.1 b.links[k].2.2 := by intro k h h'; simp [hI4]
  have HE1 := Lib.hid e1
  have HE2 := Lib.hid e2
  have HE3 := Lib.hid e3
  have HE4 := Lib.hid e4
  have HN1 := Lib.hid n1
  have HN2 := Lib.hid n2
  have HN3 := Lib.hid n3
  have HN4 := Lib.hid n4
  have HFT := Lib.hid hv
  have HC1 := Lib.hid hn1
  have HC2 := Lib.hid hn2
  clear hax hI1 hI2 hI3 hI4 e1 e2 e3 e4 hb n1 n2 n3 n4 hv hval hn1 hn2 hm ht
  obtain ⟨a0, a1, a2, a3, a4, a5, a6, c0, c1, c2, c3, c4, c5, c6⟩ := p
  simp only at H3 H4 H5 H6 HVAL ⊢
  have mk := mkMapS
  go_enter Tryz.func73, Tryz.ntmps73
  go_wp2_with (go_at_call 66; refine (HVAL.out _ (by repeat (first | exact Keeps.refl _ _ | refine Keeps.drewN ?_ _ | refine Keeps.drew ?_ | refine Keeps.alloc ?_ _ | refine Keeps.set ?_ (Or.inl (by rfl)) _))).mono ?_; clear HVAL; rintro e w2 ⟨rfl, hk2⟩; have HK2 := Lib.hid (Keeps.then_ (a := w) (by repeat (first | exact Keeps.refl _ _ | refine Keeps.drewN ?_ _ | refine Keeps.drew ?_ | refine Keeps.alloc ?_ _ | refine Keeps.set ?_ (Or.inl (by rfl)) _)) hk2); have hb2 := hk2.blk (blkNew (w := w) rfl) (fun h => h); have HB2 := Lib.hid hb2; obtain ⟨y0, y1, y2, y3, y4, y5, y6⟩ := cells7 hb2; have hz2 := blkLt hb2; have hz2a : w.heap.size < w2.heap.size + 1 := (by omega); have hz2b : w.heap.size < w2.heap.size + 1 + 1 := (by omega); have hz2c : w.heap.size ≠ w2.heap.size := (by omega); have hz2d : w.heap.size ≠ w2.heap.size + 1 := (by omega); have hz2e : w.heap.size ≠ w2.heap.size + 1 + 1 := (by omega); clear hk2 hb2)
  generalize hW3 : World.alloc _ _ = W3
  have s1 : MapS W3 w2.heap.size [] := MapS.made (by rw [← hW3]; exact blkAlloc (blkAlloc (blkNew rfl) _) _)
  have s2 : MapS W3 (w2.heap.size + 1) [] := MapS.made (by rw [← hW3]; exact blkAlloc (blkNew (by simp)) _)
  have s3 : MapS W3 (w2.heap.size + 1 + 1) [] := MapS.made (by rw [← hW3]; exact blkNew (by simp))
  have hk3 : Keeps (fun _ => False) w2 W3 := by rw [← hW3]; repeat (first | exact Keeps.refl _ _ | refine Keeps.drewN ?_ _ | refine Keeps.drew ?_ | refine Keeps.alloc ?_ _ | refine Keeps.set ?_ (Or.inl (by rfl)) _)
  have hz3 : w2.heap.size + 3 ≤ W3.heap.size := by rw [← hW3]; simp
  clear hW3
  have HST : Hid (UsesSt w2.heap.size [] W3 W3) := ⟨s1, s2, ⟨[], s3, Nat.zero_le _⟩, Keeps.refl _ _⟩
  have HB3 := Lib.hid (hk3.blk HB2.out (fun h => h))
  have HK3 := Lib.hid (HK2.out.then_ hk3)
  obtain ⟨g, hg⟩ : ∃ g, g = w2.heap.size := ⟨_, rfl⟩
  have hgw : w.heap.size < g := by omega
  have hgz : g + 3 ≤ W3.heap.size := by omega
  rw [← hg] at HST ⊢
  clear s1 s2 s3 hk3 hz3 HB2 HK2 hg y0 y1 y2 y3 y4 y5 y6 hz2 hz2a hz2b hz2c hz2d hz2e
  have HG := Lib.hid hgw
  obtain ⟨y0, y1, y2, y3, y4, y5, y6⟩ := cells7 HB3.out
  go_loopw [26] (fun i wr => ∃ k : Nat, k ≤ b.incls.length ∧ i = .int .i64 k ∧ Hid (UsesSt g (I1.take k) W3 wr)) (fun i _ => b.incls.length - (intOf i).toNat)
  case atStart => exact ⟨0, Nat.zero_le _, rfl, HST.out⟩
  case round =>
    obtain ⟨k, hk, rfl, HS⟩ := hrel
    have hzr := HS.out.k.size
    by_cases hlt : k < b.incls.length
    · obtain ⟨bb, o, rfl, hbb, hcl⟩ := (H3.out.keep (HK3.out.of0.then_ HS.out.k) (fun k hk e => by have := hok k hk; have := HG.out; omega)) (by intro h; rw [h] at hlt; simp at hlt)
      have i1 : (k : Int) < b.incls.length := by omega
      have HT := Lib.hid (List.take_succ_eq_append_getElem (l := I1) (i := k) (by rw [HN1.out]; exact hlt))
      have hzx : (I1.take k).length ≤ 4000 := by simp only [List.length_append, List.length_take, HN1.out]; omega
      obtain ⟨A1, d1, A2, d2, z0, z1, z2, z3, z4, z5, r1, r2⟩ := hcl k hlt
      have HX := Lib.hid (And.intro r1 r2)
      have HE := Lib.hid (HE1.out k hlt (by rw [HN1.out]; exact hlt))
      have HF := Lib.hid (HFT.out.i _ (List.getElem_mem hlt))
      generalize b.incls[k].1 = c at *
      generalize b.incls[k].2 = d at *
      clear r1 r2 hcl
      generalize hxs : (I1.take k) = xs at *
      go_wp2_with (first | ((with_reducible show Calls _ _ #[.agg #[.int .i64 c.op, _, _], _, _] _ _); go_at_call 93; refine (markS_calls b.cs.length b.rs.length HFT.out.n c A1 d1 ok g (g + 1) (xs.flatMap namesAx) (xs.flatMap rolesAx) _ (HX.out.1.keep (S := fun _ => False) (by repeat (first | exact Keeps.refl _ _ | refine Keeps.drewN ?_ _ | refine Keeps.drew ?_ | refine Keeps.alloc ?_ _ | refine Keeps.set ?_ (Or.inl (by rfl)) _)) (fun _ _ h => h)) HF.out.1 (HS.out.n.keep (S := fun _ => False) (by repeat (first | exact Keeps.refl _ _ | refine Keeps.drewN ?_ _ | refine Keeps.drew ?_ | refine Keeps.alloc ?_ _ | refine Keeps.set ?_ (Or.inl (by rfl)) _)) (fun h => h)) (HS.out.r.keep (S := fun _ => False) (by repeat (first | exact Keeps.refl _ _ | refine Keeps.drewN ?_ _ | refine Keeps.drew ?_ | refine Keeps.alloc ?_ _ | refine Keeps.set ?_ (Or.inl (by rfl)) _)) (fun h => h)) (by omega) (fun k hk => by have := hok k hk; have := HG.out; omega)).mono ?_; rintro e w5 ⟨⟨v, rfl⟩, m1, m2, hk5⟩; have hkw : Keeps (fun _ => False) wr _ := hk5.upto2 (a := wr) (by repeat (first | exact Keeps.refl _ _ | refine Keeps.drewN ?_ _ | refine Keeps.drew ?_ | refine Keeps.alloc ?_ _ | refine Keeps.set ?_ (Or.inl (by rfl)) _)); have hb5 := hk5.blk (blkNew (w := wr) rfl) (by omega); obtain ⟨t0, t1, t2, t3, t4, t5⟩ := cells6 hb5; have hl5 := blkLt hb5; have HM1 := Lib.hid m1; have HM2 := Lib.hid m2; have HKW := Lib.hid hkw; have HK5 := Lib.hid hk5; clear m1 m2 hk5 hkw hb5) | ((with_reducible show Calls _ _ #[.agg #[.int .i64 d.op, _, _], _, _] _ _); go_at_call 93; refine (markS_calls b.cs.length b.rs.length HFT.out.n d A2 d2 ok g (g + 1) _ _ w5 ((HX.out.2.keep HKW.out (fun _ _ h => h)).keep HK5.out (fun k hk e => by have := hok k hk; have := HG.out; omega)) HF.out.2 HM1.out HM2.out (by omega) (fun k hk => by have := hok k hk; have := HG.out; omega)).mono ?_; rintro e w6 ⟨⟨v, rfl⟩, m1, m2, hk6⟩; have HM3 := Lib.hid m1; have HM4 := Lib.hid m2; have HK6 := Lib.hid hk6; clear m1 m2 hk6) | fail)
      go_roundw
      case rel =>
        obtain ⟨X, x1, x2⟩ := HS.out.i
        refine ⟨k + 1, by omega, by go_num, ?_⟩
        unfold Hid
        rw [HT.out, HE.out]
        refine ⟨by rw [flatMap_snoc]; simpa only [namesAx, List.append_assoc] using HM3.out, by rw [flatMap_snoc]; simpa only [rolesAx, List.append_assoc] using HM4.out, ⟨X, ((x1.keep HKW.out (fun h => h)).keep HK5.out (by omega)).keep HK6.out (by omega), by simp only [List.length_append, List.length_singleton]; omega⟩, ((HS.out.k.then_ HKW.out.of0).trans HK5.out (fun i hi => .inl (by omega))).trans HK6.out (fun i hi => .inl (by omega))⟩
      case measure => simp [intOf]; omega
    · obtain rfl : b.incls.length = k := by omega
      rw [List.take_of_length_le (Nat.le_of_eq HN1.out)] at HS
      obtain ⟨y0, y1, y2, y3, y4, y5, y6⟩ := cells7 (HS.out.k.blk HB3.out (by have := HG.out; omega))
      go_wp2_with fail
      go_loopw [44] (fun i wr => ∃ k : Nat, k ≤ b.roles.length ∧ i = .int .i64 k ∧ Hid (UsesSt g (I1 ++ I2.take k) W3 wr)) (fun i _ => b.roles.length - (intOf i).toNat)
      case atStart => exact ⟨0, Nat.zero_le _, rfl, (by rw [List.take_zero, List.append_nil]; exact HS.out)⟩
      case round =>
        obtain ⟨k, hk, rfl, HS⟩ := hrel
        have hzr := HS.out.k.size
        by_cases hlt : k < b.roles.length
        · obtain ⟨bb, o, rfl, hbb, hcl⟩ := (H4.out.keep (HK3.out.of0.then_ HS.out.k) (fun k hk e => by have := hok k hk; have := HG.out; omega)) (by intro h; rw [h] at hlt; simp at hlt)
          have i1 : (k : Int) < b.roles.length := by omega
          have HT := Lib.hid (List.take_succ_eq_append_getElem (l := I2) (i := k) (by rw [HN2.out]; exact hlt))
          have hzx : (I1 ++ I2.take k).length ≤ 4000 := by simp only [List.length_append, List.length_take, HN1.out, HN2.out]; omega
          obtain ⟨z0, z1⟩ := hcl k hlt
          have HE := Lib.hid (HE2.out k hlt (by rw [HN2.out]; exact hlt))
          have hrr := HFT.out.r _ (List.getElem_mem hlt)
          have hnr := HFT.out.n
          generalize b.roles[k].1 = r at *
          generalize b.roles[k].2 = s at *
          clear hcl
          have hv1 : IntKind.i64.wrap (r.tdiv 2) = r / 2 := by rw [Int.tdiv_eq_ediv_of_nonneg (by omega)]; exact IntWalk.i64_in _ (by omega)
          have hv2 : IntKind.i64.wrap (s.tdiv 2) = s / 2 := by rw [Int.tdiv_eq_ediv_of_nonneg (by omega)]; exact IntWalk.i64_in _ (by omega)
          clear hrr hnr
          generalize hxs : (I1 ++ I2.take k) = xs at *
          go_wp2_with fail
          generalize hW5 : World.alloc _ _ = W5
          have hk5 : Keeps (fun _ => False) wr W5 := by rw [← hW5]; repeat (first | exact Keeps.refl _ _ | refine Keeps.drewN ?_ _ | refine Keeps.drew ?_ | refine Keeps.alloc ?_ _ | refine Keeps.set ?_ (Or.inl (by rfl)) _)
          have hb5 : W5.heap[wr.heap.size]? = some (.cells #[.int .i64 r, .int .i64 s] 84 (0, 0)) := by rw [← hW5]; exact blkNew rfl
          clear hW5
          obtain ⟨w6, run6, m6, k6, z6⟩ := (HS.out.r.keep (hk5.drew) (fun h => h)).put (r / 2)
          obtain ⟨w7, run7, m7, k7, z7⟩ := m6.put (s / 2)
          have HH : Hid (∀ w', Keeps (fun i => i = g + 1) W5 w' → w'.cell? ⟨wr.heap.size, 0, none⟩ = some (.int .i64 r) ∧ w'.cell? ⟨wr.heap.size, 1, none⟩ = some (.int .i64 s)) := fun w' hk => cells2 (hk.blk hb5 (by omega))
          have HK5 := Lib.hid hk5
          have HM7 := Lib.hid m7
          have hk56 : Keeps (fun i => i = g + 1) W5 w6 := (show Keeps (fun i => i = g + 1) W5 W5.drew from (Keeps.refl _ _).drew).then_ k6
          have HK6 := Lib.hid hk56
          have HK7 := Lib.hid (hk56.then_ k7)
          clear hb5 hk5 m6 m7 k6 k7 hk56
          go_region_held3 (fun w' => w'.cell? ⟨wr.heap.size, 0, none⟩ = some (.int .i64 r) ∧ w'.cell? ⟨wr.heap.size, 1, none⟩ = some (.int .i64 s))
            (first | (refine HH.out _ ?_; with_reducible exact Keeps.refl _ _) | (refine HH.out _ ?_; with_reducible exact (Keeps.refl _ _).drew) | (refine HH.out _ ?_; with_reducible exact HK6.out) | (refine HH.out _ ?_; with_reducible exact HK7.out) | fail)
            (fail)
          all_goals
            go_wp2_with fail
            go_roundw
            case rel =>
              obtain ⟨X, x1, x2⟩ := HS.out.i
              refine ⟨k + 1, by omega, by go_num, ?_⟩
              unfold Hid
              rw [HT.out, HE.out, ← List.append_assoc, hxs]
              refine ⟨by rw [flatMap_snoc]; simpa only [namesAx, List.append_nil] using (HS.out.n.keep HK5.out (fun h => h)).keep HK7.out (by omega), by rw [flatMap_snoc]; simpa only [rolesAx, List.append_assoc, List.cons_append, List.nil_append] using HM7.out, ⟨X, (x1.keep HK5.out (fun h => h)).keep HK7.out (by omega), by simp only [List.length_append, List.length_singleton]; omega⟩, (HS.out.k.then_ HK5.out.of0).trans HK7.out (fun i hi => .inl (by omega))⟩
            case measure => simp [intOf]; omega
        · obtain rfl : b.roles.length = k := by omega
          rw [List.take_of_length_le (Nat.le_of_eq HN2.out)] at HS
          obtain ⟨y0, y1, y2, y3, y4, y5, y6⟩ := cells7 (HS.out.k.blk HB3.out (by have := HG.out; omega))
          go_wp2_with fail
          go_loopw [60] (fun i wr => ∃ k : Nat, k ≤ b.facts.length ∧ i = .int .i64 k ∧ Hid (UsesSt g (I1 ++ I2 ++ I3.take k) W3 wr)) (fun i _ => b.facts.length - (intOf i).toNat)
          case atStart => exact ⟨0, Nat.zero_le _, rfl, (by rw [List.take_zero, List.append_nil]; exact HS.out)⟩
          case round =>
            obtain ⟨k, hk, rfl, HS⟩ := hrel
            have hzr := HS.out.k.size
            by_cases hlt : k < b.facts.length
            · obtain ⟨bb, o, rfl, hbb, hcl⟩ := (H5.out.keep (HK3.out.of0.then_ HS.out.k) (fun k hk e => by have := hok k hk; have := HG.out; omega)) (by intro h; rw [h] at hlt; simp at hlt)
              have i1 : (k : Int) < b.facts.length := by omega
              have HT := Lib.hid (List.take_succ_eq_append_getElem (l := I3) (i := k) (by rw [HN3.out]; exact hlt))
              have hzx : (I1 ++ I2 ++ I3.take k).length ≤ 4000 := by simp only [List.length_append, List.length_take, HN1.out, HN2.out, HN3.out]; omega
              obtain ⟨A1, d1, z0, z1, z2, z3, r1⟩ := hcl k hlt
              have HX := Lib.hid r1
              have HE := Lib.hid (HE3.out k hlt (by rw [HN3.out]; exact hlt))
              have HF := Lib.hid (HFT.out.f _ (List.getElem_mem hlt))
              generalize b.facts[k].1 = x at *
              generalize b.facts[k].2 = c at *
              clear r1 hcl
              generalize hxs : (I1 ++ I2 ++ I3.take k) = xs at *
              have HXS := Lib.hid hxs
              clear hxs
              obtain ⟨X, x1, x2⟩ := HS.out.i
              have HI := Lib.hid x1
              clear x1
              go_wp2_with (go_at_call 93; refine (markS_calls b.cs.length b.rs.length HFT.out.n c A1 d1 ok g (g + 1) (xs.flatMap namesAx) (xs.flatMap rolesAx) _ (HX.out.keep (S := fun _ => False) (by repeat (first | exact Keeps.refl _ _ | refine Keeps.drewN ?_ _ | refine Keeps.drew ?_ | refine Keeps.alloc ?_ _ | refine Keeps.set ?_ (Or.inl (by rfl)) _)) (fun _ _ h => h)) HF.out (HS.out.n.keep (S := fun _ => False) (by repeat (first | exact Keeps.refl _ _ | refine Keeps.drewN ?_ _ | refine Keeps.drew ?_ | refine Keeps.alloc ?_ _ | refine Keeps.set ?_ (Or.inl (by rfl)) _)) (fun h => h)) (HS.out.r.keep (S := fun _ => False) (by repeat (first | exact Keeps.refl _ _ | refine Keeps.drewN ?_ _ | refine Keeps.drew ?_ | refine Keeps.alloc ?_ _ | refine Keeps.set ?_ (Or.inl (by rfl)) _)) (fun h => h)) (by omega) (fun k hk => by have := hok k hk; have := HG.out; omega)).mono ?_; rintro e w5 ⟨⟨v, rfl⟩, m1, m2, hk5⟩; have hkw : Keeps (fun _ => False) wr _ := hk5.upto2 (a := wr) (by repeat (first | exact Keeps.refl _ _ | refine Keeps.drewN ?_ _ | refine Keeps.drew ?_ | refine Keeps.alloc ?_ _ | refine Keeps.set ?_ (Or.inl (by rfl)) _)); have hb5 := hk5.blk (blkNew (w := wr) rfl) (by omega); obtain ⟨t0, t1, t2, t3⟩ := cells4 hb5; have hl5 := blkLt hb5; obtain ⟨w6, run6, m6, k6, z6⟩ := ((HI.out.keep hkw (fun h => h)).keep hk5 (by omega)).put x; have HM1 := Lib.hid m1; have HM2 := Lib.hid m2; have HM6 := Lib.hid m6; have HK6 := Lib.hid k6; have HKW := Lib.hid hkw; have HK5 := Lib.hid hk5; clear m1 m2 hk5 hkw hb5 m6 k6)
              go_roundw
              case rel =>
                refine ⟨k + 1, by omega, by go_num, ?_⟩
                unfold Hid
                rw [HT.out, HE.out, ← List.append_assoc, HXS.out]
                refine ⟨by rw [flatMap_snoc]; simpa only [namesAx] using HM1.out.keep HK6.out (by omega), by rw [flatMap_snoc]; simpa only [rolesAx] using HM2.out.keep HK6.out (by omega), ⟨X ++ [x], HM6.out, by simp only [List.length_append, List.length_singleton]; omega⟩, ((HS.out.k.then_ HKW.out.of0).trans HK5.out (fun i hi => .inl (by omega))).trans HK6.out (fun i hi => .inl (by omega))⟩
              case measure => simp [intOf]; omega
            · obtain rfl : b.facts.length = k := by omega
              rw [List.take_of_length_le (Nat.le_of_eq HN3.out)] at HS
              obtain ⟨y0, y1, y2, y3, y4, y5, y6⟩ := cells7 (HS.out.k.blk HB3.out (by have := HG.out; omega))
              go_wp2_with fail
              go_loopw [76] (fun i wr => ∃ k : Nat, k ≤ b.links.length ∧ i = .int .i64 k ∧ Hid (UsesSt g (I1 ++ I2 ++ I3 ++ I4.take k) W3 wr)) (fun i _ => b.links.length - (intOf i).toNat)
              case atStart => exact ⟨0, Nat.zero_le _, rfl, (by rw [List.take_zero, List.append_nil]; exact HS.out)⟩
              case round =>
                obtain ⟨k, hk, rfl, HS⟩ := hrel
                have hzr := HS.out.k.size
                by_cases hlt : k < b.links.length
                · obtain ⟨bb, o, rfl, hbb, hcl⟩ := (H6.out.keep (HK3.out.of0.then_ HS.out.k) (fun k hk e => by have := hok k hk; have := HG.out; omega)) (by intro h; rw [h] at hlt; simp at hlt)
                  have i1 : (k : Int) < b.links.length := by omega
                  have HT := Lib.hid (List.take_succ_eq_append_getElem (l := I4) (i := k) (by rw [HN4.out]; exact hlt))
                  have hzx : (I1 ++ I2 ++ I3 ++ I4.take k).length ≤ 4000 := by simp only [List.length_append, List.length_take, HN1.out, HN2.out, HN3.out, HN4.out]; omega
                  obtain ⟨z0, z1, z2⟩ := hcl k hlt
                  have HE := Lib.hid (HE4.out k hlt (by rw [HN4.out]; exact hlt))
                  generalize b.links[k].1 = r at *
                  generalize b.links[k].2.1 = f at *
                  generalize b.links[k].2.2 = t at *
                  clear hcl
                  generalize hxs : (I1 ++ I2 ++ I3 ++ I4.take k) = xs at *
                  obtain ⟨X, x1, x2⟩ := HS.out.i
                  go_wp2_with fail
                  generalize hW5 : World.alloc _ _ = W5
                  have hk5 : Keeps (fun _ => False) wr W5 := by rw [← hW5]; repeat (first | exact Keeps.refl _ _ | refine Keeps.drewN ?_ _ | refine Keeps.drew ?_ | refine Keeps.alloc ?_ _ | refine Keeps.set ?_ (Or.inl (by rfl)) _)
                  have hb5 : W5.heap[wr.heap.size]? = some (.cells #[.int .i64 r, .int .i64 f, .int .i64 t] 89 (0, 0)) := by rw [← hW5]; exact blkNew rfl
                  clear hW5
                  obtain ⟨w6, run6, m6, k6, z6⟩ := (HS.out.r.keep (hk5.drew) (fun h => h)).put r
                  obtain ⟨w7, run7, m7, k7, z7⟩ := ((x1.keep (hk5.drew) (fun h => h)).keep k6 (by omega)).put f
                  obtain ⟨w8, run8, m8, k8, z8⟩ := m7.put t
                  have HH : Hid (∀ w', Keeps (fun i => i = g + 1 ∨ i = g + 1 + 1) W5 w' → w'.cell? ⟨wr.heap.size, 0, none⟩ = some (.int .i64 r) ∧ w'.cell? ⟨wr.heap.size, 1, none⟩ = some (.int .i64 f) ∧ w'.cell? ⟨wr.heap.size, 2, none⟩ = some (.int .i64 t)) := fun w' hk => cells3 (hk.blk hb5 (by omega))
                  have HK5 := Lib.hid hk5
                  have hk56 : Keeps (fun i => i = g + 1 ∨ i = g + 1 + 1) W5 w6 := (show Keeps (fun i => i = g + 1 ∨ i = g + 1 + 1) W5 W5.drew from (Keeps.refl _ _).drew).trans k6 (fun i hi => .inl (by omega))
                  have hk57 := hk56.trans k7 (fun i hi => .inl (by omega))
                  have hk58 := hk57.trans k8 (fun i hi => .inl (by omega))
                  have HK6 := Lib.hid hk56
                  have HK7 := Lib.hid hk57
                  have HK8 := Lib.hid hk58
                  have HM6 := Lib.hid ((m6.keep k7 (by omega)).keep k8 (by omega))
                  have HM8 := Lib.hid m8
                  clear hb5 hk5 m6 m7 m8 k6 k7 k8 hk56 hk57 hk58 x1
                  go_region_held3 (fun w' => w'.cell? ⟨wr.heap.size, 0, none⟩ = some (.int .i64 r) ∧ w'.cell? ⟨wr.heap.size, 1, none⟩ = some (.int .i64 f) ∧ w'.cell? ⟨wr.heap.size, 2, none⟩ = some (.int .i64 t))
                    (first | (refine HH.out _ ?_; with_reducible exact Keeps.refl _ _) | (refine HH.out _ ?_; with_reducible exact (Keeps.refl _ _).drew) | (refine HH.out _ ?_; with_reducible exact HK6.out) | (refine HH.out _ ?_; with_reducible exact HK7.out) | (refine HH.out _ ?_; with_reducible exact HK8.out) | fail)
                    (fail)
                  all_goals
                    go_wp2_with fail
                    go_roundw
                    case rel =>
                      refine ⟨k + 1, by omega, by go_num, ?_⟩
                      unfold Hid
                      rw [HT.out, HE.out, ← List.append_assoc, hxs]
                      refine ⟨by rw [flatMap_snoc]; simpa only [namesAx, List.append_nil] using (HS.out.n.keep HK5.out (fun h => h)).keep HK8.out (by omega), by rw [flatMap_snoc]; simpa only [rolesAx] using HM6.out, ⟨X ++ [f] ++ [t], HM8.out, by simp only [List.length_append, List.length_singleton]; omega⟩, (HS.out.k.then_ HK5.out.of0).trans HK8.out (fun i hi => .inl (by omega))⟩
                    case measure => simp [intOf]; omega
                · obtain rfl : b.links.length = k := by omega
                  rw [List.take_of_length_le (Nat.le_of_eq HN4.out)] at HS
                  obtain ⟨y0, y1, y2, y3, y4, y5, y6⟩ := cells7 (HS.out.k.blk HB3.out (by have := HG.out; omega))
                  have hzz : (I1 ++ I2 ++ I3 ++ I4).length ≤ 4000 := by simp only [List.length_append, HN1.out, HN2.out, HN3.out, HN4.out]; omega
                  rw [← HAX.out] at HS hzz
                  obtain ⟨X, x1, x2⟩ := HS.out.i
                  have HI := Lib.hid x1
                  have hxl : X.length ≤ 1000000 := by omega
                  clear x1
                  go_wp2_with (first | ((with_reducible show Calls _ _ #[.map (some g)] _ _); go_at_call 94; refine (sortedS_calls g _ wr HS.out.n HC1.out).mono ?_; rintro e w5 ⟨v1, K1, rfl, o1, d1, m1, k5⟩; have HO1 := Lib.hid o1; have HD1 := Lib.hid d1; have HM1 := Lib.hid m1; have HK5 := Lib.hid k5; clear o1 d1 m1 k5) | ((with_reducible show Calls _ _ #[.map (some (g + 1))] _ _); go_at_call 94; refine (sortedS_calls (g + 1) _ w5 (HS.out.r.keep HK5.out (fun h => h)) HC2.out).mono ?_; rintro e w6 ⟨v2, K2, rfl, o2, d2, m2, k6⟩; have HO2 := Lib.hid o2; have HD2 := Lib.hid d2; have HM2 := Lib.hid m2; have HK6 := Lib.hid k6; clear o2 d2 m2 k6) | (go_at_call 94; refine (sortedS_calls (g + 1 + 1) X w6 ((HI.out.keep HK5.out (fun h => h)).keep HK6.out (fun h => h)) hxl).mono ?_; rintro e w7 ⟨v3, K3, rfl, o3, d3, m3, k7⟩; have HK7 := Lib.hid k7; clear o3 d3 m3 k7) | fail)
                  refine bodyPost_ret (v := .tuple #[v1, v2, v3, .int .i64 0]) (by simp [results, Tryz.results73, go_sem]) rfl ?_
                  have hz5 := HK5.out.size
                  have hzk := HK3.out.size
                  refine ⟨v1, v2, v3, K1, K2, rfl, ?_, ?_, HD1.out, HD2.out, HM1.out, HM2.out, ?_⟩
                  · exact World.ownsRow.mono ((HO1.out.keep' HK6.out (fun _ _ h => h)).keep' HK7.out (fun _ _ h => h)) (by omega)
                  · exact World.ownsRow.mono (HO2.out.keep' HK7.out (fun _ _ h => h)) (by omega)
                  · exact (((HK3.out.trans HS.out.k (fun i hi => .inr (by have := HG.out; omega))).then_ HK5.out).then_ HK6.out).then_ HK7.out
end Go.Proofs.YthiclhbnggehoaaGreatDoor
/- module.names, at one axiom. -/
namespace Go.Proofs.YthiclhbnggehoaaGreatDoor
open Go.RowKit
set_option linter.unusedVariables false
set_option linter.unusedSimpArgs false
/-- What the walks of package module ask of a knowledge base. -/
structure KbOk (b : Kb) : Prop where
  fit : KbFit b
  val : kbValidB b = true
  isr : isKbR b = true
  nm : validNamesB b.cs b.rs b.is = namesR b.cs b.rs b.is
  l1 : b.incls.length ≤ 1000
  l2 : b.roles.length ≤ 1000
  l3 : b.facts.length ≤ 1000
  l4 : b.links.length ≤ 1000
  n0 : b.cs.length ≤ 1000
  n1 : b.rs.length ≤ 1000
  n2 : b.is.length ≤ 1000
  occ : ∀ k, k < kbCount b → (namesAx (axAt b k)).length ≤ 1000000 ∧ (rolesAx (axAt b k)).length ≤ 1000000
  shp : ∀ k, k < kbCount b → AxShape (axAt b k)
theorem axAt_mem {b : Kb} {k : Nat} (h : k < kbCount b) : axAt b k ∈ axs b := by
  have hl := axs_len b
  unfold axAt
  rw [List.getD_eq_getElem?_getD, List.getElem?_eq_getElem (by omega), Option.getD_some]
  exact List.getElem_mem _
theorem one_sub {b : Kb} {k : Nat} (h : k < kbCount b) : [axAt b k].Sublist (axs b) := List.singleton_sublist.2 (axAt_mem h)
theorem kbOf_parts (b : Kb) (x : Ax) (hx : x ∈ axs b) : (∀ y ∈ (kbOf b [x]).incls, y ∈ b.incls) ∧ (∀ y ∈ (kbOf b [x]).roles, y ∈ b.roles) ∧ (∀ y ∈ (kbOf b [x]).facts, y ∈ b.facts) ∧ (∀ y ∈ (kbOf b [x]).links, y ∈ b.links) := by
  have hs : [x].Sublist (axs b) := List.singleton_sublist.2 hx
  have h1 := hs.filterMap Ax.incl?
  have h2 := hs.filterMap Ax.role?
  have h3 := hs.filterMap Ax.fact?
  have h4 := hs.filterMap Ax.link?
  rw [axs_incls] at h1
  rw [axs_roles] at h2
  rw [axs_facts] at h3
  rw [axs_links] at h4
  exact ⟨fun y hy => h1.subset hy, fun y hy => h2.subset hy, fun y hy => h3.subset hy, fun y hy => h4.subset hy⟩
theorem kbFit_one {b : Kb} (h : KbFit b) {x : Ax} (hx : x ∈ axs b) : KbFit (kbOf b [x]) := by
  obtain ⟨p1, p2, p3, p4⟩ := kbOf_parts b x hx
  exact ⟨h.n, fun y hy => h.i y (p1 y hy), fun y hy => h.r y (p2 y hy), fun y hy => h.f y (p3 y hy), fun y hy => h.l y (p4 y hy)⟩
theorem sortZ_iff {l : List Int} {y : Int} : y ∈ sortZ l ↔ y ∈ l := List.mem_mergeSort
theorem one_len {α : Type} (l : List α) (h : l.length ≤ 1) : l.length ≤ 1000 := by omega
theorem kbOf_lens (b : Kb) (x : Ax) : (kbOf b [x]).incls.length ≤ 1 ∧ (kbOf b [x]).roles.length ≤ 1 ∧ (kbOf b [x]).facts.length ≤ 1 ∧ (kbOf b [x]).links.length ≤ 1 := by
  refine ⟨List.length_filterMap_le .., List.length_filterMap_le .., List.length_filterMap_le .., List.length_filterMap_le ..⟩
/-- A signature is returned, in new memory. -/
def RetSig (PX PY : Int → Prop) (w : World) (e : Ending) (w' : World) : Prop :=
  ∃ (X Y : List Int) (A B : Option Addr) (c d : Nat), e = .returned (.agg #[.slice A X.length c, .slice B Y.length d]) ∧ SigR (fun k => w.heap.size ≤ k ∧ k < w'.heap.size) w' X Y A B ∧ (∀ y, y ∈ X ↔ PX y) ∧ (∀ y, y ∈ Y ↔ PY y) ∧ X.length ≤ 1000000 ∧ Y.length ≤ 1000000 ∧ X.Pairwise (· < ·) ∧ Y.Pairwise (· < ·) ∧ Keeps (fun _ => False) w w'
theorem sortZ_lt {l : List Int} (h : l.Nodup) : (sortZ l).Pairwise (· < ·) := by
  have h1 := sortZ_sorted l
  have h2 : (sortZ l).Nodup := (List.mergeSort_perm l _).symm.nodup_iff.1 h
  exact (h1.and h2).imp (fun {a b} h => by have := h.1; have := h.2; omega)
set_option maxRecDepth 100000 in
set_option maxHeartbeats 4000000 in
theorem names1_calls (b : Kb) (p : KbA) (k : Nat) (A : Option Addr) (cl : Nat) (ok : Nat → Prop) (m : Int) (w : World) (hm : w.cell? ⟨1, 0, none⟩ = some (.int .i64 m)) (ht : ArgsTab w) (hb : KbR ok w b p) (hok : ∀ k, ok k → k < w.heap.size) (ho : KbOk b) (hk : k < kbCount b) (hl : Row1 ok w (Value.int .i64) [(k : Int)] A) :
    Calls Tryz.prog 53 #[.agg #[.slice p.a0 b.cs.length p.c0, .slice p.a1 b.rs.length p.c1, .slice p.a2 b.is.length p.c2, .slice p.a3 b.incls.length p.c3, .slice p.a4 b.roles.length p.c4, .slice p.a5 b.facts.length p.c5, .slice p.a6 b.links.length p.c6], .slice A 1 cl] w (RetSig (fun y => y ∈ namesAx (axAt b k)) (fun y => y ∈ rolesAx (axAt b k)) w) := by
  have HPK : Hid (∀ W, Keeps (fun _ => False) w W → Calls Tryz.prog 74 #[.agg #[.slice p.a0 b.cs.length p.c0, .slice p.a1 b.rs.length p.c1, .slice p.a2 b.is.length p.c2, .slice p.a3 b.incls.length p.c3, .slice p.a4 b.roles.length p.c4, .slice p.a5 b.facts.length p.c5, .slice p.a6 b.links.length p.c6], .slice A 1 cl] W (RetKb (kbOf b [axAt b k]) W)) :=
    fun W h => pick1_calls b p k A cl ok W (hb.keep h (fun _ _ h => h)) (fun k hk => Nat.lt_of_lt_of_le (hok k hk) h.size) hk (ho.shp k hk) (hl.keep h (fun _ _ h => h)) (by have := ho.l1; omega) (by have := ho.l2; omega) (by have := ho.l3; omega) (by have := ho.l4; omega) (by have := ho.n0; omega) (by have := ho.n1; omega) (by have := ho.n2; omega)
  have hax : axs (kbOf b [axAt b k]) = [axAt b k] := axs_kbOf (one_sub hk)
  have HUS : Hid (∀ W q, Keeps (fun _ => False) w W → KbR (fun i => w.heap.size ≤ i) W (kbOf b [axAt b k]) q → Calls Tryz.prog 73 #[.agg #[.slice q.a0 (kbOf b [axAt b k]).cs.length q.c0, .slice q.a1 (kbOf b [axAt b k]).rs.length q.c1, .slice q.a2 (kbOf b [axAt b k]).is.length q.c2, .slice q.a3 (kbOf b [axAt b k]).incls.length q.c3, .slice q.a4 (kbOf b [axAt b k]).roles.length q.c4, .slice q.a5 (kbOf b [axAt b k]).facts.length q.c5, .slice q.a6 (kbOf b [axAt b k]).links.length q.c6]] W
      fun e w' => ∃ v1 v2 v3 K1 K2, e = .returned (.tuple #[v1, v2, v3, .int .i64 0]) ∧ OwnInts w' W.heap.size v1 (sortZ K1) ∧ OwnInts w' W.heap.size v2 (sortZ K2) ∧ K1.Nodup ∧ K2.Nodup ∧ (∀ y, y ∈ K1 ↔ y ∈ namesAx (axAt b k)) ∧ (∀ y, y ∈ K2 ↔ y ∈ rolesAx (axAt b k)) ∧ Keeps (fun _ => False) W w') := by
    intro W q hW hq
    obtain ⟨q1, q2, q3, q4⟩ := kbOf_lens b (axAt b k)
    have h := usesK_calls (kbOf b [axAt b k]) q (fun i => w.heap.size ≤ i ∧ i < W.heap.size) m W (hW.cell hm (fun h => h)) (ht.keep hW (fun h => h)) hq.lim (fun k hk => hk.2) (kbFit_one ho.fit (axAt_mem hk)) (by rw [kbValid_eq (kbOf b [axAt b k]) ho.nm]; exact kbOf_valid (one_sub hk) ho.isr) (one_len _ q1) (one_len _ q2) (one_len _ q3) (one_len _ q4)
      (by rw [hax]; simpa using (ho.occ k hk).1) (by rw [hax]; simpa using (ho.occ k hk).2)
    rw [hax] at h
    simpa only [List.flatMap_cons, List.flatMap_nil, List.append_nil] using h
  have hoc := ho.occ k hk
  have HOC := Lib.hid hoc
  clear hb hm ht hl hax hoc
  generalize kbOf b [axAt b k] = b1 at *
  generalize axAt b k = x at *
  obtain ⟨a0, a1, a2, a3, a4, a5, a6, c0, c1, c2, c3, c4, c5, c6⟩ := p
  simp only at HPK ⊢
  go_enter Tryz.func53, Tryz.ntmps53
  go_wp2_with (first | (go_at_call 74; refine (HPK.out _ (by repeat (first | exact Keeps.refl _ _ | refine Keeps.drewN ?_ _ | refine Keeps.drew ?_ | refine Keeps.alloc ?_ _ | refine Keeps.set ?_ (Or.inl (by rfl)) _))).mono ?_; clear HPK; rintro e w2 ⟨q, rfl, hq, hk2⟩; have HK2 := Lib.hid (Keeps.then_ (a := w) (by repeat (first | exact Keeps.refl _ _ | refine Keeps.drewN ?_ _ | refine Keeps.drew ?_ | refine Keeps.alloc ?_ _ | refine Keeps.set ?_ (Or.inl (by rfl)) _)) hk2); have hb2 : w2.heap[w.heap.size + 1]? = some (.cells #[.slice none 0 0, .slice none 0 0] 33 (0, 0)) := hk2.blk (blkNew (by simp)) (fun h => h); have HB2 := Lib.hid hb2; have hz2 := hk2.size; have HQ := Lib.hid (hq.mono (ok' := fun i => w.heap.size ≤ i) (fun i hi => by simp at hi; omega)); clear hk2 hb2 hq) | (go_at_call 73; refine (HUS.out w2 q HK2.out HQ.out).mono ?_; clear HUS; rintro e w3 ⟨v1, v2, v3, K1, K2, rfl, o1, o2, d1, d2, m1, m2, hk3⟩; obtain ⟨-, A1, e1, rfl, he1, r1⟩ := ownedRow1 o1; obtain ⟨-, A2, e2, rfl, he2, r2⟩ := ownedRow1 o2; have HR1 := Lib.hid r1.lim; have HR2 := Lib.hid r2.lim; have HD1 := Lib.hid d1; have HD2 := Lib.hid d2; have HM1 := Lib.hid m1; have HM2 := Lib.hid m2; have hb3 := hk3.blk HB2.out (fun h => h); have HB3 := Lib.hid hb3; obtain ⟨k0, k1⟩ := cells2 hb3; have f0 := blkFree hb3 0; have f1 := blkFree hb3 1; have hl3 := blkLt hb3; have HK3 := Lib.hid (HK2.out.then_ hk3); have hz3 := hk3.size; clear o1 o2 d1 d2 m1 m2 r1 r2 hk3 hb3) | fail)
  have hz2' : w.heap.size + 2 ≤ w2.heap.size := by simpa using hz2
  generalize hW8 : World.setCell _ _ _ = W8
  have hK8 : Keeps (fun i => i = w.heap.size + 1) w3 W8 := by rw [← hW8]; repeat (first | exact Keeps.refl _ _ | refine Keeps.drewN ?_ _ | refine Keeps.drew ?_ | refine Keeps.alloc ?_ _ | refine Keeps.set ?_ (Or.inl (by rfl)) _)
  have hb8 := blkSet (blkSet HB3.out 0 (.slice A1 (sortZ K1).length e1)) 1 (.slice A2 (sortZ K2).length e2)
  rw [hW8] at hb8
  clear hW8 k0 k1
  obtain ⟨t0, t1⟩ := cells2 (v0 := .slice A1 (sortZ K1).length e1) (v1 := .slice A2 (sortZ K2).length e2) (by simpa using hb8)
  refine bodyPost_ret (v := .agg #[.slice A1 (sortZ K1).length e1, .slice A2 (sortZ K2).length e2]) (by simp [results, Tryz.results53, go_sem, t0, t1]) rfl ?_
  have hz8 := hK8.size
  refine ⟨sortZ K1, sortZ K2, A1, A2, e1, e2, rfl, ⟨((HR1.out).keep hK8 (fun k hk e => by have := hk.1; omega)).mono (fun k hk => by have := hk.1; have := hk.2; exact ⟨by omega, by omega⟩), ((HR2.out).keep hK8 (fun k hk e => by have := hk.1; omega)).mono (fun k hk => by have := hk.1; have := hk.2; exact ⟨by omega, by omega⟩)⟩, fun y => sortZ_iff.trans (HM1.out y), fun y => sortZ_iff.trans (HM2.out y), ?_, ?_, sortZ_lt HD1.out, sortZ_lt HD2.out, HK3.out.trans hK8 (fun i hi => .inr (by omega))⟩
  · rw [sortZ_len]; have := nodup_len HD1.out (fun y hy => (HM1.out y).1 hy); have := HOC.out.1; omega
  · rw [sortZ_len]; have := nodup_len HD2.out (fun y hy => (HM2.out y).1 hy); have := HOC.out.2; omega
end Go.Proofs.YthiclhbnggehoaaGreatDoor
