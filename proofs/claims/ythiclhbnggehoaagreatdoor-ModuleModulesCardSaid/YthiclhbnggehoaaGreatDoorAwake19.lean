/- isagogelaw19.awake: the fixed calls. -/
import Derived.Test.YthiclhbnggehoaaGreatDoorLocTop
import Derived.Test.YthiclhbnggehoaaGreatDoorLetters
import Derived.Test.YthiclhbnggehoaaGreatDoorSameInts
import Derived.Deep.RegionHeld3
namespace Go.Proofs.YthiclhbnggehoaaGreatDoor
open Go.RowKit
set_option linter.unusedVariables false
set_option linter.unusedSimpArgs false
def cellsSig (v0 v1 : Value) : Array Value := #[v0, v1]
set_option maxRecDepth 100000 in
set_option maxHeartbeats 4000000 in
theorem namesBad_calls (b : Kb) (p : KbA) (v : Value) (ok : Nat → Prop) (m : Int) (w : World) (hm : w.cell? ⟨1, 0, none⟩ = some (.int .i64 m)) (ht : ArgsTab w) (hb : KbR ok w b p) (hbad : kbValidB b = false) (h3 : b.incls.length ≤ 1000000) (h4 : b.roles.length ≤ 1000000) (h5 : b.facts.length ≤ 1000000) (h6 : b.links.length ≤ 1000000) :
    Calls Tryz.prog 22 #[.agg #[.slice p.a0 b.cs.length p.c0, .slice p.a1 b.rs.length p.c1, .slice p.a2 b.is.length p.c2, .slice p.a3 b.incls.length p.c3, .slice p.a4 b.roles.length p.c4, .slice p.a5 b.facts.length p.c5, .slice p.a6 b.links.length p.c6], v] w fun e w' => e = .returned (.tuple #[.agg #[.slice none 0 0, .slice none 0 0], .int .i64 20]) ∧ Keeps (fun _ => False) w w' := by
  have HCK : Hid (∀ W, Keeps (fun _ => False) w W → Calls Tryz.prog 34 #[.agg #[.slice p.a0 b.cs.length p.c0, .slice p.a1 b.rs.length p.c1, .slice p.a2 b.is.length p.c2, .slice p.a3 b.incls.length p.c3, .slice p.a4 b.roles.length p.c4, .slice p.a5 b.facts.length p.c5, .slice p.a6 b.links.length p.c6]] W fun e w' => e = .returned (.int .i64 20) ∧ Keeps (fun _ => False) W w') := fun W h => by
    have h2 := check_calls b p ok m W (h.cell hm (fun h => h)) (ht.keep h (fun h => h)) (hb.keep h (fun _ _ h => h)) h3 h4 h5 h6
    unfold checkE at h2
    rw [hbad] at h2
    exact h2
  clear hb hm ht hbad
  obtain ⟨a0, a1, a2, a3, a4, a5, a6, c0, c1, c2, c3, c4, c5, c6⟩ := p
  simp only at HCK ⊢
  go_enter Tryz.func22, Tryz.ntmps22
  go_wp2_with (go_at_call 34; refine (HCK.out _ (by repeat (first | exact Keeps.refl _ _ | refine Keeps.drewN ?_ _ | refine Keeps.drew ?_ | refine Keeps.alloc ?_ _ | refine Keeps.set ?_ (Or.inl (by rfl)) _))).mono ?_; rintro e w2 ⟨rfl, hk2⟩; have hb2 : w2.heap[w.heap.size + 1]? = some (.cells #[.slice none 0 0, .slice none 0 0] 33 (0, 0)) := hk2.blk (blkNew (by simp)) (fun h => h); obtain ⟨x0, x1⟩ := cells2 hb2; have f0 := blkFree hb2 0; have f1 := blkFree hb2 1; have hl := blkLt hb2; have HB2 := Lib.hid hb2; have HK2 := Lib.hid (Keeps.then_ (a := w) (by repeat (first | exact Keeps.refl _ _ | refine Keeps.drewN ?_ _ | refine Keeps.drew ?_ | refine Keeps.alloc ?_ _ | refine Keeps.set ?_ (Or.inl (by rfl)) _)) hk2); clear hk2 hb2)
  generalize hW8 : World.setCell _ _ _ = W8
  have hb8 := blkSet (blkSet HB2.out 0 (.slice none 0 0)) 1 (.slice none 0 0)
  rw [hW8] at hb8
  have hK8 : Keeps (fun k => k = w.heap.size + 1) w2 W8 := by rw [← hW8]; exact (Keeps.set1 _ _ _ _).then_ (Keeps.set1 _ _ _ _)
  clear hW8 x0 x1
  obtain ⟨t0, t1⟩ := cells2 (v0 := .slice none 0 0) (v1 := .slice none 0 0) (by simpa using hb8)
  refine bodyPost_ret (v := .tuple #[.agg #[.slice none 0 0, .slice none 0 0], .int .i64 20]) (by simp [results, Tryz.results22, go_sem, t0, t1]) rfl ?_
  exact ⟨rfl, HK2.out.trans hK8 (fun k hk => .inr (by omega))⟩
theorem sigRow {W : World} {g : Nat} (h : W.heap[g]? = some (.cells #[.int .i64 0] 3 (0, 0))) : SigR (fun k => k < W.heap.size) W [0] [] (some ⟨g, 0, none⟩) none :=
  ⟨fun _ => ⟨g, 0, rfl, blkLt h, fun i hi => by
    have hi1 : i < 1 := hi
    obtain rfl : i = 0 := by omega
    exact (blkCell h _).trans rfl⟩, fun h => absurd rfl h⟩
theorem lettersSig : sigOkB lettersKb [0] [] = true := by decide +kernel
theorem modLet (kind : Int) (hk : kindOk kind = true) (q : KbA) (g : Nat) (m : Int) (W : World) (hm : W.cell? ⟨1, 0, none⟩ = some (.int .i64 m)) (ht : ArgsTab W) (hq : KbR (fun k => k < W.heap.size) W lettersKb q) (h : W.heap[g]? = some (.cells #[.int .i64 0] 3 (0, 0))) :
    Calls Tryz.prog 9 #[.agg #[.slice q.a0 lettersKb.cs.length q.c0, .slice q.a1 lettersKb.rs.length q.c1, .slice q.a2 lettersKb.is.length q.c2, .slice q.a3 lettersKb.incls.length q.c3, .slice q.a4 lettersKb.roles.length q.c4, .slice q.a5 lettersKb.facts.length q.c5, .slice q.a6 lettersKb.links.length q.c6], .agg #[.slice (some ⟨g, 0, none⟩) 1 1, .slice none 0 0], .int .i64 kind] W fun e w' => ∃ v, e = .returned (.tuple #[v, .int .i64 0]) ∧ OwnInts w' W.heap.size v (zs (moduleM lettersKb [0] [] kind)) ∧ Keeps (fun _ => False) W w' := by
  refine (modTop_calls lettersKb q [0] [] kind (some ⟨g, 0, none⟩) none 1 0 (fun k => k < W.heap.size) m W hm ht hq (fun _ h => h) (by decide) (by decide) (by decide) (by decide) (sigRow h) (by decide) (by decide) (fun h => kbOk_of h)).mono ?_
  rintro e w' ⟨v, l, E, rfl, ho, hkp, -, -, h3⟩
  obtain ⟨rfl, rfl⟩ := h3 lettersValid (by rw [lettersSig, hk]; rfl)
  exact ⟨v, rfl, ho, hkp⟩
theorem mod0 : zs (moduleM lettersKb [0] [] 0) = [0, 1] := by unfold moduleM; rw [if_neg (by decide), lettersCount]; show zs (modL (axAt lettersKb) false [0] [] (List.range 3)) = _; rw [lettersBot]; rfl
theorem mod2 : zs (moduleM lettersKb [0] [] 2) = [] := by unfold moduleM; rw [if_pos rfl, lettersCount, lettersStar]; rfl
theorem locLet (q : KbA) (g : Nat) (m : Int) (W : World) (hm : W.cell? ⟨1, 0, none⟩ = some (.int .i64 m)) (ht : ArgsTab W) (hq : KbR (fun k => k < W.heap.size) W lettersKb q) (h : W.heap[g]? = some (.cells #[.int .i64 0] 3 (0, 0))) :
    Calls Tryz.prog 19 #[.agg #[.slice q.a0 lettersKb.cs.length q.c0, .slice q.a1 lettersKb.rs.length q.c1, .slice q.a2 lettersKb.is.length q.c2, .slice q.a3 lettersKb.incls.length q.c3, .slice q.a4 lettersKb.roles.length q.c4, .slice q.a5 lettersKb.facts.length q.c5, .slice q.a6 lettersKb.links.length q.c6], .int .i64 2, .agg #[.slice (some ⟨g, 0, none⟩) 1 1, .slice none 0 0], .int .i64 0] W fun e w' => e = .returned (.tuple #[.bool true, .int .i64 0]) ∧ Keeps (fun _ => False) W w' := by
  refine (locTop_calls lettersKb q 2 [0] [] 0 (some ⟨g, 0, none⟩) none 1 0 (fun k => k < W.heap.size) m W hm ht hq (fun _ h => h) (by decide) (by decide) (by decide) (by decide) (sigRow h) (by decide) (by decide) (fun h => kbOk_of h)).mono ?_
  rintro e w' ⟨x, E, rfl, hkp, -, -, h3⟩
  obtain ⟨rfl, rfl⟩ := h3 lettersValid (by rw [lettersSig]; decide)
  refine ⟨?_, hkp⟩
  have e : localX ((0 : Int) == 1) (inL [0]) (inL []) (axAt lettersKb (2 : Int).toNat) = true := lettersLocal
  rw [e]
set_option maxRecDepth 100000 in
set_option maxHeartbeats 4000000 in
theorem awake19_calls (m : Int) (w : World) (hm : w.cell? ⟨1, 0, none⟩ = some (.int .i64 m)) (ht : ArgsTab w) :
    Calls Tryz.prog 8 #[] w fun e w' => e = .returned (.bool true) ∧ Keeps (fun _ => False) w w' := by
  go_enter Tryz.func8, Tryz.ntmps8
  go_wp2_with fail
  generalize hW1 : World.alloc _ _ = W1
  have hk1 : Keeps (fun _ => False) w W1 := by rw [← hW1]; repeat (first | exact Keeps.refl _ _ | refine Keeps.drewN ?_ _ | refine Keeps.drew ?_ | refine Keeps.alloc ?_ _ | refine Keeps.set ?_ (Or.inl (by rfl)) _)
  have hs0 : W1.heap[w.heap.size]? = some (.cells #[.int .i64 0] 3 (0, 0)) := by rw [← hW1]; exact blkAlloc (blkNew rfl) _
  have hs1 : W1.heap[w.heap.size + 1]? = some (.cells #[.slice (some ⟨w.heap.size, 0, none⟩) 1 1, .slice none 0 0] 33 (0, 0)) := by rw [← hW1]; exact blkNew (by simp)
  clear hW1
  have HH : Hid (∀ w', Keeps (fun _ => False) W1 w' → (w'.cell? ⟨w.heap.size + 1, 0, none⟩ = some (.slice (some ⟨w.heap.size, 0, none⟩) 1 1) ∧ w'.cell? ⟨w.heap.size + 1, 1, none⟩ = some (.slice none 0 0))) := fun w' hk => cells2 (hk.blk hs1 (fun h => h))
  have HS0 := Lib.hid hs0
  have HM := Lib.hid (hk1.cell hm (fun h => h))
  have HT := Lib.hid (ht.keep hk1 (fun h => h))
  have HKW := Lib.hid hk1
  have HK1 : Hid (Keeps (fun _ => False) W1 W1) := Keeps.refl _ _
  clear hs0 hs1 hk1 hm ht
  go_region_held3 (fun w' => (w'.cell? ⟨w.heap.size + 1, 0, none⟩ = some (.slice (some ⟨w.heap.size, 0, none⟩) 1 1) ∧ w'.cell? ⟨w.heap.size + 1, 1, none⟩ = some (.slice none 0 0)))
    (first | (refine HH.out _ ?_; with_reducible exact HK1.out) | (refine HH.out _ ?_; with_reducible exact HK1.out.drew) | (refine HH.out _ ?_; with_reducible exact HK2a.out) | (refine HH.out _ ?_; with_reducible exact HK2b.out) | fail)
    (first
      | (go_at_call 33; refine (letters_calls W1.drew).mono ?_; rintro e w2a ⟨q2, rfl, hq, hk⟩; have HK2a := Lib.hid (HK1.out.then_ hk.undrew); have HX2a := Lib.hid hk.undrew; have HQ2 := Lib.hid (hq.lim.mono (ok' := fun k => k < w2a.heap.size) (fun k hk => hk.2)); clear hq hk)
      | (go_at_call 9; refine (modLet 0 (by decide) q2 w.heap.size m w2a ((HK2a.out).cell HM.out (fun h => h)) (HT.out.keep HK2a.out (fun h => h)) HQ2.out (HK2a.out.blk HS0.out (fun h => h))).mono ?_; rw [mod0]; rintro e w2b ⟨v2, rfl, ho, hk⟩; obtain ⟨-, A2, e2, rfl, -, r2⟩ := ownedRow1 ho; have HR2 := Lib.hid r2; clear ho r2; have HK2b := Lib.hid (HK2a.out.then_ hk); have HX2b := Lib.hid hk; clear hk)
      | fail)
  go_wp2_with fail
  go_region_held3 (fun w' => (w'.cell? ⟨w.heap.size + 1, 0, none⟩ = some (.slice (some ⟨w.heap.size, 0, none⟩) 1 1) ∧ w'.cell? ⟨w.heap.size + 1, 1, none⟩ = some (.slice none 0 0)))
    (first | (refine HH.out _ ?_; with_reducible exact HK2b.out) | (refine HH.out _ ?_; with_reducible exact HK2b.out.drew) | (refine HH.out _ ?_; with_reducible exact HK3a.out) | (refine HH.out _ ?_; with_reducible exact HK3b.out) | fail)
    (first
      | (go_at_call 33; refine (letters_calls w2b.drew).mono ?_; rintro e w3a ⟨q3, rfl, hq, hk⟩; have HK3a := Lib.hid (HK2b.out.then_ hk.undrew); have HX3a := Lib.hid hk.undrew; have HQ3 := Lib.hid (hq.lim.mono (ok' := fun k => k < w3a.heap.size) (fun k hk => hk.2)); clear hq hk)
      | (go_at_call 9; refine (modLet 2 (by decide) q3 w.heap.size m w3a ((HK3a.out).cell HM.out (fun h => h)) (HT.out.keep HK3a.out (fun h => h)) HQ3.out (HK3a.out.blk HS0.out (fun h => h))).mono ?_; rw [mod2]; rintro e w3b ⟨v3, rfl, ho, hk⟩; obtain ⟨-, A3, e3, rfl, -, r3⟩ := ownedRow1 ho; clear ho r3; have HK3b := Lib.hid (HK3a.out.then_ hk); have HX3b := Lib.hid hk; clear hk)
      | fail)
  go_wp2_with fail
  go_region_held3 (fun w' => (w'.cell? ⟨w.heap.size + 1, 0, none⟩ = some (.slice (some ⟨w.heap.size, 0, none⟩) 1 1) ∧ w'.cell? ⟨w.heap.size + 1, 1, none⟩ = some (.slice none 0 0)))
    (first | (refine HH.out _ ?_; with_reducible exact HK3b.out) | (refine HH.out _ ?_; with_reducible exact HK3b.out.drew) | (refine HH.out _ ?_; with_reducible exact HK4a.out) | (refine HH.out _ ?_; with_reducible exact HK4b.out) | fail)
    (first
      | (go_at_call 33; refine (letters_calls w3b.drew).mono ?_; rintro e w4a ⟨q4, rfl, hq, hk⟩; have HK4a := Lib.hid (HK3b.out.then_ hk.undrew); have HX4a := Lib.hid hk.undrew; have HQ4 := Lib.hid (hq.lim.mono (ok' := fun k => k < w4a.heap.size) (fun k hk => hk.2)); clear hq hk)
      | (go_at_call 19; refine (locLet q4 w.heap.size m w4a ((HK4a.out).cell HM.out (fun h => h)) (HT.out.keep HK4a.out (fun h => h)) HQ4.out (HK4a.out.blk HS0.out (fun h => h))).mono ?_; rintro e w4b ⟨rfl, hk⟩; have HK4b := Lib.hid (HK4a.out.then_ hk); have HX4b := Lib.hid hk; clear hk)
      | fail)
  go_wp2_with fail
  have hk5 : Keeps (fun _ => False) w4b (w4b.alloc (.cells #[.string ⟨#[116, 111, 112]⟩] 9)) := (Keeps.refl _ _).alloc _
  have hb5 : (w4b.alloc (.cells #[.string ⟨#[116, 111, 112]⟩] 9)).heap[w4b.heap.size]? = some (.cells #[.string ⟨#[116, 111, 112]⟩] 9 (0, 0)) := blkNew rfl
  generalize (w4b.alloc (.cells #[.string ⟨#[116, 111, 112]⟩] 9)) = W5 at *
  have hkb : KbR (fun _ => True) W5 { cs := [⟨#[116, 111, 112]⟩], rs := [], is := [], incls := [], roles := [], facts := [], links := [] } ⟨some ⟨w4b.heap.size, 0, none⟩, none, none, none, none, none, none, 1, 0, 0, 0, 0, 0, 0⟩ :=
    { cs := fun _ => ⟨_, 0, rfl, trivial, fun i hi => by
        have hi1 : i < 1 := hi
        obtain rfl : i = 0 := by omega
        exact (blkCell hb5 _).trans rfl⟩
      rs := fun h => absurd rfl h, is := fun h => absurd rfl h, incls := fun h => absurd rfl h, roles := fun h => absurd rfl h, facts := fun h => absurd rfl h, links := fun h => absurd rfl h
      l0 := Nat.le_refl 1, l1 := Nat.le_refl 0, l2 := Nat.le_refl 0, l3 := Nat.le_refl 0, l4 := Nat.le_refl 0, l5 := Nat.le_refl 0, l6 := Nat.le_refl 0
      strs := fun x hx => by
        have : x = ⟨#[116, 111, 112]⟩ := by simpa using hx
        subst this; decide
      rng := fun x hx => by cases hx }
  have HK5 := Lib.hid (HK4b.out.then_ hk5)
  have HX5 := Lib.hid ((((HX3a.out.then_ HX3b.out).then_ HX4a.out).then_ HX4b.out).then_ hk5)
  refine (namesBad_calls _ _ (.slice none 0 0) (fun _ => True) m W5 (HK5.out.cell HM.out (fun h => h)) (HT.out.keep HK5.out (fun h => h)) hkb (badNames _ rfl) (by decide) (by decide) (by decide) (by decide)).mono ?_
  rintro e w6 ⟨rfl, hk6⟩
  have HK6 := Lib.hid (HK5.out.then_ hk6)
  have HX6 := Lib.hid (HX5.out.then_ hk6)
  clear hk5 hb5 hkb hk6
  go_wp2_with fail
  have hk7 : Keeps (fun _ => False) w6 ((w6.alloc (.cells #[.slice none 0 0, .slice none 0 0] 33)).alloc (.cells #[.int .i64 0, .int .i64 1] 3)) := ((Keeps.refl _ _).alloc _).alloc _
  have hb7 : ((w6.alloc (.cells #[.slice none 0 0, .slice none 0 0] 33)).alloc (.cells #[.int .i64 0, .int .i64 1] 3)).heap[w6.heap.size + 1]? = some (.cells #[.int .i64 0, .int .i64 1] 3 (0, 0)) := blkNew (by simp)
  generalize ((w6.alloc (.cells #[.slice none 0 0, .slice none 0 0] 33)).alloc (.cells #[.int .i64 0, .int .i64 1] 3)) = W7 at *
  have hrow : Row1 (fun _ => True) W7 (Value.int .i64) [0, 1] (some ⟨w6.heap.size + 1, 0, none⟩) := fun _ => ⟨_, 0, rfl, trivial, fun i hi => by
    have hi2 : i < 2 := hi
    have : i = 0 ∨ i = 1 := by omega
    rcases this with rfl | rfl <;> exact (blkCell hb7 _).trans rfl⟩
  refine (sameInts_calls [0, 1] [0, 1] (fun _ => True) A2 (some ⟨w6.heap.size + 1, 0, none⟩) e2 2 W7 (((HR2.out.keep HX6.out (fun _ _ h => h)).keep hk7 (fun _ _ h => h)).mono (fun _ _ => trivial)) hrow (by decide) (by decide)).mono ?_
  rintro e w8 ⟨rfl, hk8⟩
  have HK8 := Lib.hid ((HK6.out.then_ hk7).then_ hk8)
  clear hk7 hb7 hrow hk8
  go_wp2_with fail
  go_ret
  exact ⟨by rfl, HKW.out.then_ HK8.out⟩
end Go.Proofs.YthiclhbnggehoaaGreatDoor
