/- module.Local. -/
import Derived.Test.YthiclhbnggehoaaGreatDoorModTop
import Derived.Deep.RegionHeld3
namespace Go.Proofs.YthiclhbnggehoaaGreatDoor
open Go.RowKit
set_option linter.unusedVariables false
set_option linter.unusedSimpArgs false
def locOk (b : Kb) (kind a : Int) : Bool := decide (kind = 0 ∨ kind = 1) && (decide (0 ≤ a) && decide (a < kbCount b))
/-- What Local answers. -/
def LocPost (b : Kb) (a : Int) (C R : List Int) (kind : Int) (w : World) (e : Ending) (w' : World) : Prop := ∃ (x : Bool) (E : Int), e = .returned (.tuple #[.bool x, .int .i64 E]) ∧ Keeps (fun _ => False) w w' ∧ (kbValidB b = false → E = 20 ∧ x = false) ∧ (kbValidB b = true → (sigOkB b C R && locOk b kind a) = false → E = 1 ∧ x = false) ∧
  (kbValidB b = true → (sigOkB b C R && locOk b kind a) = true → E = 0 ∧ x = localX (kind == 1) (inL C) (inL R) (axAt b a.toNat))
set_option maxRecDepth 100000 in
set_option maxHeartbeats 16000000 in
theorem locTop_calls (b : Kb) (p : KbA) (a : Int) (C R : List Int) (kind : Int) (AS BS : Option Addr) (cS dS : Nat) (ok : Nat → Prop) (m : Int) (w : World) (hm : w.cell? ⟨1, 0, none⟩ = some (.int .i64 m)) (ht : ArgsTab w) (hb : KbR ok w b p) (hok : ∀ k, ok k → k < w.heap.size)
    (h3 : b.incls.length ≤ 1000) (h4 : b.roles.length ≤ 1000) (h5 : b.facts.length ≤ 1000) (h6 : b.links.length ≤ 1000) (hs : SigR ok w C R AS BS) (hC : C.length ≤ 1000000) (hR : R.length ≤ 1000000) (ho : kbValidB b = true → KbOk b) :
    Calls Tryz.prog 19 #[.agg #[.slice p.a0 b.cs.length p.c0, .slice p.a1 b.rs.length p.c1, .slice p.a2 b.is.length p.c2, .slice p.a3 b.incls.length p.c3, .slice p.a4 b.roles.length p.c4, .slice p.a5 b.facts.length p.c5, .slice p.a6 b.links.length p.c6], .int .i64 a, .agg #[.slice AS C.length cS, .slice BS R.length dS], .int .i64 kind] w (LocPost b a C R kind w) := by
  have HCK : Hid (∀ W, Keeps (fun _ => False) w W → Calls Tryz.prog 34 #[.agg #[.slice p.a0 b.cs.length p.c0, .slice p.a1 b.rs.length p.c1, .slice p.a2 b.is.length p.c2, .slice p.a3 b.incls.length p.c3, .slice p.a4 b.roles.length p.c4, .slice p.a5 b.facts.length p.c5, .slice p.a6 b.links.length p.c6]] W fun e w' => e = .returned (.int .i64 (checkE b)) ∧ Keeps (fun _ => False) W w') :=
    fun W h => check_calls b p ok m W (h.cell hm (fun h => h)) (ht.keep h (fun h => h)) (hb.keep h (fun _ _ h => h)) (by omega) (by omega) (by omega) (by omega)
  have HRT : Hid (∀ W, Keeps (fun _ => False) w W → Calls Tryz.prog 35 #[.agg #[.slice p.a0 b.cs.length p.c0, .slice p.a1 b.rs.length p.c1, .slice p.a2 b.is.length p.c2], .agg #[.slice AS C.length cS, .slice BS R.length dS]] W (SaysB (sigOkB b C R) W)) :=
    fun W h => right_calls b C R p.a0 p.a1 p.a2 AS BS p.c0 p.c1 p.c2 cS dS ok W ⟨hs.c.keep h (fun _ _ h => h), hs.r.keep h (fun _ _ h => h)⟩ hC hR
  have HCT : Hid (∀ W, Calls Tryz.prog 36 #[.agg #[.slice p.a0 b.cs.length p.c0, .slice p.a1 b.rs.length p.c1, .slice p.a2 b.is.length p.c2, .slice p.a3 b.incls.length p.c3, .slice p.a4 b.roles.length p.c4, .slice p.a5 b.facts.length p.c5, .slice p.a6 b.links.length p.c6]] W fun e w' => e = .returned (.int .i64 (kbCount b)) ∧ Keeps (fun _ => False) W w') := fun W => count_calls b p W (by omega) (by omega) (by omega) (by omega)
  have HJO : Hid (∀ (top : Bool) W, Keeps (fun _ => False) w W → Calls Tryz.prog 45 #[.agg #[.slice AS C.length cS, .slice BS R.length dS], .int .i64 (topI top)] W fun e w' => ∃ b1 b2 g, e = .returned (JV top b1 b2 g) ∧ JudgeR w' C R b1 b2 g ∧ W.heap.size ≤ b1 ∧ W.heap.size ≤ b2 ∧ W.heap.size ≤ g ∧ b1 ≠ b2 ∧ Keeps (fun _ => False) W w') :=
    fun top W h => judgeOf_calls top C R AS BS cS dS ok W (⟨hs.c.keep h (fun _ _ h => h), hs.r.keep h (fun _ _ h => h)⟩) (fun k hk => Nat.lt_of_lt_of_le (hok k hk) h.size) hC hR
  have HLO : Hid (kbValidB b = true → ∀ (top : Bool) (b1 b2 g k : Nat) W, Keeps (fun _ => False) w W → JudgeR W C R b1 b2 g → k < kbCount b → Calls Tryz.prog 46 #[JV top b1 b2 g, .agg #[.slice p.a0 b.cs.length p.c0, .slice p.a1 b.rs.length p.c1, .slice p.a2 b.is.length p.c2, .slice p.a3 b.incls.length p.c3, .slice p.a4 b.roles.length p.c4, .slice p.a5 b.facts.length p.c5, .slice p.a6 b.links.length p.c6], .int .i64 (k : Int)] W (RetB (localX top (inL C) (inL R) (axAt b k)) W)) :=
    fun hv top b1 b2 g k W h hj hk => local_calls top C R b p b1 b2 g k ok W (hb.keep h (fun _ _ h => h)) (ho hv).fit hj hk (by omega) (by omega) (by omega) (by omega)
  have HCN : Hid (kbCount b ≤ 4000) := by unfold Hid kbCount; omega
  clear hb hm ht hs ho
  unfold checkE at HCK
  obtain ⟨a0, a1, a2, a3, a4, a5, a6, c0, c1, c2, c3, c4, c5, c6⟩ := p
  simp only at HCK HRT HCT HLO ⊢
  go_enter Tryz.func19, Tryz.ntmps19
  go_wp2_with fail
  generalize hW0 : World.alloc _ _ = W0
  have hk0 : Keeps (fun _ => False) w W0 := by rw [← hW0]; repeat (first | exact Keeps.refl _ _ | refine Keeps.drewN ?_ _ | refine Keeps.drew ?_ | refine Keeps.alloc ?_ _ | refine Keeps.set ?_ (Or.inl (by rfl)) _)
  have hb1 : W0.heap[w.heap.size]? = some (.cells #[.slice a0 b.cs.length c0, .slice a1 b.rs.length c1, .slice a2 b.is.length c2, .slice a3 b.incls.length c3, .slice a4 b.roles.length c4, .slice a5 b.facts.length c5, .slice a6 b.links.length c6] 30 (0, 0)) := by rw [← hW0]; exact blkAlloc (blkNew rfl) _
  have hb2 : W0.heap[w.heap.size + 1]? = some (.cells #[.slice AS C.length cS, .slice BS R.length dS] 33 (0, 0)) := by rw [← hW0]; exact blkNew (by simp)
  have hz0 : W0.heap.size = w.heap.size + 2 := by rw [← hW0]; simp
  clear hW0
  have HB1 := Lib.hid hb1
  have HB2 := Lib.hid hb2
  have HK0 := Lib.hid hk0
  clear hb1 hb2 hk0
  refine (HCK.out W0 HK0.out).mono ?_
  rintro e w2 ⟨rfl, hk2⟩
  have HK2 := Lib.hid hk2
  have hz2 := hk2.size
  have hl2 : w.heap.size < w2.heap.size := by omega
  have hl2' : w.heap.size + 1 < w2.heap.size := by omega
  obtain ⟨x0, x1, x2, x3, x4, x5, x6⟩ := cells7 (hk2.blk HB1.out (fun h => h))
  obtain ⟨y0, y1⟩ := cells2 (hk2.blk HB2.out (fun h => h))
  clear hk2 HCK
  cases hv : kbValidB b
  · have HVF := Lib.hid hv
    clear hv
    simp only [Bool.false_eq_true, if_false]
    go_wp2_with fail
    refine bodyPost_ret (v := .tuple #[.bool false, .int .i64 20]) (by simp [results, Tryz.results19, go_sem]) rfl ?_
    exact ⟨false, 20, rfl, HK0.out.then_ HK2.out, fun _ => ⟨rfl, rfl⟩, fun h => absurd (HVF.out.symm.trans h) (by decide), fun h => absurd (HVF.out.symm.trans h) (by decide)⟩
  · have HVT := Lib.hid hv
    have HLO' := Lib.hid (HLO.out hv)
    clear hv HLO
    simp only [if_true]
    have bad : ∀ W, Keeps (fun _ => False) W0 W → (sigOkB b C R && locOk b kind a) = false → LocPost b a C R kind w (.returned (.tuple #[.bool false, .int .i64 1])) W := fun W hW h =>
      ⟨false, 1, rfl, HK0.out.then_ hW, fun h => absurd (HVT.out.symm.trans h) (by decide), fun _ _ => ⟨rfl, rfl⟩, fun _ h2 => absurd (h.symm.trans h2) (by decide)⟩
    have BAD := Lib.hid bad
    clear bad
    cases hsg : sigOkB b C R
    · have HSG := Lib.hid hsg
      rw [hsg] at HRT
      clear hsg
      go_wp2_with fail
      refine (HRT.out w2 (HK0.out.then_ HK2.out)).mono ?_
      rintro e w3 ⟨rfl, hk3⟩
      have HK3 := Lib.hid (HK2.out.then_ hk3)
      clear hk3
      go_wp2_with fail
      refine bodyPost_ret (v := .tuple #[.bool false, .int .i64 1]) (by simp [results, Tryz.results19, go_sem]) rfl ?_
      exact BAD.out _ HK3.out (by rw [HSG.out]; rfl)
    · have HSG := Lib.hid hsg
      rw [hsg] at HRT
      clear hsg
      go_wp2_with fail
      refine (HRT.out w2 (HK0.out.then_ HK2.out)).mono ?_
      rintro e w3 ⟨rfl, hk3⟩
      have HK3 := Lib.hid (HK2.out.then_ hk3)
      have hz3 := hk3.size
      clear hk3 x0 x1 x2 x3 x4 x5 x6 y0 y1 HRT
      obtain ⟨x0, x1, x2, x3, x4, x5, x6⟩ := cells7 (HK3.out.blk HB1.out (fun h => h))
      obtain ⟨y0, y1⟩ := cells2 (HK3.out.blk HB2.out (fun h => h))
      have hl3 : w.heap.size < w3.heap.size := by omega
      have hl3' : w.heap.size + 1 < w3.heap.size := by omega
      by_cases hkd : kind = 0 ∨ kind = 1
      · rcases hkd with rfl | rfl
        · by_cases ha0 : a < 0
          · go_wp2_with fail
            refine bodyPost_ret (v := .tuple #[.bool false, .int .i64 1]) (by simp [results, Tryz.results19, go_sem]) rfl ?_
            exact BAD.out _ HK3.out (by unfold locOk; simp; omega)
          · go_wp2_with fail
            refine (HCT.out w3).mono ?_
            rintro e w4 ⟨rfl, hk4⟩
            have HK4 := Lib.hid (HK3.out.then_ hk4)
            have hz4 := hk4.size
            clear hk4 x0 x1 x2 x3 x4 x5 x6 y0 y1 HCT
            by_cases hac : a < kbCount b
            · have hac' : ¬ (a ≥ kbCount b) := by omega
              obtain ⟨k, rfl⟩ : ∃ k : Nat, a = k := ⟨a.toNat, by omega⟩
              have hkc : k < kbCount b := by omega
              go_wp2_with fail
              have HH : Hid (∀ w', Keeps (fun _ => False) W0 w' → (w'.cell? ⟨w.heap.size, 0, none⟩ = some (.slice a0 b.cs.length c0) ∧ w'.cell? ⟨w.heap.size, 1, none⟩ = some (.slice a1 b.rs.length c1) ∧ w'.cell? ⟨w.heap.size, 2, none⟩ = some (.slice a2 b.is.length c2) ∧ w'.cell? ⟨w.heap.size, 3, none⟩ = some (.slice a3 b.incls.length c3) ∧ w'.cell? ⟨w.heap.size, 4, none⟩ = some (.slice a4 b.roles.length c4) ∧ w'.cell? ⟨w.heap.size, 5, none⟩ = some (.slice a5 b.facts.length c5) ∧ w'.cell? ⟨w.heap.size, 6, none⟩ = some (.slice a6 b.links.length c6) ∧ w'.cell? ⟨w.heap.size + 1, 0, none⟩ = some (.slice AS C.length cS) ∧ w'.cell? ⟨w.heap.size + 1, 1, none⟩ = some (.slice BS R.length dS))) := fun w' hk => by
                obtain ⟨q0, q1, q2, q3, q4, q5, q6⟩ := cells7 (hk.blk HB1.out (fun h => h))
                obtain ⟨r0, r1⟩ := cells2 (hk.blk HB2.out (fun h => h))
                exact ⟨q0, q1, q2, q3, q4, q5, q6, r0, r1⟩
              have HJ4 : Hid (Calls Tryz.prog 45 #[.agg #[.slice AS C.length cS, .slice BS R.length dS], .int .i64 0] w4.drew fun e w' => ∃ b1 b2 g, e = .returned (JV false b1 b2 g) ∧ JudgeR w' C R b1 b2 g ∧ w4.drew.heap.size ≤ b1 ∧ w4.drew.heap.size ≤ b2 ∧ w4.drew.heap.size ≤ g ∧ b1 ≠ b2 ∧ Keeps (fun _ => False) w4.drew w') := HJO.out false w4.drew (HK0.out.then_ HK4.out).drew
              unfold JV at HJ4 HLO'
              rw [outV_eq] at HJ4
              have HKC := Lib.hid hkc
              go_region_held3 (fun w' => (w'.cell? ⟨w.heap.size, 0, none⟩ = some (.slice a0 b.cs.length c0) ∧ w'.cell? ⟨w.heap.size, 1, none⟩ = some (.slice a1 b.rs.length c1) ∧ w'.cell? ⟨w.heap.size, 2, none⟩ = some (.slice a2 b.is.length c2) ∧ w'.cell? ⟨w.heap.size, 3, none⟩ = some (.slice a3 b.incls.length c3) ∧ w'.cell? ⟨w.heap.size, 4, none⟩ = some (.slice a4 b.roles.length c4) ∧ w'.cell? ⟨w.heap.size, 5, none⟩ = some (.slice a5 b.facts.length c5) ∧ w'.cell? ⟨w.heap.size, 6, none⟩ = some (.slice a6 b.links.length c6) ∧ w'.cell? ⟨w.heap.size + 1, 0, none⟩ = some (.slice AS C.length cS) ∧ w'.cell? ⟨w.heap.size + 1, 1, none⟩ = some (.slice BS R.length dS)))
                (first | (refine HH.out _ ?_; with_reducible exact HK4.out) | (refine HH.out _ ?_; with_reducible exact HK4.out.drew) | (refine HH.out _ ?_; with_reducible exact HK5.out) | (refine HH.out _ ?_; with_reducible exact HK6.out) | fail)
                (first
                  | (go_at_call 45; refine HJ4.out.mono ?_; clear HJ4; rintro e w5 ⟨b1, b2, g, rfl, hj, -, -, -, -, hk5⟩; have HJ5 := Lib.hid hj; have HK5 := Lib.hid (HK4.out.then_ hk5.undrew); clear hj hk5)
                  | (go_at_call 46; refine ((HLO'.out false b1 b2 g k w5 (HK0.out.then_ HK5.out) HJ5.out HKC.out)).mono ?_; rintro e w6 ⟨rfl, hk6⟩; have HK6 := Lib.hid (HK5.out.then_ hk6); clear hk6)
                  | fail)
              all_goals
                go_wp2_with fail
                refine bodyPost_ret (v := .tuple #[.bool (localX false (inL C) (inL R) (axAt b k)), .int .i64 0]) (by simp [results, Tryz.results19, go_sem]) rfl ?_
                exact ⟨_, 0, rfl, HK0.out.then_ HK6.out, fun h => absurd (HVT.out.symm.trans h) (by decide), fun _ h => absurd h (by rw [HSG.out]; unfold locOk; have := HKC.out; simp; omega), fun _ _ => ⟨rfl, rfl⟩⟩
            · have hac' : a ≥ kbCount b := by omega
              go_wp2_with fail
              refine bodyPost_ret (v := .tuple #[.bool false, .int .i64 1]) (by simp [results, Tryz.results19, go_sem]) rfl ?_
              exact BAD.out _ HK4.out (by unfold locOk; simp; omega)
        · by_cases ha0 : a < 0
          · go_wp2_with fail
            refine bodyPost_ret (v := .tuple #[.bool false, .int .i64 1]) (by simp [results, Tryz.results19, go_sem]) rfl ?_
            exact BAD.out _ HK3.out (by unfold locOk; simp; omega)
          · go_wp2_with fail
            refine (HCT.out w3).mono ?_
            rintro e w4 ⟨rfl, hk4⟩
            have HK4 := Lib.hid (HK3.out.then_ hk4)
            have hz4 := hk4.size
            clear hk4 x0 x1 x2 x3 x4 x5 x6 y0 y1 HCT
            by_cases hac : a < kbCount b
            · have hac' : ¬ (a ≥ kbCount b) := by omega
              obtain ⟨k, rfl⟩ : ∃ k : Nat, a = k := ⟨a.toNat, by omega⟩
              have hkc : k < kbCount b := by omega
              go_wp2_with fail
              have HH : Hid (∀ w', Keeps (fun _ => False) W0 w' → (w'.cell? ⟨w.heap.size, 0, none⟩ = some (.slice a0 b.cs.length c0) ∧ w'.cell? ⟨w.heap.size, 1, none⟩ = some (.slice a1 b.rs.length c1) ∧ w'.cell? ⟨w.heap.size, 2, none⟩ = some (.slice a2 b.is.length c2) ∧ w'.cell? ⟨w.heap.size, 3, none⟩ = some (.slice a3 b.incls.length c3) ∧ w'.cell? ⟨w.heap.size, 4, none⟩ = some (.slice a4 b.roles.length c4) ∧ w'.cell? ⟨w.heap.size, 5, none⟩ = some (.slice a5 b.facts.length c5) ∧ w'.cell? ⟨w.heap.size, 6, none⟩ = some (.slice a6 b.links.length c6) ∧ w'.cell? ⟨w.heap.size + 1, 0, none⟩ = some (.slice AS C.length cS) ∧ w'.cell? ⟨w.heap.size + 1, 1, none⟩ = some (.slice BS R.length dS))) := fun w' hk => by
                obtain ⟨q0, q1, q2, q3, q4, q5, q6⟩ := cells7 (hk.blk HB1.out (fun h => h))
                obtain ⟨r0, r1⟩ := cells2 (hk.blk HB2.out (fun h => h))
                exact ⟨q0, q1, q2, q3, q4, q5, q6, r0, r1⟩
              have HJ4 : Hid (Calls Tryz.prog 45 #[.agg #[.slice AS C.length cS, .slice BS R.length dS], .int .i64 1] w4.drew fun e w' => ∃ b1 b2 g, e = .returned (JV true b1 b2 g) ∧ JudgeR w' C R b1 b2 g ∧ w4.drew.heap.size ≤ b1 ∧ w4.drew.heap.size ≤ b2 ∧ w4.drew.heap.size ≤ g ∧ b1 ≠ b2 ∧ Keeps (fun _ => False) w4.drew w') := HJO.out true w4.drew (HK0.out.then_ HK4.out).drew
              unfold JV at HJ4 HLO'
              rw [outV_eq] at HJ4
              have HKC := Lib.hid hkc
              go_region_held3 (fun w' => (w'.cell? ⟨w.heap.size, 0, none⟩ = some (.slice a0 b.cs.length c0) ∧ w'.cell? ⟨w.heap.size, 1, none⟩ = some (.slice a1 b.rs.length c1) ∧ w'.cell? ⟨w.heap.size, 2, none⟩ = some (.slice a2 b.is.length c2) ∧ w'.cell? ⟨w.heap.size, 3, none⟩ = some (.slice a3 b.incls.length c3) ∧ w'.cell? ⟨w.heap.size, 4, none⟩ = some (.slice a4 b.roles.length c4) ∧ w'.cell? ⟨w.heap.size, 5, none⟩ = some (.slice a5 b.facts.length c5) ∧ w'.cell? ⟨w.heap.size, 6, none⟩ = some (.slice a6 b.links.length c6) ∧ w'.cell? ⟨w.heap.size + 1, 0, none⟩ = some (.slice AS C.length cS) ∧ w'.cell? ⟨w.heap.size + 1, 1, none⟩ = some (.slice BS R.length dS)))
                (first | (refine HH.out _ ?_; with_reducible exact HK4.out) | (refine HH.out _ ?_; with_reducible exact HK4.out.drew) | (refine HH.out _ ?_; with_reducible exact HK5.out) | (refine HH.out _ ?_; with_reducible exact HK6.out) | fail)
                (first
                  | (go_at_call 45; refine HJ4.out.mono ?_; clear HJ4; rintro e w5 ⟨b1, b2, g, rfl, hj, -, -, -, -, hk5⟩; have HJ5 := Lib.hid hj; have HK5 := Lib.hid (HK4.out.then_ hk5.undrew); clear hj hk5)
                  | (go_at_call 46; refine ((HLO'.out true b1 b2 g k w5 (HK0.out.then_ HK5.out) HJ5.out HKC.out)).mono ?_; rintro e w6 ⟨rfl, hk6⟩; have HK6 := Lib.hid (HK5.out.then_ hk6); clear hk6)
                  | fail)
              all_goals
                go_wp2_with fail
                refine bodyPost_ret (v := .tuple #[.bool (localX true (inL C) (inL R) (axAt b k)), .int .i64 0]) (by simp [results, Tryz.results19, go_sem]) rfl ?_
                exact ⟨_, 0, rfl, HK0.out.then_ HK6.out, fun h => absurd (HVT.out.symm.trans h) (by decide), fun _ h => absurd h (by rw [HSG.out]; unfold locOk; have := HKC.out; simp; omega), fun _ _ => ⟨rfl, rfl⟩⟩
            · have hac' : a ≥ kbCount b := by omega
              go_wp2_with fail
              refine bodyPost_ret (v := .tuple #[.bool false, .int .i64 1]) (by simp [results, Tryz.results19, go_sem]) rfl ?_
              exact BAD.out _ HK4.out (by unfold locOk; simp; omega)
      · have q0 : (kind != 0) = true := by simp; omega
        have q1 : (kind != 1) = true := by simp; omega
        have q2 : ¬ kind = 0 := by omega
        have q3 : ¬ kind = 1 := by omega
        go_wp2_with fail
        refine bodyPost_ret (v := .tuple #[.bool false, .int .i64 1]) (by simp [results, Tryz.results19, go_sem]) rfl ?_
        exact BAD.out _ HK3.out (by unfold locOk; simp; omega)
end Go.Proofs.YthiclhbnggehoaaGreatDoor
