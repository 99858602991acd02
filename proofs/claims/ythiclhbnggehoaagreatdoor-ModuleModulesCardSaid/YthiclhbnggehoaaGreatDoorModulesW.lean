/- isagogelaw19.ModuleModules: the walk. -/
import Derived.Test.YthiclhbnggehoaaGreatDoorAwake19
import Derived.Test.YthiclhbnggehoaaGreatDoorFew4
import Derived.Test.YthiclhbnggehoaaGreatDoorRefModule
import Derived.Test.YthiclhbnggehoaaGreatDoorOnly
import Derived.Test.YthiclhbnggehoaaGreatDoorLetters
import Derived.Test.YthiclhbnggehoaaGreatDoorSameInts
import Derived.Deep.RegionHeld3
namespace Go.Proofs.YthiclhbnggehoaaGreatDoor
open Go.RowKit
set_option linter.unusedVariables false
set_option linter.unusedSimpArgs false
theorem few4_lensM {b : Kb} (h : few4B b = true) : b.incls.length ≤ 200 ∧ b.roles.length ≤ 200 ∧ b.facts.length ≤ 200 ∧ b.links.length ≤ 200 ∧ b.cs.length ≤ 100 ∧ b.rs.length ≤ 100 ∧ b.is.length ≤ 100 ∧ Con.sizes (conceptsC b) ≤ 400 := by
  simp only [few4B, fewNamesR, Bool.and_eq_true, decide_eq_true_eq, List.all_cons, List.all_nil] at h
  obtain ⟨h1, h2, h3, h4, h5, -, h6⟩ := h
  simp only [fewL, Bool.and_eq_true, decide_eq_true_eq] at h5
  exact ⟨h1, h2, h3, h4, h5.1.1, h5.2.1.1, h5.2.2.1, h6⟩
theorem axSize_le {b : Kb} {k : Nat} (hk : k < kbCount b) : axSize (axAt b k) ≤ Con.sizes (conceptsC b) := by
  unfold kbCount at hk
  have happ : ∀ l m : List Con, Con.sizes (l ++ m) = Con.sizes l + Con.sizes m := by
    intro l m
    induction l with
    | nil => simp [Con.sizes]
    | cons x r ih => simp only [List.cons_append, Con.sizes, ih]; omega
  have hcc : Con.sizes (conceptsC b) = Con.sizes (pairL b.incls) + Con.sizes (b.facts.map (·.2)) := happ _ _
  by_cases h1 : k < b.incls.length
  · rw [axAt_incl h1]
    have hs := sizes_sub (pairL_sub (List.singleton_sublist.2 (List.getElem_mem h1)))
    have hp1 : pairL [b.incls[k]] = [b.incls[k].1, b.incls[k].2] := rfl
    rw [hp1] at hs
    simp only [Con.sizes] at hs
    simp only [axSize]; omega
  · by_cases h2 : k < b.incls.length + b.roles.length
    · obtain ⟨j, rfl⟩ : ∃ j, k = b.incls.length + j := ⟨k - b.incls.length, by omega⟩
      rw [axAt_role (show j < b.roles.length by omega)]; simp [axSize]
    · by_cases h3 : k < b.incls.length + b.roles.length + b.facts.length
      · obtain ⟨j, rfl⟩ : ∃ j, k = b.incls.length + b.roles.length + j := ⟨k - b.incls.length - b.roles.length, by omega⟩
        have hj : j < b.facts.length := by omega
        rw [axAt_fact hj]
        have hs := sizes_sub ((List.singleton_sublist.2 (List.getElem_mem hj)).map (·.2))
        simp only [List.map_cons, List.map_nil, Con.sizes] at hs
        simp only [axSize]; omega
      · obtain ⟨j, rfl⟩ : ∃ j, k = b.incls.length + b.roles.length + b.facts.length + j := ⟨k - b.incls.length - b.roles.length - b.facts.length, by omega⟩
        rw [axAt_link (show j < b.links.length by omega)]; simp [axSize]
theorem moduleM_facts {b : Kb} {C R : List Int} {kind : Int} : (moduleM b C R kind).Pairwise (· < ·) ∧ ∀ k ∈ moduleM b C R kind, k < kbCount b := by
  have hs : ∀ (top : Bool) (same : Nat) (out : List Nat), out.Pairwise (· < ·) → (starM (axAt b) C R top same out).Pairwise (· < ·) := by
    intro top same out
    induction top, same, out using starM.induct (A := axAt b) (C := C) (R := R) with
    | case1 top same out h1 h2 ih => intro hp; rw [starM, if_pos h1, if_pos h2]; exact ih (by unfold modL; exact hp.filter _)
    | case2 top same out h1 h2 ih => intro hp; rw [starM, if_pos h1, if_neg h2]; exact ih (by unfold modL; exact hp.filter _)
    | case3 top same out h1 => intro hp; rw [starM, if_neg h1]; exact hp
  unfold moduleM
  split
  · exact ⟨hs _ _ _ (range_inc _), fun k hk => List.mem_range.1 (starM_sub _ _ _ k hk)⟩
  · exact ⟨by unfold modL; exact (range_inc _).filter _, fun k hk => List.mem_range.1 (modL_sub hk)⟩
open Classical in
theorem modL_twice {A : Nat → Ax} {top : Bool} {C R : List Int} {l : List Nat} : modL A top C R (modL A top C R l) = modL A top C R l := by
  have h : ∀ k ∈ modL A top C R l, InMod A top C R (modL A top C R l) k := fun k hk => modL_idem (mem_modL.1 hk)
  generalize modL A top C R l = m at *
  unfold modL
  exact List.filter_eq_self.2 (fun k hk => decide_eq_true (h k hk))
theorem moduleM_again {b : Kb} {C R : List Int} {kind : Int} (hkd : kind = 0 ∨ kind = 1 ∨ kind = 2) : (moduleM (onlyK b (zs (moduleM b C R kind))) C R kind).length = (moduleM b C R kind).length := by
  obtain ⟨hp, hn⟩ := moduleM_facts (b := b) (C := C) (R := R) (kind := kind)
  have hfix2 : kind = 2 → ∀ t, modL (axAt b) t C R (moduleM b C R kind) = moduleM b C R kind := by
    intro h2 t
    unfold moduleM; rw [if_pos h2]
    exact starM_fixed _ _ _ (fun h => by omega) (fun h => by omega) t
  have hfix1 : ¬ kind = 2 → modL (axAt b) (kind == 1) C R (moduleM b C R kind) = moduleM b C R kind := by
    intro h2
    unfold moduleM; rw [if_neg h2]
    exact modL_twice
  generalize moduleM b C R kind = L at *
  have hk : onlyK b (zs L) = kbOf b (L.map (axAt b)) := onlyK_eq hp hn
  have hnd : L.Nodup := hp.imp (fun h => by omega)
  have hren : ∀ t, modL (axAt b) t C R L = L → modL (axAt (kbOf b (L.map (axAt b)))) t C R (List.range L.length) = List.range L.length := fun t h => modL_renum hnd (fun i hi => axAt_kbOf hp hn i hi) h
  have hcount : kbCount (kbOf b (L.map (axAt b))) = L.length := by rw [kbOf_count, List.length_map]
  rw [hk]
  unfold moduleM
  rw [hcount]
  by_cases h2 : kind = 2
  · rw [if_pos h2, starM_self (fun t => hren t (hfix2 h2 t)), List.length_range]
  · rw [if_neg h2, hren _ (hfix1 h2), List.length_range]
theorem onlyK_valid {b : Kb} {l : List Nat} (hp : l.Pairwise (· < ·)) (hn : ∀ k ∈ l, k < kbCount b) (h : isKbR b = true) : kbValidB (onlyK b (zs l)) = true := by
  have hk : onlyK b (zs l) = kbOf b (l.map (axAt b)) := onlyK_eq hp hn
  rw [hk, kbValid_eq _ (names_eq _ _ _)]
  exact kbOf_valid (picked_sub hp hn) h
theorem sigsOne {W : World} {g a1 a2 c1 c2 : Nat} {A1 A2 : Option Addr} {t : TypeId} (h : W.heap[g]? = some (.cells #[.slice A1 a1 c1, .slice A2 a2 c2] t (0, 0))) : SigsL W [(a1, a2)] g 0 := fun i hi => by
  have hi2 : i < 1 := hi
  have : i = 0 := by omega
  subst this
  exact ⟨A1, c1, A2, c2, (blkCell h _).trans rfl, (blkCell h _).trans rfl⟩
theorem ownNil {w : World} {base : Nat} {v : Value} (h : OwnInts w base v (zs [])) : ∃ A c, v = .slice A 0 c := by
  obtain ⟨A, c, e, -⟩ := ownRowI h; exact ⟨A, c, e⟩
set_option maxRecDepth 100000 in
set_option maxHeartbeats 40000000 in
theorem modules_walk (b : Kb) (p : KbA) (C R : List Int) (kind : Int) (AC AR : Option Addr) (cC cR : Nat) (m : Int) (w : World) (hm : w.cell? ⟨1, 0, none⟩ = some (.int .i64 m)) (ht : ArgsTab w) (hb : KbR (fun k => k < w.heap.size) w b p) (h1 : SigR (fun k => k < w.heap.size) w C R AC AR) :
    Calls Tryz.prog 3 #[.agg #[.slice p.a0 b.cs.length p.c0, .slice p.a1 b.rs.length p.c1, .slice p.a2 b.is.length p.c2, .slice p.a3 b.incls.length p.c3, .slice p.a4 b.roles.length p.c4, .slice p.a5 b.facts.length p.c5, .slice p.a6 b.links.length p.c6], .agg #[.slice AC C.length cC, .slice AR R.length cR], .int .i64 kind] w fun e w' => e = .returned (.bool true) ∧ Keeps (fun _ => False) w w' := by
  have HAW : Hid (∀ W, Keeps (fun _ => False) w W → Calls Tryz.prog 8 #[] W fun e w' => e = .returned (.bool true) ∧ Keeps (fun _ => False) W w') := fun W h => awake19_calls m W (h.cell hm (fun h => h)) (ht.keep h (fun h => h))
  have HLK : Hid (∀ W g, Keeps (fun _ => False) w W → W.heap[g]? = some (.cells #[.slice AC C.length cC, .slice AR R.length cR] 33 (0, 0)) → Calls Tryz.prog 7 #[.agg #[.slice p.a0 b.cs.length p.c0, .slice p.a1 b.rs.length p.c1, .slice p.a2 b.is.length p.c2, .slice p.a3 b.incls.length p.c3, .slice p.a4 b.roles.length p.c4, .slice p.a5 b.facts.length p.c5, .slice p.a6 b.links.length p.c6], .agg #[.int .i64 0, .int .i64 0, .slice none 0 0], .slice (some ⟨g, 0, none⟩) 1 1] W fun e w' => e = .returned (.bool (lookedB b ⟨0, 0, []⟩ [(C.length, R.length)])) ∧ Keeps (fun _ => False) W w') :=
    fun W g h hg => looked_calls b p ⟨0, 0, []⟩ none 0 [(C.length, R.length)] g 0 1 _ W (hb.keep h (fun _ _ h => h)) (conR_leaf _ _ 0 0) (sigsOne hg) (by simp) (blkLt hg)
  go_enter Tryz.func3, Tryz.ntmps3
  go_wp2_with fail
  generalize hW0 : World.alloc _ _ = W0
  have hk0 : Keeps (fun _ => False) w W0 := by rw [← hW0]; repeat (first | exact Keeps.refl _ _ | refine Keeps.drewN ?_ _ | refine Keeps.drew ?_ | refine Keeps.alloc ?_ _ | refine Keeps.set ?_ (Or.inl (by rfl)) _)
  have hb0 : W0.heap[w.heap.size]? = some (.cells #[.slice p.a0 b.cs.length p.c0, .slice p.a1 b.rs.length p.c1, .slice p.a2 b.is.length p.c2, .slice p.a3 b.incls.length p.c3, .slice p.a4 b.roles.length p.c4, .slice p.a5 b.facts.length p.c5, .slice p.a6 b.links.length p.c6] 30 (0, 0)) := by rw [← hW0]; exact blkAlloc (blkAlloc (blkNew rfl) _) _
  have hs1 : W0.heap[w.heap.size + 1]? = some (.cells #[.slice AC C.length cC, .slice AR R.length cR] 33 (0, 0)) := by rw [← hW0]; exact blkAlloc (blkNew (by simp)) _
  have hsl : W0.heap[w.heap.size + 1 + 1]? = some (.cells #[.slice AC C.length cC, .slice AR R.length cR] 33 (0, 0)) := by rw [← hW0]; exact blkNew (by simp)
  clear hW0
  have HK0 := Lib.hid hk0
  have HB0 := Lib.hid hb0
  have HS1 := Lib.hid hs1
  have HSL := Lib.hid hsl
  clear hk0 hb0 hs1 hsl
  refine (HLK.out W0 _ HK0.out HSL.out).mono ?_
  rintro e w2 ⟨rfl, hk2⟩
  have HK2 := Lib.hid (HK0.out.then_ hk2)
  have HX2 := Lib.hid hk2
  clear hk2 HLK
  cases hlk : lookedB b ⟨0, 0, []⟩ [(C.length, R.length)]
  · clear hlk
    go_wp2_with fail
    refine (HAW.out w2 HK2.out).mono ?_
    rintro e w9 ⟨rfl, hk9⟩
    go_wp2_with fail
    go_ret
    exact ⟨rfl, HK2.out.then_ hk9⟩
  · simp only [lookedB, Bool.and_eq_true, List.all_cons, List.all_nil, shortB, decide_eq_true_eq] at hlk
    obtain ⟨⟨⟨q1, q2⟩, -⟩, hfew, -⟩ := hlk
    obtain ⟨l1, l2, l3, l4, l5, l6, l7, l8⟩ := few4_lensM hfew
    have HIS : Hid (∀ W, Keeps (fun _ => False) w W → Calls Tryz.prog 10 #[.agg #[.slice p.a0 b.cs.length p.c0, .slice p.a1 b.rs.length p.c1, .slice p.a2 b.is.length p.c2, .slice p.a3 b.incls.length p.c3, .slice p.a4 b.roles.length p.c4, .slice p.a5 b.facts.length p.c5, .slice p.a6 b.links.length p.c6]] W fun e w' => e = .returned (.bool (isKbR b)) ∧ Keeps (fun _ => False) W w') := fun W h => isKb_calls b p _ W (hb.keep h (fun _ _ h => h)) (by omega) (by omega) (by omega) (by omega) (by omega) (by omega) (by omega)
    have HG1 : Hid (∀ W, Keeps (fun _ => False) w W → Calls Tryz.prog 11 #[.agg #[.slice p.a0 b.cs.length p.c0, .slice p.a1 b.rs.length p.c1, .slice p.a2 b.is.length p.c2], .agg #[.slice AC C.length cC, .slice AR R.length cR]] W (SaysB (sigB b C R) W)) := fun W h => sig19_calls b C R p.a0 p.a1 p.a2 AC AR p.c0 p.c1 p.c2 cC cR _ W ⟨h1.c.keep h (fun _ _ h => h), h1.r.keep h (fun _ _ h => h)⟩ (by omega) (by omega)
    have HMO : Hid (∀ (kd : Int) W, Keeps (fun _ => False) w W → Calls Tryz.prog 9 #[.agg #[.slice p.a0 b.cs.length p.c0, .slice p.a1 b.rs.length p.c1, .slice p.a2 b.is.length p.c2, .slice p.a3 b.incls.length p.c3, .slice p.a4 b.roles.length p.c4, .slice p.a5 b.facts.length p.c5, .slice p.a6 b.links.length p.c6], .agg #[.slice AC C.length cC, .slice AR R.length cR], .int .i64 kd] W (ModPost b C R kd W)) := fun kd W h =>
      modTop_calls b p C R kd AC AR cC cR (fun k => k < W.heap.size) m W (h.cell hm (fun h => h)) (ht.keep h (fun h => h)) ((hb.keep h (fun _ _ h => h)).mono (fun k hk => Nat.lt_of_lt_of_le hk h.size)) (fun k hk => hk) (by omega) (by omega) (by omega) (by omega) ⟨(h1.c.keep h (fun _ _ h => h)).mono (fun k hk => Nat.lt_of_lt_of_le hk h.size), (h1.r.keep h (fun _ _ h => h)).mono (fun k hk => Nat.lt_of_lt_of_le hk h.size)⟩ (by omega) (by omega) (fun h => kbOk_of h)
    obtain ⟨x0, x1, x2, x3, x4, x5, x6⟩ := cells7 (HX2.out.blk HB0.out (fun h => h))
    obtain ⟨y0, y1⟩ := cells2 (HX2.out.blk HS1.out (fun h => h))
    have u0 := blkLt (HX2.out.blk HB0.out (fun h => h))
    have u1 := blkLt (HX2.out.blk HS1.out (fun h => h))
    go_wp2_with fail
    refine (HMO.out kind w2 HK2.out).mono ?_
    rintro e w3 ⟨v3, l3', E3, rfl, ho3, hk3, hp1, hp2, hp3⟩
    have HO3 := Lib.hid ho3
    have HK3 := Lib.hid (HK2.out.then_ hk3)
    have HX3 := Lib.hid (HX2.out.then_ hk3)
    have HP1 := Lib.hid hp1
    have HP2 := Lib.hid hp2
    have HP3 := Lib.hid hp3
    clear ho3 hk3 hp1 hp2 hp3 x0 x1 x2 x3 x4 x5 x6 y0 y1 u0 u1
    have HVI : Hid (kbValidB b = isKbR b) := kbValid_eq b (names_eq _ _ _)
    obtain ⟨x0, x1, x2, x3, x4, x5, x6⟩ := cells7 (HX3.out.blk HB0.out (fun h => h))
    have u0 := blkLt (HX3.out.blk HB0.out (fun h => h))
    cases hik : isKbR b
    · obtain ⟨rfl, rfl⟩ := HP1.out (by rw [HVI.out]; exact hik)
      obtain ⟨A, c, rfl⟩ := ownNil HO3.out
      rw [hik] at HIS
      clear hik
      go_wp2_with fail
      refine (HIS.out w3 HK3.out).mono ?_
      rintro e w4 ⟨rfl, hk4⟩
      have HK4 := Lib.hid (HK3.out.then_ hk4)
      clear hk4
      go_wp2_with fail
      refine (HAW.out w4 HK4.out).mono ?_
      rintro e w9 ⟨rfl, hk9⟩
      go_wp2_with fail
      go_ret
      exact ⟨rfl, HK4.out.then_ hk9⟩
    · have HVT : Hid (kbValidB b = true) := by unfold Hid; rw [HVI.out]; exact hik
      have HIK := Lib.hid hik
      rw [hik] at HIS
      clear hik
      go_wp2_with fail
      refine (HIS.out w3 HK3.out).mono ?_
      rintro e w4 ⟨rfl, hk4⟩
      have HK4 := Lib.hid (HK3.out.then_ hk4)
      have HX4 := Lib.hid (HX3.out.then_ hk4)
      have HO4 := Lib.hid (HO3.out.keep' hk4 (fun _ _ h => h))
      clear hk4 x0 x1 x2 x3 x4 x5 x6 u0 HIS HO3
      obtain ⟨x0, x1, x2, x3, x4, x5, x6⟩ := cells7 (HX4.out.blk HB0.out (fun h => h))
      obtain ⟨y0, y1⟩ := cells2 (HX4.out.blk HS1.out (fun h => h))
      have u0 := blkLt (HX4.out.blk HB0.out (fun h => h))
      have u1 := blkLt (HX4.out.blk HS1.out (fun h => h))
      cases hsg : sigB b C R
      · obtain ⟨rfl, rfl⟩ := HP2.out HVT.out (by show (sigB b C R && _) = false; rw [hsg]; rfl)
        obtain ⟨A, c, rfl⟩ := ownNil HO4.out
        rw [hsg] at HG1
        clear hsg
        go_wp2_with fail
        refine (HG1.out w4 HK4.out).mono ?_
        rintro e w5 ⟨rfl, hk5⟩
        have HK5 := Lib.hid (HK4.out.then_ hk5)
        clear hk5
        go_wp2_with fail
        refine (HAW.out w5 HK5.out).mono ?_
        rintro e w9 ⟨rfl, hk9⟩
        go_wp2_with fail
        go_ret
        exact ⟨rfl, HK5.out.then_ hk9⟩
      · have HSG := Lib.hid hsg
        rw [hsg] at HG1
        clear hsg
        by_cases hkd : kind < 0 ∨ kind > 2
        · obtain ⟨rfl, rfl⟩ := HP2.out HVT.out (by
            show (sigB b C R && kindOk kind) = false
            have : kindOk kind = false := by unfold kindOk; rcases hkd with h | h <;> simp [h]
            rw [this, Bool.and_false])
          obtain ⟨A, c, rfl⟩ := ownNil HO4.out
          go_wp2_with fail
          refine (HG1.out w4 HK4.out).mono ?_
          rintro e w5 ⟨rfl, hk5⟩
          have HK5 := Lib.hid (HK4.out.then_ hk5)
          clear hk5
          by_cases hk0 : kind < 0
          all_goals
            (try have hk2 : kind > 2 := by omega)
            go_wp2_with fail
            refine (HAW.out w5 HK5.out).mono ?_
            rintro e w9 ⟨rfl, hk9⟩
            go_wp2_with fail
            go_ret
            exact ⟨rfl, HK5.out.then_ hk9⟩
        · have hk3 : kind = 0 ∨ kind = 1 ∨ kind = 2 := by omega
          have HKD := Lib.hid hk3
          have k1 : ¬ kind < 0 := by omega
          have k2 : ¬ kind > 2 := by omega
          clear hkd hk3
          have hE := HP3.out HVT.out (by
            show (sigB b C R && kindOk kind) = true
            rw [HSG.out]; unfold kindOk; simp [k1, k2])
          obtain ⟨rfl, hl3⟩ := hE
          have HL3 := Lib.hid hl3
          have HRF : Hid (∀ W, Keeps (fun _ => False) w W → Calls Tryz.prog 13 #[.agg #[.slice p.a0 b.cs.length p.c0, .slice p.a1 b.rs.length p.c1, .slice p.a2 b.is.length p.c2, .slice p.a3 b.incls.length p.c3, .slice p.a4 b.roles.length p.c4, .slice p.a5 b.facts.length p.c5, .slice p.a6 b.links.length p.c6], .agg #[.slice AC C.length cC, .slice AR R.length cR], .int .i64 kind] W fun e w' => ∃ v, e = .returned v ∧ OwnInts w' W.heap.size v (zs l3') ∧ Keeps (fun _ => False) W w') := fun W h => by
            rw [hl3]
            have hsb := HSG.out
            unfold sigB at hsb
            simp only [Bool.and_eq_true] at hsb
            exact module19_calls b p C R kind HKD.out AC AR cC cR (fun k => k < W.heap.size) W ((hb.keep h (fun _ _ h => h)).mono (fun k hk => Nat.lt_of_lt_of_le hk h.size)) (kbOk_of HVT.out).fit ⟨(h1.c.keep h (fun _ _ h => h)).mono (fun k hk => Nat.lt_of_lt_of_le hk h.size), (h1.r.keep h (fun _ _ h => h)).mono (fun k hk => Nat.lt_of_lt_of_le hk h.size)⟩ hsb (by omega) (by omega) (by omega) (by omega) (by omega) (by omega) (fun k hk => Nat.le_trans (axSize_le hk) (by omega))
          obtain ⟨hpw, hlt⟩ := moduleM_facts (b := b) (C := C) (R := R) (kind := kind)
          rw [← hl3] at hpw hlt
          have hnl : l3'.length ≤ 4000 := by
            have := nodup_lenN (l := l3') (m := List.range (kbCount b)) (hpw.imp (fun h => by omega)) (fun x hx => List.mem_range.2 (hlt x hx))
            rw [List.length_range] at this
            unfold kbCount at this; omega
          have HPW := Lib.hid hpw
          have HLT := Lib.hid hlt
          clear hl3 hpw hlt HP1 HP2 HP3
          obtain ⟨A4, c4, hA4, hrow4⟩ := ownRowI HO4.out
          rw [zs_len] at hA4
          subst hA4
          have HR4 := Lib.hid hrow4
          clear hrow4
          go_wp2_with fail
          refine (HG1.out w4 HK4.out).mono ?_
          rintro e w5 ⟨rfl, hk5⟩
          have HK5 := Lib.hid (HK4.out.then_ hk5)
          have HX5 := Lib.hid (HX4.out.then_ hk5)
          have HR5 := Lib.hid ((HR4.out.keep hk5 (fun _ _ h => h)).mono (ok' := fun k => k < w5.heap.size) (fun k hk => Nat.lt_of_lt_of_le hk hk5.size))
          clear hk5 x0 x1 x2 x3 x4 x5 x6 y0 y1 u0 u1 HG1
          obtain ⟨x0, x1, x2, x3, x4, x5, x6⟩ := cells7 (HX5.out.blk HB0.out (fun h => h))
          obtain ⟨y0, y1⟩ := cells2 (HX5.out.blk HS1.out (fun h => h))
          have u0 := blkLt (HX5.out.blk HB0.out (fun h => h))
          have u1 := blkLt (HX5.out.blk HS1.out (fun h => h))
          go_wp2_with fail
          refine (HRF.out w5 HK5.out).mono ?_
          rintro e w6 ⟨v6, rfl, ho6, hk6⟩
          obtain ⟨A6, c6, hA6, hrow6⟩ := ownRowI ho6
          rw [zs_len] at hA6
          subst hA6
          have HR6 := Lib.hid ((HR5.out.keep hk6 (fun _ _ h => h)).mono (ok' := fun k => k < w6.heap.size) (fun k hk => Nat.lt_of_lt_of_le hk hk6.size))
          have hsame := sameInts_calls (zs l3') (zs l3') (fun k => k < w6.heap.size) A4 A6 c4 c6 w6 HR6.out hrow6 (by rw [zs_len]; omega) (by rw [zs_len]; omega)
          rw [zs_len, decide_eq_true rfl] at hsame
          have HSI := Lib.hid hsame
          have HK6 := Lib.hid (HK5.out.then_ hk6)
          have HX6 := Lib.hid (HX5.out.then_ hk6)
          clear hsame ho6 hk6 hrow6 x0 x1 x2 x3 x4 x5 x6 y0 y1 u0 u1 HRF
          go_wp2_with fail
          refine HSI.out.mono ?_
          rintro e w7 ⟨rfl, hk7⟩
          have HK7 := Lib.hid (HK6.out.then_ hk7)
          have HX7 := Lib.hid (HX6.out.then_ hk7)
          have HR7 := Lib.hid ((HR6.out.keep hk7 (fun _ _ h => h)).mono (ok' := fun k => k < w7.heap.size) (fun k hk => Nat.lt_of_lt_of_le hk hk7.size))
          clear hk7 HSI
          have hz7 := HK7.out.size
          have HON : Hid (Calls Tryz.prog 14 #[.agg #[.slice p.a0 b.cs.length p.c0, .slice p.a1 b.rs.length p.c1, .slice p.a2 b.is.length p.c2, .slice p.a3 b.incls.length p.c3, .slice p.a4 b.roles.length p.c4, .slice p.a5 b.facts.length p.c5, .slice p.a6 b.links.length p.c6], .slice A4 l3'.length c4] w7.drew (RetOnly (onlyK b (zs l3')) w7.drew)) := by
            have h := only_calls b p (zs l3') A4 c4 (fun k => k < w7.heap.size) w7.drew ((hb.keep HK7.out.drew (fun _ _ h => h)).mono (fun k hk => Nat.lt_of_lt_of_le hk hz7)) (fun k hk => hk) (HR7.out.keep (Keeps.refl _ _).drew (fun _ _ h => h)) (by rw [zs_len]; omega) (by omega) (by omega) (by omega) (by omega)
            rw [zs_len] at h; exact h
          have HMK : Hid (∀ (p' : KbA) W, Keeps (fun _ => False) w W → KbR (fun k => k < W.heap.size) W (onlyK b (zs l3')) p' → Calls Tryz.prog 9 #[.agg #[.slice p'.a0 (onlyK b (zs l3')).cs.length p'.c0, .slice p'.a1 (onlyK b (zs l3')).rs.length p'.c1, .slice p'.a2 (onlyK b (zs l3')).is.length p'.c2, .slice p'.a3 (onlyK b (zs l3')).incls.length p'.c3, .slice p'.a4 (onlyK b (zs l3')).roles.length p'.c4, .slice p'.a5 (onlyK b (zs l3')).facts.length p'.c5, .slice p'.a6 (onlyK b (zs l3')).links.length p'.c6], .agg #[.slice AC C.length cC, .slice AR R.length cR], .int .i64 kind] W (ModPost (onlyK b (zs l3')) C R kind W)) := fun p' W h hk' =>
            modTop_calls (onlyK b (zs l3')) p' C R kind AC AR cC cR (fun k => k < W.heap.size) m W (h.cell hm (fun h => h)) (ht.keep h (fun h => h)) hk' (fun k hk => hk) (Nat.le_trans (pickF_len _ _ _) (by omega)) (Nat.le_trans (pickF_len _ _ _) (by omega)) (Nat.le_trans (pickF_len _ _ _) (by omega)) (Nat.le_trans (pickF_len _ _ _) (by omega)) ⟨(h1.c.keep h (fun _ _ h => h)).mono (fun k hk => Nat.lt_of_lt_of_le hk h.size), (h1.r.keep h (fun _ _ h => h)).mono (fun k hk => Nat.lt_of_lt_of_le hk h.size)⟩ (by omega) (by omega) (fun h => kbOk_of h)
          have HAG : Hid ((moduleM (onlyK b (zs l3')) C R kind).length = l3'.length) := by unfold Hid; rw [HL3.out]; exact moduleM_again HKD.out
          have HVO : Hid (kbValidB (onlyK b (zs l3')) = true) := onlyK_valid HPW.out HLT.out HIK.out
          have HSO : Hid ((sigOkB (onlyK b (zs l3')) C R && kindOk kind) = true) := by
            show (sigB b C R && kindOk kind) = true
            rw [HSG.out]; unfold kindOk; simp [k1, k2]
          generalize onlyK b (zs l3') = kq at *
          have hH : ∀ W, Keeps (fun _ => False) w7 W → (W.cell? ⟨w.heap.size, 0, none⟩ = some (.slice p.a0 b.cs.length p.c0) ∧ W.cell? ⟨w.heap.size, 1, none⟩ = some (.slice p.a1 b.rs.length p.c1) ∧ W.cell? ⟨w.heap.size, 2, none⟩ = some (.slice p.a2 b.is.length p.c2) ∧ W.cell? ⟨w.heap.size, 3, none⟩ = some (.slice p.a3 b.incls.length p.c3) ∧ W.cell? ⟨w.heap.size, 4, none⟩ = some (.slice p.a4 b.roles.length p.c4) ∧ W.cell? ⟨w.heap.size, 5, none⟩ = some (.slice p.a5 b.facts.length p.c5) ∧ W.cell? ⟨w.heap.size, 6, none⟩ = some (.slice p.a6 b.links.length p.c6) ∧ W.cell? ⟨w.heap.size + 1, 0, none⟩ = some (.slice AC C.length cC) ∧ W.cell? ⟨w.heap.size + 1, 1, none⟩ = some (.slice AR R.length cR)) := by
            intro W h
            obtain ⟨x0, x1, x2, x3, x4, x5, x6⟩ := cells7 (h.blk (HX7.out.blk HB0.out (fun h => h)) (fun h => h))
            obtain ⟨y0, y1⟩ := cells2 (h.blk (HX7.out.blk HS1.out (fun h => h)) (fun h => h))
            exact ⟨x0, x1, x2, x3, x4, x5, x6, y0, y1⟩
          have HH := Lib.hid hH
          clear hH
          go_wp2_with fail
          go_region_held3 (fun W => (W.cell? ⟨w.heap.size, 0, none⟩ = some (.slice p.a0 b.cs.length p.c0) ∧ W.cell? ⟨w.heap.size, 1, none⟩ = some (.slice p.a1 b.rs.length p.c1) ∧ W.cell? ⟨w.heap.size, 2, none⟩ = some (.slice p.a2 b.is.length p.c2) ∧ W.cell? ⟨w.heap.size, 3, none⟩ = some (.slice p.a3 b.incls.length p.c3) ∧ W.cell? ⟨w.heap.size, 4, none⟩ = some (.slice p.a4 b.roles.length p.c4) ∧ W.cell? ⟨w.heap.size, 5, none⟩ = some (.slice p.a5 b.facts.length p.c5) ∧ W.cell? ⟨w.heap.size, 6, none⟩ = some (.slice p.a6 b.links.length p.c6) ∧ W.cell? ⟨w.heap.size + 1, 0, none⟩ = some (.slice AC C.length cC) ∧ W.cell? ⟨w.heap.size + 1, 1, none⟩ = some (.slice AR R.length cR)))
            (first | exact HH.out _ (Keeps.refl _ _) | exact HH.out _ (Keeps.refl _ _).drew | exact HH.out _ HJ8.out | exact HH.out _ HJ9.out)
            ((first
              | (go_at_call 14; refine HON.out.mono ?_; rintro e w8 ⟨p8, rfl, hkb8, hk8⟩; have HJ8 := Lib.hid hk8.undrew; have HKB8 := Lib.hid hkb8; clear hkb8 hk8)
              | (go_at_call 9; refine (HMK.out p8 w8 (HK7.out.then_ HJ8.out) HKB8.out).mono ?_; rintro e w9 ⟨v9, l9, E9, rfl, ho9, hk9, -, -, hx9⟩; have HJ9 := Lib.hid (HJ8.out.then_ hk9); have HO9 := Lib.hid ho9; have HX9 := Lib.hid hx9; clear ho9 hk9 hx9)))
          all_goals
            obtain ⟨rfl, hl9⟩ := HX9.out HVO.out HSO.out
            obtain ⟨A9, c9, hA9, -⟩ := ownRowI HO9.out
            rw [zs_len, hl9, HAG.out] at hA9
            subst hA9
            have HK9 := Lib.hid (HK7.out.then_ HJ9.out)
            have HXX9 := Lib.hid (HX7.out.then_ HJ9.out)
            clear hl9
            obtain ⟨x0, x1, x2, x3, x4, x5, x6⟩ := cells7 (HXX9.out.blk HB0.out (fun h => h))
            obtain ⟨y0, y1⟩ := cells2 (HXX9.out.blk HS1.out (fun h => h))
            have u0 := blkLt (HXX9.out.blk HB0.out (fun h => h))
            have u1 := blkLt (HXX9.out.blk HS1.out (fun h => h))
            go_wp2_with fail
            refine (HMO.out 0 w9 HK9.out).mono ?_
            rintro e w10 ⟨v10, l10, E10, rfl, ho10, hk10, -, -, hx10⟩
            obtain ⟨rfl, hl10⟩ := hx10 HVT.out (by show (sigB b C R && _) = true; rw [HSG.out]; rfl)
            obtain ⟨A10, c10, hA10, hrow10⟩ := ownRowI ho10
            have hm10 : l10 = modL (axAt b) false C R (List.range (kbCount b)) := by rw [hl10]; unfold moduleM; rw [if_neg (by decide)]; rfl
            have hn10 : l10.length ≤ 4000 := by
              rw [hm10]
              refine Nat.le_trans (modL_len _) ?_
              rw [List.length_range]; unfold kbCount; omega
            have HALL : Hid (kind = 2 → ((zs l3').all fun x => decide (x ∈ zs l10)) = true) := fun h2 => by
              rw [List.all_eq_true]
              intro x hx
              unfold zs at hx
              obtain ⟨a, ha, rfl⟩ := List.mem_map.1 hx
              refine decide_eq_true (zs_mem.2 ?_)
              rw [hm10]
              rw [HL3.out] at ha
              unfold moduleM at ha
              rw [if_pos h2] at ha
              exact starM_first ha
            have HK10 := Lib.hid (HK9.out.then_ hk10)
            have hsub := subset_calls (zs l3') (zs l10) (fun k => k < w10.heap.size) A4 A10 c4 c10 w10 ((HR7.out.keep (HJ9.out.then_ hk10) (fun _ _ h => h)).mono (fun k hk => by have := (HJ9.out.then_ hk10).size; omega)) hrow10 (by rw [zs_len]; omega) (by rw [zs_len]; omega)
            rw [zs_len] at hsub
            have HSB := Lib.hid hsub
            clear hsub hrow10 ho10 hk10 hx10 hl10 hm10 x0 x1 x2 x3 x4 x5 x6 y0 y1 u0 u1
            rw [zs_len] at hA10 HSB
            subst hA10
            generalize ((zs l3').all fun x => decide (x ∈ zs l10)) = sb at *
            have hkk := HKD.out
            generalize l3'.length = n3 at *
            rcases hkk with hq | hq | hq
            · subst hq
              go_wp2_with fail
              refine (HAW.out w10 HK10.out).mono ?_
              rintro e w11 ⟨rfl, hk11⟩
              go_wp2_with fail
              go_ret
              exact ⟨rfl, HK10.out.then_ hk11⟩
            · subst hq
              go_wp2_with fail
              refine (HAW.out w10 HK10.out).mono ?_
              rintro e w11 ⟨rfl, hk11⟩
              go_wp2_with fail
              go_ret
              exact ⟨rfl, HK10.out.then_ hk11⟩
            · have hsb := HALL.out hq
              subst hq
              subst hsb
              go_wp2_with fail
              refine HSB.out.mono ?_
              rintro e w11 ⟨rfl, hk11⟩
              have HK11 := Lib.hid (HK10.out.then_ hk11)
              clear hk11
              go_wp2_with fail
              refine (HAW.out w11 HK11.out).mono ?_
              rintro e w12 ⟨rfl, hk12⟩
              go_wp2_with fail
              go_ret
              exact ⟨rfl, HK11.out.then_ hk12⟩
end Go.Proofs.YthiclhbnggehoaaGreatDoor
