/- kb.Check, module.right, module.Module. -/
import Derived.Test.YthiclhbnggehoaaGreatDoorModule
import Derived.Test.YthiclhbnggehoaaGreatDoorRising
import Derived.Test.YthiclhbnggehoaaGreatDoorSorted
namespace Go.Proofs.YthiclhbnggehoaaGreatDoor
open Go.RowKit
set_option linter.unusedVariables false
set_option linter.unusedSimpArgs false
def checkE (b : Kb) : Int := if kbValidB b then 0 else 20
set_option maxRecDepth 100000 in
set_option maxHeartbeats 4000000 in
theorem check_calls (b : Kb) (p : KbA) (ok : Nat → Prop) (m : Int) (w : World) (hm : w.cell? ⟨1, 0, none⟩ = some (.int .i64 m)) (ht : ArgsTab w) (hb : KbR ok w b p) (h3 : b.incls.length ≤ 1000000) (h4 : b.roles.length ≤ 1000000) (h5 : b.facts.length ≤ 1000000) (h6 : b.links.length ≤ 1000000) :
    Calls Tryz.prog 34 #[.agg #[.slice p.a0 b.cs.length p.c0, .slice p.a1 b.rs.length p.c1, .slice p.a2 b.is.length p.c2, .slice p.a3 b.incls.length p.c3, .slice p.a4 b.roles.length p.c4, .slice p.a5 b.facts.length p.c5, .slice p.a6 b.links.length p.c6]] w fun e w' => e = .returned (.int .i64 (checkE b)) ∧ Keeps (fun _ => False) w w' := by
  have HV : Hid (∀ W, Keeps (fun _ => False) w W → Calls Tryz.prog 66 #[.agg #[.slice p.a0 b.cs.length p.c0, .slice p.a1 b.rs.length p.c1, .slice p.a2 b.is.length p.c2, .slice p.a3 b.incls.length p.c3, .slice p.a4 b.roles.length p.c4, .slice p.a5 b.facts.length p.c5, .slice p.a6 b.links.length p.c6]] W fun e w' => e = .returned (.bool (kbValidB b)) ∧ Keeps (fun _ => False) W w') :=
    fun W h => kbValid_calls b p ok W m (h.cell hm (fun h => h)) (ht.keep h (fun h => h)) (hb.keep h (fun _ _ h => h)) h3 h4 h5 h6
  unfold checkE
  clear hb hm ht
  generalize kbValidB b = v at *
  obtain ⟨a0, a1, a2, a3, a4, a5, a6, c0, c1, c2, c3, c4, c5, c6⟩ := p
  simp only at HV ⊢
  go_enter Tryz.func34, Tryz.ntmps34
  cases v
  all_goals
    go_wp2_with (go_at_call 66; refine (HV.out _ (by repeat (first | exact Keeps.refl _ _ | refine Keeps.drewN ?_ _ | refine Keeps.drew ?_ | refine Keeps.alloc ?_ _ | refine Keeps.set ?_ (Or.inl (by rfl)) _))).mono ?_; clear HV; rintro e w2 ⟨rfl, hk2⟩; have HK2 := Lib.hid (Keeps.then_ (a := w) (by repeat (first | exact Keeps.refl _ _ | refine Keeps.drewN ?_ _ | refine Keeps.drew ?_ | refine Keeps.alloc ?_ _ | refine Keeps.set ?_ (Or.inl (by rfl)) _)) hk2); clear hk2)
    go_ret
    exact ⟨rfl, HK2.out⟩
def sigOkB (b : Kb) (C R : List Int) : Bool := risingB C b.cs.length && risingB R b.rs.length
set_option maxRecDepth 100000 in
set_option maxHeartbeats 4000000 in
theorem right_calls (b : Kb) (C R : List Int) (A0 A1 A2 AS BS : Option Addr) (c0 c1 c2 cS dS : Nat) (ok : Nat → Prop) (w : World) (hs : SigR ok w C R AS BS) (hC : C.length ≤ 1000000) (hR : R.length ≤ 1000000) :
    Calls Tryz.prog 35 #[.agg #[.slice A0 b.cs.length c0, .slice A1 b.rs.length c1, .slice A2 b.is.length c2], .agg #[.slice AS C.length cS, .slice BS R.length dS]] w (SaysB (sigOkB b C R) w) := by
  have H1 : Hid (∀ W, Keeps (fun _ => False) w W → Calls Tryz.prog 52 #[.slice AS C.length cS, .int .i64 b.cs.length] W (SaysB (risingB C b.cs.length) W)) := fun W h => kbRising_calls C _ ok AS cS W (hs.c.keep h (fun _ _ h => h)) (by omega)
  have H2 : Hid (∀ W, Keeps (fun _ => False) w W → Calls Tryz.prog 52 #[.slice BS R.length dS, .int .i64 b.rs.length] W (SaysB (risingB R b.rs.length) W)) := fun W h => kbRising_calls R _ ok BS dS W (hs.r.keep h (fun _ _ h => h)) (by omega)
  clear hs hC hR
  unfold sigOkB
  generalize risingB C b.cs.length = v1 at *
  generalize risingB R b.rs.length = v2 at *
  go_enter Tryz.func35, Tryz.ntmps35
  cases v1
  · go_wp2_with (go_at_call 52; refine (H1.out _ (by repeat (first | exact Keeps.refl _ _ | refine Keeps.drewN ?_ _ | refine Keeps.drew ?_ | refine Keeps.alloc ?_ _ | refine Keeps.set ?_ (Or.inl (by rfl)) _))).mono ?_; rintro e w2 ⟨rfl, hk2⟩; have HK2 := Lib.hid (Keeps.then_ (a := w) (by repeat (first | exact Keeps.refl _ _ | refine Keeps.drewN ?_ _ | refine Keeps.drew ?_ | refine Keeps.alloc ?_ _ | refine Keeps.set ?_ (Or.inl (by rfl)) _)) hk2); clear hk2)
    go_ret
    exact ⟨by simp, HK2.out⟩
  · go_wp2_with (first | ((with_reducible show Calls _ _ #[.slice AS _ _, _] _ _); go_at_call 52; refine (H1.out _ (by repeat (first | exact Keeps.refl _ _ | refine Keeps.drewN ?_ _ | refine Keeps.drew ?_ | refine Keeps.alloc ?_ _ | refine Keeps.set ?_ (Or.inl (by rfl)) _))).mono ?_; rintro e w2 ⟨rfl, hk2⟩; have HK2 := Lib.hid (Keeps.then_ (a := w) (by repeat (first | exact Keeps.refl _ _ | refine Keeps.drewN ?_ _ | refine Keeps.drew ?_ | refine Keeps.alloc ?_ _ | refine Keeps.set ?_ (Or.inl (by rfl)) _)) hk2); have hb1 := hk2.blk (blkNew (w := w.alloc _) rfl) (fun h => h); have hb0 := hk2.blk (blkAlloc (blkNew (w := w) rfl) _) (fun h => h); obtain ⟨x0, x1⟩ := cells2 (v0 := .slice AS C.length cS) (v1 := .slice BS R.length dS) (t := 33) (fz := (0, 0)) (g := w.heap.size + 1) (w := w2) (by have h := hb1; simp at h; exact h); obtain ⟨y0, y1, y2⟩ := cells3 hb0; have hl0 := blkLt hb0; have hl1 : w.heap.size + 1 < w2.heap.size := (by have h := blkLt hb1; simp at h; exact h); clear hk2 hb1 hb0) | (go_at_call 52; refine (H2.out w2 HK2.out).mono ?_; rintro e w3 ⟨rfl, hk3⟩; have HK3 := Lib.hid (HK2.out.then_ hk3); clear hk3) | fail)
    go_ret
    exact ⟨by simp, HK3.out⟩
/-- The module of a kind. -/
noncomputable def moduleM (b : Kb) (C R : List Int) (kind : Int) : List Nat := if kind = 2 then starM (axAt b) C R false 0 (List.range (kbCount b)) else modL (axAt b) (kind == 1) C R (List.range (kbCount b))
def kindOk (k : Int) : Bool := !(decide (k < 0) || decide (k > 2))
theorem ownsMade (w : World) (e n : Nat) (o : Obj) (h : o = .cells #[] e (0, 0)) : (w.alloc o).ownsRow w.heap.size e 1 (.slice (some ⟨w.heap.size, 0, none⟩) 0 0) 0 [] := by
  subst h; exact World.ownsRow_made w #[] 0 (Nat.le_refl _) (Nat.zero_le _) (by simp)
theorem zs_range (k : Nat) : zs (List.range (k + 1)) = zs (List.range k) ++ [(k : Int)] := by rw [List.range_succ, zs_snoc]
theorem mod_lt {A : Nat → Ax} {top : Bool} {C R : List Int} {l : List Nat} {n : Nat} (h : ∀ k ∈ l, k < n) : ∀ k ∈ modL A top C R l, k < n := fun k hk => h k (modL_sub hk)
theorem modL_nodup {A : Nat → Ax} {top : Bool} {C R : List Int} {l : List Nat} (h : l.Nodup) : (modL A top C R l).Nodup := by unfold modL; exact h.filter _
theorem ownRowN {w : World} {base : Nat} {v : Value} {l : List Nat} (h : OwnInts w base v (zs l)) : ∃ A c, v = .slice A l.length c ∧ Row1 (fun k => k < w.heap.size) w (Value.int .i64) (zs l) A := by
  obtain ⟨-, A, c, hv, -, hr⟩ := ownedRow1 h
  exact ⟨A, c, by rw [hv, zs_len], hr.lim.mono (fun k hk => hk.2)⟩
theorem rem_top {kd : Nat} {top : Bool} (h : kd % 2 = if top then 1 else 0) : (kd : Int).tmod 2 = topI top := by
  rw [Int.tmod_eq_emod_of_nonneg (by omega)]
  unfold topI
  cases top <;> simp at h ⊢ <;> omega
theorem wrap_top (top : Bool) : wrap64 (topI top) = topI top := by unfold topI wrap64; cases top <;> simp
/-- What Module answers. -/
def ModPost (b : Kb) (C R : List Int) (kind : Int) (w : World) (e : Ending) (w' : World) : Prop := ∃ v l E, e = .returned (.tuple #[v, .int .i64 E]) ∧ OwnInts w' w.heap.size v (zs l) ∧ Keeps (fun _ => False) w w' ∧ (kbValidB b = false → E = 20 ∧ l = []) ∧ (kbValidB b = true → (sigOkB b C R && kindOk kind) = false → E = 1 ∧ l = []) ∧ (kbValidB b = true → (sigOkB b C R && kindOk kind) = true → E = 0 ∧ l = moduleM b C R kind)
set_option maxRecDepth 100000 in
set_option maxHeartbeats 16000000 in
theorem modTop_calls (b : Kb) (p : KbA) (C R : List Int) (kind : Int) (AS BS : Option Addr) (cS dS : Nat) (ok : Nat → Prop) (m : Int) (w : World) (hm : w.cell? ⟨1, 0, none⟩ = some (.int .i64 m)) (ht : ArgsTab w) (hb : KbR ok w b p) (hok : ∀ k, ok k → k < w.heap.size)
    (h3 : b.incls.length ≤ 1000) (h4 : b.roles.length ≤ 1000) (h5 : b.facts.length ≤ 1000) (h6 : b.links.length ≤ 1000) (hs : SigR ok w C R AS BS) (hC : C.length ≤ 1000000) (hR : R.length ≤ 1000000) (ho : kbValidB b = true → KbOk b) :
    Calls Tryz.prog 9 #[.agg #[.slice p.a0 b.cs.length p.c0, .slice p.a1 b.rs.length p.c1, .slice p.a2 b.is.length p.c2, .slice p.a3 b.incls.length p.c3, .slice p.a4 b.roles.length p.c4, .slice p.a5 b.facts.length p.c5, .slice p.a6 b.links.length p.c6], .agg #[.slice AS C.length cS, .slice BS R.length dS], .int .i64 kind] w (ModPost b C R kind w) := by
  have HCK : Hid (∀ W, Keeps (fun _ => False) w W → Calls Tryz.prog 34 #[.agg #[.slice p.a0 b.cs.length p.c0, .slice p.a1 b.rs.length p.c1, .slice p.a2 b.is.length p.c2, .slice p.a3 b.incls.length p.c3, .slice p.a4 b.roles.length p.c4, .slice p.a5 b.facts.length p.c5, .slice p.a6 b.links.length p.c6]] W fun e w' => e = .returned (.int .i64 (checkE b)) ∧ Keeps (fun _ => False) W w') :=
    fun W h => check_calls b p ok m W (h.cell hm (fun h => h)) (ht.keep h (fun h => h)) (hb.keep h (fun _ _ h => h)) (by omega) (by omega) (by omega) (by omega)
  have HRT : Hid (∀ W, Keeps (fun _ => False) w W → Calls Tryz.prog 35 #[.agg #[.slice p.a0 b.cs.length p.c0, .slice p.a1 b.rs.length p.c1, .slice p.a2 b.is.length p.c2], .agg #[.slice AS C.length cS, .slice BS R.length dS]] W (SaysB (sigOkB b C R) W)) :=
    fun W h => right_calls b C R p.a0 p.a1 p.a2 AS BS p.c0 p.c1 p.c2 cS dS ok W ⟨hs.c.keep h (fun _ _ h => h), hs.r.keep h (fun _ _ h => h)⟩ hC hR
  have HCT : Hid (∀ W, Calls Tryz.prog 36 #[.agg #[.slice p.a0 b.cs.length p.c0, .slice p.a1 b.rs.length p.c1, .slice p.a2 b.is.length p.c2, .slice p.a3 b.incls.length p.c3, .slice p.a4 b.roles.length p.c4, .slice p.a5 b.facts.length p.c5, .slice p.a6 b.links.length p.c6]] W fun e w' => e = .returned (.int .i64 (kbCount b)) ∧ Keeps (fun _ => False) W w') := fun W => count_calls b p W (by omega) (by omega) (by omega) (by omega)
  have HMO : Hid (kbValidB b = true → ∀ (top : Bool) (within : List Nat) (A0 : Option Addr) (cl : Nat) (W : World), Keeps (fun _ => False) w W → (∀ k ∈ within, k < kbCount b) → within.Nodup → within.length ≤ 1000000 → Row1 (fun k => k < W.heap.size) W (Value.int .i64) (zs within) A0 →
      Calls Tryz.prog 37 #[.agg #[.slice p.a0 b.cs.length p.c0, .slice p.a1 b.rs.length p.c1, .slice p.a2 b.is.length p.c2, .slice p.a3 b.incls.length p.c3, .slice p.a4 b.roles.length p.c4, .slice p.a5 b.facts.length p.c5, .slice p.a6 b.links.length p.c6], .slice A0 within.length cl, .agg #[.slice AS C.length cS, .slice BS R.length dS], .int .i64 (topI top)] W fun e w' => ∃ v, e = .returned v ∧ OwnInts w' W.heap.size v (zs (modL (axAt b) top C R within)) ∧ Keeps (fun _ => False) W w') := by
    intro hv top within A0 cl W h hw hnd hlen hl
    exact module_calls top b p within C R A0 AS BS cl cS dS (fun k => k < W.heap.size) m W (h.cell hm (fun h => h)) (ht.keep h (fun h => h)) ((hb.keep h (fun _ _ h => h)).mono (fun k hk => Nat.lt_of_lt_of_le (hok k hk) h.size)) (fun k hk => hk) (ho hv) hw hnd hlen hl ⟨(hs.c.keep h (fun _ _ h => h)).mono (fun k hk => Nat.lt_of_lt_of_le (hok k hk) h.size), (hs.r.keep h (fun _ _ h => h)).mono (fun k hk => Nat.lt_of_lt_of_le (hok k hk) h.size)⟩ hC hR
  have hcount : kbCount b ≤ 4000 := by unfold kbCount; omega
  clear hb hm ht hs ho
  unfold checkE at HCK
  obtain ⟨N, hN⟩ : ∃ N, N = kbCount b := ⟨_, rfl⟩
  have HMM : Hid (∀ k, moduleM b C R k = if k = 2 then starM (axAt b) C R false 0 (List.range N) else modL (axAt b) (k == 1) C R (List.range N)) := fun k => by rw [hN]; rfl
  rw [← hN] at HCT hcount
  rw [← hN] at HMO
  clear hN
  obtain ⟨a0, a1, a2, a3, a4, a5, a6, c0, c1, c2, c3, c4, c5, c6⟩ := p
  simp only at HCK HRT HCT HMO ⊢
  cases hv : kbValidB b
  · rw [hv] at HCK
    clear HMO HRT HCT
    have HVF := Lib.hid hv
    clear hv
    go_enter Tryz.func9, Tryz.ntmps9
    go_wp2_with (go_at_call 34; refine (HCK.out _ (by repeat (first | exact Keeps.refl _ _ | refine Keeps.drewN ?_ _ | refine Keeps.drew ?_ | refine Keeps.alloc ?_ _ | refine Keeps.set ?_ (Or.inl (by rfl)) _))).mono ?_; rintro e w2 ⟨rfl, hk2⟩; have HK2 := Lib.hid (Keeps.then_ (a := w) (by repeat (first | exact Keeps.refl _ _ | refine Keeps.drewN ?_ _ | refine Keeps.drew ?_ | refine Keeps.alloc ?_ _ | refine Keeps.set ?_ (Or.inl (by rfl)) _)) hk2); clear hk2)
    refine bodyPost_ret (v := .tuple #[.slice none 0 0, .int .i64 20]) (by simp [results, Tryz.results9, go_sem]) rfl ?_
    exact ⟨_, [], 20, rfl, OwnInts.nil _ _, HK2.out, fun _ => ⟨rfl, rfl⟩, fun h => absurd (HVF.out.symm.trans h) (by decide), fun h => absurd (HVF.out.symm.trans h) (by decide)⟩
  · rw [hv] at HCK
    have HMO' := Lib.hid (HMO.out hv)
    have HVT := Lib.hid hv
    clear HMO hv
    go_enter Tryz.func9, Tryz.ntmps9
    go_wp2_with fail
    generalize hW0 : World.alloc _ _ = W0
    have hk0 : Keeps (fun _ => False) w W0 := by rw [← hW0]; repeat (first | exact Keeps.refl _ _ | refine Keeps.drewN ?_ _ | refine Keeps.drew ?_ | refine Keeps.alloc ?_ _ | refine Keeps.set ?_ (Or.inl (by rfl)) _)
    have hb1 : W0.heap[w.heap.size]? = some (.cells #[.slice a0 b.cs.length c0, .slice a1 b.rs.length c1, .slice a2 b.is.length c2, .slice a3 b.incls.length c3, .slice a4 b.roles.length c4, .slice a5 b.facts.length c5, .slice a6 b.links.length c6] 30 (0, 0)) := by rw [← hW0]; exact blkAlloc (blkNew rfl) _
    have hb2 : W0.heap[w.heap.size + 1]? = some (.cells #[.slice AS C.length cS, .slice BS R.length dS] 33 (0, 0)) := by rw [← hW0]; exact blkNew (by simp)
    have hz0 : W0.heap.size = w.heap.size + 2 := by rw [← hW0]; simp
    clear hW0
    have HB1 := Lib.hid hb1
    have HB2 := Lib.hid hb2
    have HK0 := Lib.hid hk0
    clear hb1 hb2 hk0
    refine (HCK.out W0 HK0.out).mono ?_
    rintro e w2 ⟨rfl, hk2⟩
    have HK2 := Lib.hid hk2
    have hz2 := hk2.size
    have hl2 : w.heap.size < w2.heap.size := by omega
    have hl2' : w.heap.size + 1 < w2.heap.size := by omega
    obtain ⟨x0, x1, x2, x3, x4, x5, x6⟩ := cells7 (hk2.blk HB1.out (fun h => h))
    obtain ⟨y0, y1⟩ := cells2 (hk2.blk HB2.out (fun h => h))
    clear hk2 HCK
    simp only [if_true]
    cases hsg : sigOkB b C R
    · rw [hsg] at HRT
      have HSG := Lib.hid hsg
      clear hsg
      go_wp2_with fail
      refine (HRT.out w2 (HK0.out.then_ HK2.out)).mono ?_
      rintro e w3 ⟨rfl, hk3⟩
      have HK3 := Lib.hid hk3
      clear hk3
      go_wp2_with fail
      refine bodyPost_ret (v := .tuple #[.slice none 0 0, .int .i64 1]) (by simp [results, Tryz.results9, go_sem]) rfl ?_
      exact ⟨_, [], 1, rfl, OwnInts.nil _ _, (HK0.out.then_ HK2.out).then_ HK3.out, fun h => absurd (HVT.out.symm.trans h) (by decide), fun _ _ => ⟨rfl, rfl⟩, fun _ h => absurd h (by rw [HSG.out]; simp)⟩
    · rw [hsg] at HRT
      have HSG := Lib.hid hsg
      clear hsg
      cases hkd : kindOk kind
      · have hkk : kind < 0 ∨ kind > 2 := by unfold kindOk at hkd; simp at hkd; omega
        have HKD0 := Lib.hid hkd
        clear hkd
        go_wp2_with fail
        refine (HRT.out w2 (HK0.out.then_ HK2.out)).mono ?_
        rintro e w3 ⟨rfl, hk3⟩
        have HK3 := Lib.hid hk3
        clear hk3
        by_cases hk0 : kind < 0
        all_goals
          (try have hk2 : kind > 2 := by omega)
          go_wp2_with fail
          refine bodyPost_ret (v := .tuple #[.slice none 0 0, .int .i64 1]) (by simp [results, Tryz.results9, go_sem]) rfl ?_
          exact ⟨_, [], 1, rfl, OwnInts.nil _ _, (HK0.out.then_ HK2.out).then_ HK3.out, fun h => absurd (HVT.out.symm.trans h) (by decide), fun _ _ => ⟨rfl, rfl⟩, fun _ h => absurd h (by rw [HKD0.out]; simp)⟩
      · have hkk : 0 ≤ kind ∧ kind ≤ 2 := by unfold kindOk at hkd; simp at hkd; omega
        have HKD0 := Lib.hid hkd
        clear hkd
        have k1 : ¬ kind < 0 := by omega
        have k2 : ¬ kind > 2 := by omega
        go_wp2_with fail
        refine (HRT.out w2 (HK0.out.then_ HK2.out)).mono ?_
        rintro e w3 ⟨rfl, hk3⟩
        have HK3 := Lib.hid (HK2.out.then_ hk3)
        have hz3 := hk3.size
        have hl3 : w.heap.size < w3.heap.size := by omega
        have hl3' : w.heap.size + 1 < w3.heap.size := by omega
        clear hk3 HRT x0 x1 x2 x3 x4 x5 x6 y0 y1 hl2 hl2'
        obtain ⟨x0, x1, x2, x3, x4, x5, x6⟩ := cells7 (HK3.out.blk HB1.out (fun h => h))
        go_wp2_with fail
        refine (HCT.out _).mono ?_
        rintro e w4 ⟨rfl, hk4⟩
        have hown : OwnInts w4 W0.heap.size (.slice (some ⟨w3.heap.size, 0, none⟩) 0 0) (zs (List.range 0)) := by
          have h1 := ownsMade w3 3 0 _ rfl
          exact World.ownsRow.mono (ownsKeep h1 hk4 (fun _ _ h => h)) (by omega)
        have HOW := Lib.hid hown
        have HK4 := Lib.hid (HK3.out.then_ (Keeps.then_ (by repeat (first | exact Keeps.refl _ _ | refine Keeps.drewN ?_ _ | refine Keeps.drew ?_ | refine Keeps.alloc ?_ _ | refine Keeps.set ?_ (Or.inl (by rfl)) _)) hk4))
        have hz4 : W0.heap.size ≤ w4.heap.size := HK4.out.size
        clear hk4 hown HCT x0 x1 x2 x3 x4 x5 x6
        go_wp2_with fail
        go_loopw [8, 33] (fun v i wr => ∃ k : Nat, k ≤ N ∧ i = .int .i64 k ∧ Hid (OwnInts wr W0.heap.size v (zs (List.range k))) ∧ Hid (Keeps (fun _ => False) W0 wr)) (fun _ i _ => N - (intOf i).toNat)
        case atStart => exact ⟨0, Nat.zero_le _, rfl, HOW.out, HK4.out⟩
        case round =>
          obtain ⟨k, hk, rfl, HO, HK⟩ := hrel
          have hzr := HK.out.size
          by_cases hlt : k < N
          · have i1 : (k : Int) < N := by omega
            have hln : (zs (List.range k)).length = k := by rw [zs_len, List.length_range]
            have HOX := Lib.hid HO.out
            have HVL := Lib.hid HO.out.lt
            have HZ := Lib.hid (zs_range k)
            generalize zs (List.range k) = zz at *
            go_wp2_with (at_builtin; refine wp_app1 rfl _ _ 31 31 rfl W0.heap.size 3 (.int .i64 0) 1 8 Tryz.underlying31 infoInt rfl (by decide) (by decide) u8 zz.length _ (ownsKeep (S := fun _ => False) HOX.out (by repeat (first | exact Keeps.refl _ _ | refine Keeps.drewN ?_ _ | refine Keeps.drew ?_ | refine Keeps.alloc ?_ _ | refine Keeps.set ?_ (Or.inl (by rfl)) _)) (fun _ _ h => h)) rfl _ 1 [.int .i64 (k : Int)] (Src.ofBlock Tryz.underlying31 (cs := #[.int .i64 (k : Int)]) (blkNew (by first | rfl | simp)) rfl (by simp [Value.oneCell'])) rfl (by decide) (by omega) (by simp; omega) ?_; intro g cap w5 ho5 hk5 hat hcap hlt5)
            go_roundw
            case rel =>
              have hkk := hk5.upto (a := wr) (by repeat (first | exact Keeps.refl _ _ | refine Keeps.drewN ?_ _ | refine Keeps.drew ?_ | refine Keeps.alloc ?_ _ | refine Keeps.set ?_ (Or.inl (by rfl)) _))
              refine ⟨k + 1, by omega, by go_num, ?_, (HK.out.then_ hkk).trans hk5 (fun i hi => .inr (HVL.out i hi).1)⟩
              unfold Hid OwnInts
              rw [HZ.out]
              simpa [hln] using ho5
            case measure => simp [intOf]; omega
          · obtain rfl : N = k := by omega
            have HOX := HO
            obtain ⟨A, c, rfl, hrow⟩ := ownRowN HO.out
            have HRW := Lib.hid hrow
            have hrn : (List.range N).length = N := List.length_range
            obtain ⟨x0, x1, x2, x3, x4, x5, x6⟩ := cells7 (HK.out.blk HB1.out (fun h => h))
            obtain ⟨y0, y1⟩ := cells2 (HK.out.blk HB2.out (fun h => h))
            have hlr : w.heap.size < wr.heap.size := by omega
            have hlr' : w.heap.size + 1 < wr.heap.size := by omega
            have HKW := Lib.hid (HK0.out.then_ HK.out)
            clear hrow
            by_cases hk2 : kind = 2
            · subst hk2
              have hS : ∃ S, S = starM (axAt b) C R false 0 (List.range N) := ⟨_, rfl⟩
              obtain ⟨S, hS⟩ := hS
              have HS := Lib.hid hS
              have hK4 := HK.out
              have HK5 := Lib.hid hK4
              have HOS := Lib.hid HO.out
              clear x0 x1 x2 x3 x4 x5 x6 y0 y1 hS hK4 HRW HO HKW
              go_wp2_with fail
              go_loopw [2, 8, 10] (fun kv v sv wr => ∃ (top : Bool) (same kd : Nat) (out : List Nat), kv = .int .i64 kd ∧ sv = .int .i64 same ∧ Hid (OwnInts wr W0.heap.size v (zs out)) ∧ Hid (Keeps (fun _ => False) W0 wr) ∧ Hid (kd % 2 = if top then 1 else 0) ∧ same ≤ 2 ∧ Hid (starM (axAt b) C R top same out = S) ∧ Hid ((∀ k ∈ out, k < N) ∧ out.Nodup) ∧ kd + 3 * out.length + (2 - same) ≤ 3 * N + 10) (fun _ v s _ => 3 * sliceLen v + (2 - (intOf s).toNat))
              case atStart => exact ⟨false, 0, 2, List.range N, rfl, rfl, HOS.out, HK5.out, rfl, by omega, HS.out.symm, ⟨fun k hk => List.mem_range.1 hk, List.nodup_range⟩, by rw [hrn]; omega⟩
              case round =>
                obtain ⟨top, same, kd, out, rfl, rfl, HO, HK, HKD, hsm, HST, HOU, hbd⟩ := hrel
                have hzr2 := HK.out.size
                obtain ⟨A, c, rfl, hrow⟩ := ownRowN HO.out
                have HRW := Lib.hid hrow
                clear hrow
                have hll : out.length ≤ N := by
                  have := nodup_lenN HOU.out.2 (m := List.range N) (fun x hx => List.mem_range.2 (HOU.out.1 x hx))
                  rw [hrn] at this; exact this
                by_cases hs2 : same < 2
                · obtain ⟨x0, x1, x2, x3, x4, x5, x6⟩ := cells7 (HK.out.blk HB1.out (fun h => h))
                  obtain ⟨y0, y1⟩ := cells2 (HK.out.blk HB2.out (fun h => h))
                  have hlr3 : w.heap.size < wr.heap.size := by omega
                  have hlr4 : w.heap.size + 1 < wr.heap.size := by omega
                  have r1 := rem_top HKD.out
                  have r2 := wrap_top top
                  have i1 : (same : Int) < 2 := by omega
                  have HCM : Hid (Calls Tryz.prog 37 #[.agg #[.slice a0 b.cs.length c0, .slice a1 b.rs.length c1, .slice a2 b.is.length c2, .slice a3 b.incls.length c3, .slice a4 b.roles.length c4, .slice a5 b.facts.length c5, .slice a6 b.links.length c6], .slice A out.length c, .agg #[.slice AS C.length cS, .slice BS R.length dS], .int .i64 (topI top)] wr fun e w' => ∃ v, e = .returned v ∧ OwnInts w' wr.heap.size v (zs (modL (axAt b) top C R out)) ∧ Keeps (fun _ => False) wr w') :=
                    HMO'.out top out A c wr (HK0.out.then_ HK.out) HOU.out.1 HOU.out.2 (by omega) HRW.out
                  have HML : Hid (∀ k ∈ modL (axAt b) top C R out, k < N) := mod_lt HOU.out.1
                  have HMN : Hid ((modL (axAt b) top C R out).Nodup) := modL_nodup HOU.out.2
                  have hml := modL_len (A := axAt b) (top := top) (C := C) (R := R) out
                  have HU : Hid (starM (axAt b) C R top same out = if (modL (axAt b) top C R out).length < out.length then starM (axAt b) C R (!top) 0 (modL (axAt b) top C R out) else starM (axAt b) C R (!top) (same + 1) (modL (axAt b) top C R out)) := by unfold Hid; rw [starM, if_pos hs2]
                  rw [HU.out] at HST
                  clear HU
                  generalize modL (axAt b) top C R out = nx at *
                  have hkd2 : Hid ((kd + 1) % 2 = if (!top) = true then 1 else 0) := by unfold Hid; have := HKD.out; cases top <;> simp at this ⊢ <;> omega
                  by_cases hlt : nx.length < out.length
                  · have i2 : (nx.length : Int) < out.length := by omega
                    rw [if_pos hlt] at HST
                    go_wp2_with (go_at_call 37; refine HCM.out.mono ?_; clear HCM; rintro e w6 ⟨v6, rfl, ho6, hk6⟩; obtain ⟨A6, c6', rfl, hrow6⟩ := ownRowN ho6; have HO6 := Lib.hid ho6; have HK6 := Lib.hid hk6; clear ho6 hk6 hrow6)
                    go_roundw
                    case rel =>
                      first
                        | exact ⟨!top, 0, kd + 1, nx, by go_num, rfl, World.ownsRow.mono HO6.out (by omega), HK.out.then_ HK6.out, hkd2, by omega, HST.out, ⟨HML.out, HMN.out⟩, by omega⟩
                        | ((repeat apply Exists.intro); exact ⟨⟨!top, 0, kd + 1, nx, by go_num, rfl, World.ownsRow.mono HO6.out (by omega), HK.out.then_ HK6.out, hkd2, by omega, HST.out, ⟨HML.out, HMN.out⟩, by omega⟩, rfl⟩)
                        | fail
                    case measure => simp [intOf, sliceLen]; omega
                  · have i2 : ¬ ((nx.length : Int) < out.length) := by omega
                    rw [if_neg hlt] at HST
                    go_wp2_with (go_at_call 37; refine HCM.out.mono ?_; clear HCM; rintro e w6 ⟨v6, rfl, ho6, hk6⟩; obtain ⟨A6, c6', rfl, hrow6⟩ := ownRowN ho6; have HO6 := Lib.hid ho6; have HK6 := Lib.hid hk6; clear ho6 hk6 hrow6)
                    go_roundw
                    case rel =>
                      first
                        | exact ⟨!top, same + 1, kd + 1, nx, by go_num, by go_num, World.ownsRow.mono HO6.out (by omega), HK.out.then_ HK6.out, hkd2, by omega, HST.out, ⟨HML.out, HMN.out⟩, by omega⟩
                        | ((repeat apply Exists.intro); exact ⟨⟨!top, same + 1, kd + 1, nx, by go_num, by go_num, World.ownsRow.mono HO6.out (by omega), HK.out.then_ HK6.out, hkd2, by omega, HST.out, ⟨HML.out, HMN.out⟩, by omega⟩, rfl⟩)
                        | fail
                    case measure => simp [intOf, sliceLen]; omega
                · have i1 : ¬ ((same : Int) < 2) := by omega
                  have HU : Hid (S = out) := by unfold Hid; have h := HST.out; rw [starM, if_neg hs2] at h; exact h.symm
                  go_wp2_with fail
                  refine bodyPost_ret (v := .tuple #[.slice A out.length c, .int .i64 0]) (by simp [results, Tryz.results9, go_sem]) rfl ?_
                  exact ⟨_, out, 0, rfl, World.ownsRow.mono HO.out (by omega), HK0.out.then_ HK.out, fun h => absurd (HVT.out.symm.trans h) (by decide), fun _ h => absurd h (by rw [HSG.out, HKD0.out]; decide), fun _ _ => ⟨rfl, by rw [HMM.out, if_pos rfl, ← HS.out, HU.out]⟩⟩
            · have hkt : kind = topI (kind == 1) := by
                have : kind = 0 ∨ kind = 1 := by omega
                rcases this with rfl | rfl <;> rfl
              have HCM : Hid (Calls Tryz.prog 37 #[.agg #[.slice a0 b.cs.length c0, .slice a1 b.rs.length c1, .slice a2 b.is.length c2, .slice a3 b.incls.length c3, .slice a4 b.roles.length c4, .slice a5 b.facts.length c5, .slice a6 b.links.length c6], .slice A N c, .agg #[.slice AS C.length cS, .slice BS R.length dS], .int .i64 kind] wr fun e w' => ∃ v, e = .returned v ∧ OwnInts w' wr.heap.size v (zs (modL (axAt b) (kind == 1) C R (List.range N))) ∧ Keeps (fun _ => False) wr w') := by
                have h := HMO'.out (kind == 1) (List.range N) A c wr HKW.out (fun k hk => List.mem_range.1 hk) List.nodup_range (by rw [hrn]; omega) HRW.out
                rw [← hkt, hrn] at h
                exact h
              clear hkt
              go_wp2_with (go_at_call 37; refine HCM.out.mono ?_; clear HCM; rintro e w6 ⟨v6, rfl, ho6, hk6⟩; have HO6 := Lib.hid ho6; have HK6 := Lib.hid hk6; clear ho6 hk6)
              refine bodyPost_ret (v := .tuple #[v6, .int .i64 0]) (by simp [results, Tryz.results9, go_sem]) rfl ?_
              exact ⟨_, _, 0, rfl, World.ownsRow.mono HO6.out (by omega), HKW.out.then_ HK6.out, fun h => absurd (HVT.out.symm.trans h) (by decide), fun _ h => absurd h (by rw [HSG.out, HKD0.out]; decide), fun _ _ => ⟨rfl, by rw [HMM.out, if_neg hk2]⟩⟩
end Go.Proofs.YthiclhbnggehoaaGreatDoor
