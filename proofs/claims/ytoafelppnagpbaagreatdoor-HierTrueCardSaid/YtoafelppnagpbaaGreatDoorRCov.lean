/- The reference's Covered and True. -/
import Derived.Test.YtoafelppnagpbaaGreatDoorRPlace
import Derived.Test.YtoafelppnagpbaaGreatDoorR1
import Derived.Test.YtoafelppnagpbaaGreatDoorTrue
namespace Go.Proofs.YtoafelppnagpbaaGreatDoor
open Go.RowKit
set_option linter.unusedVariables false
set_option linter.unusedSimpArgs false
mutual
def covR (ms : List Con) : Con → Bool
  | ⟨op, n, args⟩ => if op = 0 then decide (0 ≤ placeZ ms ⟨op, n, args⟩) else if (op = 6 ∨ op = 7) ∧ placeZ ms (quantC ⟨op, n, args⟩) < 0 then false else covRL ms args
def covRL (ms : List Con) : List Con → Bool
  | [] => true
  | c :: r => covR ms c && covRL ms r
end
theorem covRL_drop (ms : List Con) {l : List Con} {k : Nat} (h : k < l.length) : covRL ms (l.drop k) = (covR ms l[k] && covRL ms (l.drop (k + 1))) := by
  rw [List.drop_eq_getElem_cons h]; simp only [covRL]
set_option maxRecDepth 100000 in
set_option maxHeartbeats 4000000 in
theorem covR_calls (l : List Con) (AL : Option Addr) (capL : Nat) (okl : Nat → Prop) (hll : l.length ≤ 1000000) (N : Nat) : ∀ (c : Con) (A : Option Addr) (cap : Nat) (ok : Nat → Prop) (w : World), c.size < N → shapeC c = true → c.size ≤ 40000 → ConsAt okl w l AL → ConR ok w c [.int .i64 c.op, .int .i64 c.n, .slice A c.args.length cap] →
    Calls Tryz.prog 15 #[.slice AL l.length capL, .agg #[.int .i64 c.op, .int .i64 c.n, .slice A c.args.length cap]] w fun e w' => e = .returned (.bool (covR l c)) ∧ Keeps (fun _ => False) w w' := by
  induction N with
  | zero => intro c _ _ _ _ h; exact absurd h (Nat.not_lt_zero _)
  | succ N ih =>
  intro c A cap ok w hN hsh hs hl hc
  have IH := Lib.hid @ih
  have HC := Lib.hid hc
  have HL := Lib.hid hl
  have HSH := Lib.hid hsh
  clear ih hc hsh hl
  have hqs := size_quant c
  have HMK := Lib.hid (fun (W : World) (hop : c.op = 6 ∨ c.op = 7) (hk : Keeps (fun _ => False) w W) => markR_calls c A cap ok W HSH.out hop (HC.out.keep hk (fun _ _ h => h)))
  have HPL : Hid (∀ W (m : Con) (A2 : Option Addr) (cap2 : Nat) (ok2 : Nat → Prop), Keeps (fun _ => False) w W → m.size ≤ 100000 → ConR ok2 W m [.int .i64 m.op, .int .i64 m.n, .slice A2 m.args.length cap2] → Calls Tryz.prog 41 #[.slice AL l.length capL, .agg #[.int .i64 m.op, .int .i64 m.n, .slice A2 m.args.length cap2]] W fun e w' => e = .returned (.int .i64 (placeZ l m)) ∧ Keeps (fun _ => False) W w') := fun W m A2 cap2 ok2 hk hm hc2 =>
    placeR_calls l m AL capL A2 cap2 ok2 _ W hm hll (HL.out.keep hk (fun _ _ h => h)) hc2
  obtain ⟨op, n, args⟩ := c
  have HV : Hid (covR l ⟨op, n, args⟩ = if op = 0 then decide (0 ≤ placeZ l ⟨op, n, args⟩) else if (op = 6 ∨ op = 7) ∧ placeZ l (quantC ⟨op, n, args⟩) < 0 then false else covRL l (args.drop 0)) := by unfold Hid; simp only [covR, List.drop_zero]
  simp only [show ∀ o n a, (Con.mk o n a).op = o from fun _ _ _ => rfl, show ∀ o n a, (Con.mk o n a).n = n from fun _ _ _ => rfl, show ∀ o n a, (Con.mk o n a).args = a from fun _ _ _ => rfl] at HC HMK ⊢
  have hsz : (Con.mk op n args).size = Con.sizes args + 1 := by simp [Con.size]
  have HPC := Lib.hid (fun W (hk : Keeps (fun _ => False) w W) => HPL.out W ⟨op, n, args⟩ A cap ok hk (by rw [hsz]; omega) (HC.out.keep hk (fun _ _ h => h)))
  simp only [show ∀ o n a, (Con.mk o n a).op = o from fun _ _ _ => rfl, show ∀ o n a, (Con.mk o n a).n = n from fun _ _ _ => rfl, show ∀ o n a, (Con.mk o n a).args = a from fun _ _ _ => rfl] at HPC
  have HCA := Lib.hid (conArgs HC.out)
  have HSL : Hid (shapeL args = true) := by have h := HSH.out; unfold Hid; simp only [shapeC, Bool.and_eq_true] at h; exact h.2
  rw [hsz] at hN hs hqs
  generalize placeZ l ⟨op, n, args⟩ = pc at *
  generalize covR l ⟨op, n, args⟩ = rv at *
  generalize quantC ⟨op, n, args⟩ = qc at *
  have hal := sameLen args
  clear hsz HSH
  by_cases h0 : op = 0
  · subst h0
    have HO : Hid (rv = decide (0 ≤ pc)) := by unfold Hid; rw [HV.out, if_pos rfl]
    clear HV HMK HPL
    go_enter Tryz.func15, Tryz.ntmps15
    go_wp2_with fail
    generalize hW0 : World.alloc _ _ = W0
    have hK0 : Keeps (fun _ => False) w W0 := by rw [← hW0]; repeat (first | exact Keeps.refl _ _ | refine Keeps.drewN ?_ _ | refine Keeps.drew ?_ | refine Keeps.alloc ?_ _ | refine Keeps.set ?_ (Or.inl (by rfl)) _)
    clear hW0
    refine (HPC.out W0 hK0).mono ?_
    clear HPC
    rintro e w1 ⟨rfl, hk1⟩
    go_wp2_with fail
    go_ret
    exact ⟨by rw [HO.out]; rfl, hK0.then_ hk1⟩
  have h0b : (op == 0) = false := by simpa using h0
  have h0c : decide (op = 0) = false := decide_eq_false h0
  have HV2 : Hid (rv = if (op = 6 ∨ op = 7) ∧ placeZ l qc < 0 then false else covRL l (args.drop 0)) := by unfold Hid; rw [HV.out, if_neg h0]
  clear HV HPC
  obtain ⟨qb, hqb⟩ : ∃ qb : Bool, (decide (op = 6) || decide (op = 7)) = qb := ⟨_, rfl⟩
  have HQ : Hid (∀ W, Calls Tryz.prog 42 #[.int .i64 op] W fun e w' => e = .returned (.bool qb) ∧ w' = W) := fun W => by have := quantified_calls op W; rwa [hqb] at this
  go_enter Tryz.func15, Tryz.ntmps15
  go_wp2_with fail
  generalize hW0 : World.alloc _ _ = W0
  have hK0 : Keeps (fun _ => False) w W0 := by rw [← hW0]; repeat (first | exact Keeps.refl _ _ | refine Keeps.drewN ?_ _ | refine Keeps.drew ?_ | refine Keeps.alloc ?_ _ | refine Keeps.set ?_ (Or.inl (by rfl)) _)
  have hb0 : W0.heap[w.heap.size]? = some (.cells #[.int .i64 op, .int .i64 n, .slice A args.length cap] 39 (0, 0)) := by rw [← hW0]; exact blkNew rfl
  clear hW0
  have HB0 := Lib.hid hb0
  clear hb0
  refine (HQ.out W0).mono ?_
  clear HQ
  rintro e w1 ⟨rfl, hw1⟩
  subst hw1
  have HK1 := Lib.hid hK0
  clear hK0
  cases qb
  case' false =>
    have HA2 : Hid (rv = covRL l (args.drop 0)) := by unfold Hid; rw [HV2.out, if_neg]; intro h; have := h.1; simp only [Bool.or_eq_false_iff, decide_eq_false_iff_not] at hqb; omega
    have HKL := Lib.hid HK1.out
    obtain ⟨x0, x1, x2⟩ := cells3 HB0.out
    have hbl := blkLt HB0.out
    clear HMK HPL HV2
    go_wp2_with fail
  case' true =>
    have hop : op = 6 ∨ op = 7 := by simpa using hqb
    have HM1 := Lib.hid (HMK.out w1 hop HK1.out)
    unfold RetMk at HM1
    obtain ⟨x0, x1, x2⟩ := cells3 HB0.out
    have hbl := blkLt HB0.out
    go_wp2_with fail
    refine HM1.out.mono ?_
    clear HM1 x0 x1 x2 hbl
    rintro e w2 ⟨A2, cap2, rfl, hm2, hk2⟩
    have HM2 := Lib.hid hm2
    have HB2 := Lib.hid (hk2.blk HB0.out (fun h => h))
    have HK2 := Lib.hid (HK1.out.then_ hk2)
    clear hm2 hk2
    go_wp2_with fail
    refine (HPL.out w2 qc A2 cap2 _ HK2.out (by omega) HM2.out).mono ?_
    rintro e w4 ⟨rfl, hk4⟩
    have HK4 := Lib.hid (HK2.out.then_ hk4)
    have HB4 := Lib.hid (hk4.blk HB2.out (fun h => h))
    generalize hpz : placeZ l qc = pz at *
    clear hk4 HM2 HB2 HK2
    by_cases hp : pz < 0
    · have HO : Hid (rv = false) := by unfold Hid; rw [HV2.out, if_pos ⟨hop, hp⟩]
      have hpd : decide (pz < 0) = true := decide_eq_true hp
      clear HMK HPL HV2
      go_wp2_with fail
      go_ret
      exact ⟨by rw [HO.out]; rfl, HK4.out⟩
    have HA2 : Hid (rv = covRL l (args.drop 0)) := by unfold Hid; rw [HV2.out, if_neg]; intro h; exact hp h.2
    have hpd : decide (pz < 0) = false := decide_eq_false hp
    have HKL := Lib.hid HK4.out
    obtain ⟨x0, x1, x2⟩ := cells3 HB4.out
    have hbl := blkLt HB4.out
    clear HMK HPL HV2
    go_wp2_with fail
  all_goals
    go_loopw [27] (fun i wr => ∃ k : Nat, k ≤ args.length ∧ i = .int .i64 k ∧ Hid (rv = covRL l (args.drop k)) ∧ Hid (Keeps (fun _ => False) w wr)) (fun i _ => args.length - (intOf i).toNat)
    case atStart => exact ⟨0, Nat.zero_le _, rfl, HA2, HKL⟩
    case round =>
      obtain ⟨k, hk, rfl, HI, HK⟩ := hrel
      by_cases hlt : k < args.length
      · obtain ⟨bb, o, A', cap', rfl, hob, hbl', e0, e1, e2, hd⟩ := (HCA.out.keep HK.out (fun _ _ h => h)).nth k hlt
        have HST := Lib.hid (covRL_drop l hlt)
        have i1 : (k : Int) < args.length := by omega
        have hsn := Con.size_at k hlt
        have hshk := Lib.hid (shapeL_at HSL.out k hlt)
        generalize args[k] = d at *
        have HCALL := Lib.hid (fun W (hkw : Keeps (fun _ => False) wr W) => IH.out d A' cap' ok W (by omega) hshk.out (by omega) (HL.out.keep (HK.out.then_ hkw) (fun _ _ h => h)) (hd.keep hkw (fun _ _ h => h)))
        clear hd
        generalize covR l d = cv at *
        go_wp2_with fail
        generalize hW4 : World.alloc _ _ = W4
        have hK4 : Keeps (fun _ => False) wr W4 := by rw [← hW4]; repeat (first | exact Keeps.refl _ _ | refine Keeps.drewN ?_ _ | refine Keeps.drew ?_ | refine Keeps.alloc ?_ _ | refine Keeps.set ?_ (Or.inl (by rfl)) _)
        clear hW4
        refine (HCALL.out W4 hK4).mono ?_
        clear HCALL
        rintro e w5 ⟨rfl, hk5⟩
        have HN := Lib.hid ((HK.out.then_ hK4).then_ hk5)
        clear hk5
        cases cv
        · have HO : Hid (rv = false) := by unfold Hid; rw [HI.out, HST.out]; rfl
          clear HI HST
          go_wp2_with fail
          go_ret
          exact ⟨by rw [HO.out]; rfl, HN.out⟩
        · have HO : Hid (rv = covRL l (args.drop (k + 1))) := by unfold Hid; rw [HI.out, HST.out]; rfl
          clear HI HST
          go_wp2_with fail
          go_roundw
          case rel => exact ⟨k + 1, by omega, by go_num, HO, HN⟩
          case measure => simp [intOf]; omega
      · obtain rfl : k = args.length := by omega
        have HO : Hid (rv = true) := by unfold Hid; rw [HI.out, List.drop_length]; simp only [covRL]
        clear HI
        go_wp2_with fail
        go_ret
        exact ⟨by rw [HO.out]; rfl, HK.out⟩
def zeroB (t n : Int) : Bool := bits BinOp.and IntKind.i64 (t / 2 ^ n.toNat) 1 == 0
mutual
def trueR (ms : List Con) (t : Int) : Con → Bool
  | ⟨op, n, args⟩ => if op = 0 ∨ op = 6 then bitB t (placeZ ms ⟨op, n, args⟩) else if op = 7 then zeroB t (placeZ ms (quantC ⟨op, n, args⟩)) else if op = 1 then true
    else if op = 3 then !trueR1 ms t args else if op = 4 then trueR1 ms t args && trueR2 ms t args else if op = 5 then trueR1 ms t args || trueR2 ms t args else false
def trueR1 (ms : List Con) (t : Int) : List Con → Bool
  | [] => false
  | c :: _ => trueR ms t c
def trueR2 (ms : List Con) (t : Int) : List Con → Bool
  | [] => false
  | _ :: r => trueR1 ms t r
end
theorem covRL_at {ms l : List Con} (h : covRL ms l = true) (k : Nat) (hk : k < l.length) : covR ms l[k] = true := by
  induction l generalizing k with
  | nil => simp at hk
  | cons c r ih =>
    simp only [covRL, Bool.and_eq_true] at h
    cases k with
    | zero => exact h.1
    | succ k => exact ih h.2 k (by simpa using hk)
theorem placeK_le (c : Con) : ∀ (l : List Con) (k : Nat), placeK c l k < k + l.length
  | [], k => by simp [placeK]; omega
  | d :: r, k => by
    have := placeK_le c r (k + 1)
    unfold placeK
    split
    · simp; omega
    · simp only [List.length_cons]; omega
theorem placeZ_le (l : List Con) (c : Con) : placeZ l c < l.length := by have := placeK_le c l 0; unfold placeZ; omega
set_option maxRecDepth 100000 in
set_option maxHeartbeats 4000000 in
theorem trueR_calls (l : List Con) (t : Int) (AL : Option Addr) (capL : Nat) (okl : Nat → Prop) (hll : l.length ≤ 60) (N : Nat) : ∀ (c : Con) (A : Option Addr) (cap : Nat) (ok : Nat → Prop) (w : World), c.size < N → shapeC c = true → covR l c = true → c.size ≤ 40000 → ConsAt okl w l AL → ConR ok w c [.int .i64 c.op, .int .i64 c.n, .slice A c.args.length cap] →
    Calls Tryz.prog 16 #[.slice AL l.length capL, .int .i64 t, .agg #[.int .i64 c.op, .int .i64 c.n, .slice A c.args.length cap]] w fun e w' => e = .returned (.bool (trueR l t c)) ∧ Keeps (fun _ => False) w w' := by
  induction N with
  | zero => intro c _ _ _ _ h; exact absurd h (Nat.not_lt_zero _)
  | succ N ih =>
  intro c A cap ok w hN hsh hcv hs hl hc
  have IH := Lib.hid @ih
  have HC := Lib.hid hc
  have HL := Lib.hid hl
  have HSH := Lib.hid hsh
  have HCV := Lib.hid hcv
  clear ih hc hsh hl hcv
  have hqs := size_quant c
  have HMK := Lib.hid (fun (W : World) (hop : c.op = 6 ∨ c.op = 7) (hk : Keeps (fun _ => False) w W) => markR_calls c A cap ok W HSH.out hop (HC.out.keep hk (fun _ _ h => h)))
  have HPL : Hid (∀ W (m : Con) (A2 : Option Addr) (cap2 : Nat) (ok2 : Nat → Prop), Keeps (fun _ => False) w W → m.size ≤ 100000 → ConR ok2 W m [.int .i64 m.op, .int .i64 m.n, .slice A2 m.args.length cap2] → Calls Tryz.prog 41 #[.slice AL l.length capL, .agg #[.int .i64 m.op, .int .i64 m.n, .slice A2 m.args.length cap2]] W fun e w' => e = .returned (.int .i64 (placeZ l m)) ∧ Keeps (fun _ => False) W w') := fun W m A2 cap2 ok2 hk hm hc2 =>
    placeR_calls l m AL capL A2 cap2 ok2 _ W hm (by omega) (HL.out.keep hk (fun _ _ h => h)) hc2
  obtain ⟨op, n, args⟩ := c
  have HV : Hid (trueR l t ⟨op, n, args⟩ = if op = 0 ∨ op = 6 then bitB t (placeZ l ⟨op, n, args⟩) else if op = 7 then zeroB t (placeZ l (quantC ⟨op, n, args⟩)) else if op = 1 then true
    else if op = 3 then !trueR1 l t args else if op = 4 then trueR1 l t args && trueR2 l t args else if op = 5 then trueR1 l t args || trueR2 l t args else false) := by unfold Hid; simp only [trueR]
  have HCV2 : Hid ((if op = 0 then decide (0 ≤ placeZ l ⟨op, n, args⟩) else if (op = 6 ∨ op = 7) ∧ placeZ l (quantC ⟨op, n, args⟩) < 0 then false else covRL l args) = true) := by have h := HCV.out; simp only [covR] at h; exact h
  simp only [show ∀ o n a, (Con.mk o n a).op = o from fun _ _ _ => rfl, show ∀ o n a, (Con.mk o n a).n = n from fun _ _ _ => rfl, show ∀ o n a, (Con.mk o n a).args = a from fun _ _ _ => rfl] at HC HMK ⊢
  have hsz : (Con.mk op n args).size = Con.sizes args + 1 := by simp [Con.size]
  have HPC := Lib.hid (fun W (hk : Keeps (fun _ => False) w W) => HPL.out W ⟨op, n, args⟩ A cap ok hk (by rw [hsz]; omega) (HC.out.keep hk (fun _ _ h => h)))
  simp only [show ∀ o n a, (Con.mk o n a).op = o from fun _ _ _ => rfl, show ∀ o n a, (Con.mk o n a).n = n from fun _ _ _ => rfl, show ∀ o n a, (Con.mk o n a).args = a from fun _ _ _ => rfl] at HPC
  have HCA := Lib.hid (conArgs HC.out)
  have HSL : Hid (shapeL args = true) := by have h := HSH.out; unfold Hid; simp only [shapeC, Bool.and_eq_true] at h; exact h.2
  have hshp : (0 ≤ op ∧ op ≤ 7) ∧ (args.length : Int) = arityZ op := by have h := HSH.out; simp only [shapeC, Bool.and_eq_true, decide_eq_true_eq] at h; exact ⟨h.1.1, h.1.2⟩
  obtain ⟨hop, har⟩ := hshp
  rw [hsz] at hN hs hqs
  have hpc := placeZ_le l ⟨op, n, args⟩
  have hqc := placeZ_le l (quantC ⟨op, n, args⟩)
  have HQ6 : op = 6 → quantC ⟨op, n, args⟩ = ⟨op, n, args⟩ := fun h => by subst h; simp [quantC, Con.op]
  generalize hpz : placeZ l ⟨op, n, args⟩ = pc at *
  generalize trueR l t ⟨op, n, args⟩ = rv at *
  generalize hqq : quantC ⟨op, n, args⟩ = qc at *
  have hcase : op = 0 ∨ op = 6 ∨ op = 7 ∨ op = 1 ∨ op = 2 ∨ op = 3 ∨ op = 4 ∨ op = 5 := by omega
  clear hsz HSH HCV
  rcases hcase with rfl | rfl | rfl | rfl | rfl | rfl | rfl | rfl
  · have hp0 : 0 ≤ pc := by have h := HCV2.out; rw [if_pos rfl, decide_eq_true_eq] at h; exact h
    have HO : Hid (rv = bitB t pc) := by unfold Hid; rw [HV.out, if_pos (by decide)]
    clear HV HMK HPL HCV2 IH HQ6 hqq hpz har hqc hop hqs
    go_enter Tryz.func16, Tryz.ntmps16
    go_wp2_with fail
    generalize hW0 : World.alloc _ _ = W0
    have hK0 : Keeps (fun _ => False) w W0 := by rw [← hW0]; repeat (first | exact Keeps.refl _ _ | refine Keeps.drewN ?_ _ | refine Keeps.drew ?_ | refine Keeps.alloc ?_ _ | refine Keeps.set ?_ (Or.inl (by rfl)) _)
    clear hW0
    refine (HPC.out W0 hK0).mono ?_
    clear HPC
    rintro e w1 ⟨rfl, hk1⟩
    go_wp2_with fail
    go_ret
    exact ⟨by rw [HO.out]; rfl, hK0.then_ hk1⟩
  · have hp0 : 0 ≤ pc := by
      have h := HCV2.out
      rw [if_neg (by decide)] at h
      split at h
      · cases h
      · rename_i h2
        have h3 : ¬ placeZ l qc < 0 := fun h4 => h2 ⟨.inl rfl, h4⟩
        rw [HQ6 rfl, hpz] at h3; omega
    have HO : Hid (rv = bitB t pc) := by unfold Hid; rw [HV.out, if_pos (by decide)]
    clear HV HMK HPL HCV2 IH HQ6 hqq hpz har hqc hop hqs
    go_enter Tryz.func16, Tryz.ntmps16
    go_wp2_with fail
    generalize hW0 : World.alloc _ _ = W0
    have hK0 : Keeps (fun _ => False) w W0 := by rw [← hW0]; repeat (first | exact Keeps.refl _ _ | refine Keeps.drewN ?_ _ | refine Keeps.drew ?_ | refine Keeps.alloc ?_ _ | refine Keeps.set ?_ (Or.inl (by rfl)) _)
    clear hW0
    refine (HPC.out W0 hK0).mono ?_
    clear HPC
    rintro e w1 ⟨rfl, hk1⟩
    go_wp2_with fail
    go_ret
    exact ⟨by rw [HO.out]; rfl, hK0.then_ hk1⟩
  · have hp0 : 0 ≤ placeZ l qc := by
      have h := HCV2.out
      rw [if_neg (by decide)] at h
      split at h
      · cases h
      · rename_i h2
        have h3 : ¬ placeZ l qc < 0 := fun h4 => h2 ⟨.inr rfl, h4⟩
        omega
    have HO : Hid (rv = zeroB t (placeZ l qc)) := by unfold Hid; rw [HV.out, if_neg (by decide), if_pos rfl]
    have HPQ := Lib.hid (fun W A2 cap2 ok2 hk hc2 => HPL.out W qc A2 cap2 ok2 hk (by omega) hc2)
    have HM1 := Lib.hid (fun W hk => HMK.out W (.inr rfl) hk)
    unfold RetMk at HM1
    generalize placeZ l qc = pq at *
    clear HV HMK HPL HCV2 IH HQ6 hqq hpz har hpc hop hqs HPC
    go_enter Tryz.func16, Tryz.ntmps16
    go_wp2_with fail
    generalize hW0 : World.alloc _ _ = W0
    have hK0 : Keeps (fun _ => False) w W0 := by rw [← hW0]; repeat (first | exact Keeps.refl _ _ | refine Keeps.drewN ?_ _ | refine Keeps.drew ?_ | refine Keeps.alloc ?_ _ | refine Keeps.set ?_ (Or.inl (by rfl)) _)
    clear hW0
    refine (HM1.out W0 hK0).mono ?_
    clear HM1
    rintro e w2 ⟨A2, cap2, rfl, hm2, hk2⟩
    have HM2 := Lib.hid hm2
    have HK2 := Lib.hid (hK0.then_ hk2)
    clear hm2 hk2
    go_wp2_with fail
    refine (HPQ.out w2 A2 cap2 _ HK2.out HM2.out).mono ?_
    rintro e w4 ⟨rfl, hk4⟩
    go_wp2_with fail
    go_ret
    exact ⟨by rw [HO.out]; rfl, HK2.out.then_ hk4⟩
  · have HO : Hid (rv = true) := by unfold Hid; rw [HV.out]; rfl
    clear HV HMK HPL HCV2 IH HQ6 hqq hpz har hpc hop hqs HPC
    go_enter Tryz.func16, Tryz.ntmps16
    go_wp2_with fail
    go_ret
    exact ⟨by rw [HO.out]; rfl, by repeat (first | exact Keeps.refl _ _ | refine Keeps.drewN ?_ _ | refine Keeps.drew ?_ | refine Keeps.alloc ?_ _ | refine Keeps.set ?_ (Or.inl (by rfl)) _)⟩
  · have HO : Hid (rv = false) := by unfold Hid; rw [HV.out]; rfl
    clear HV HMK HPL HCV2 IH HQ6 hqq hpz har hpc hop hqs HPC
    go_enter Tryz.func16, Tryz.ntmps16
    go_wp2_with fail
    go_ret
    exact ⟨by rw [HO.out]; rfl, by repeat (first | exact Keeps.refl _ _ | refine Keeps.drewN ?_ _ | refine Keeps.drew ?_ | refine Keeps.alloc ?_ _ | refine Keeps.set ?_ (Or.inl (by rfl)) _)⟩
  · have hl1 : args.length = 1 := by unfold arityZ at har; simp at har; omega
    obtain ⟨d, rfl⟩ : ∃ d, args = [d] := List.length_eq_one_iff.1 hl1
    have HO : Hid (rv = !trueR l t d) := by unfold Hid; rw [HV.out]; rfl
    have hcl : covRL l [d] = true := by have h := HCV2.out; rw [if_neg (by decide), if_neg (by simp)] at h; exact h
    obtain ⟨bk, o, A', cap', rfl, hob, hbl, e0, e1, e2, hd⟩ := HCA.out.nth 0 (by simp)
    have hz := Con.size_at (l := [d]) 0 (by simp)
    have hshk := shapeL_at HSL.out 0 (by simp)
    have hck := covRL_at hcl 0 (by simp)
    simp only [List.getElem_cons_zero, Nat.zero_mul, Nat.add_zero] at e0 e1 e2 hd hz hshk hck
    have HCALL := Lib.hid (fun W (hk : Keeps (fun _ => False) w W) => IH.out d A' cap' ok W (by omega) hshk hck (by omega) (HL.out.keep hk (fun _ _ h => h)) (hd.keep hk (fun _ _ h => h)))
    clear HV HMK HPL HCV2 IH HQ6 hqq hpz har hpc hop hqs HPC hd hcl hck hshk HSL HCA
    generalize trueR l t d = r at *
    simp only [List.length_cons, List.length_nil, Nat.zero_add]
    go_enter Tryz.func16, Tryz.ntmps16
    go_wp2_with fail
    generalize hW0 : World.alloc _ _ = W0
    have hK0 : Keeps (fun _ => False) w W0 := by rw [← hW0]; repeat (first | exact Keeps.refl _ _ | refine Keeps.drewN ?_ _ | refine Keeps.drew ?_ | refine Keeps.alloc ?_ _ | refine Keeps.set ?_ (Or.inl (by rfl)) _)
    clear hW0
    refine (HCALL.out W0 hK0).mono ?_
    rintro e w1 ⟨rfl, hk1⟩
    clear HCALL
    go_wp2_with fail
    go_ret
    exact ⟨by rw [HO.out]; rfl, hK0.then_ hk1⟩
  · have hl2 : args.length = 2 := by unfold arityZ at har; simp at har; omega
    obtain ⟨d1, d2, rfl⟩ : ∃ d1 d2, args = [d1, d2] := by
      rcases args with _ | ⟨d1, _ | ⟨d2, _ | _⟩⟩ <;> simp at hl2
      exact ⟨d1, d2, rfl⟩
    have HO : Hid (rv = (trueR l t d1 && trueR l t d2)) := by unfold Hid; rw [HV.out]; rfl
    have hcl : covRL l [d1, d2] = true := by have h := HCV2.out; rw [if_neg (by decide), if_neg (by simp)] at h; exact h
    obtain ⟨bk, o, A1, cap1, hA1, hob, hbl, e0, e1, e2, hd1⟩ := HCA.out.nth 0 (by simp)
    subst hA1
    obtain ⟨bk2, o2, A2, cap2, hAA, hob2, hbl2, f0, f1, f2, hd2⟩ := HCA.out.nth 1 (by simp)
    simp only [Option.some.injEq, Addr.mk.injEq, and_true] at hAA
    obtain ⟨rfl, rfl⟩ := hAA
    have hz1 := Con.size_at (l := [d1, d2]) 0 (by simp)
    have hz2 := Con.size_at (l := [d1, d2]) 1 (by simp)
    have hsh1 := shapeL_at HSL.out 0 (by simp)
    have hsh2 := shapeL_at HSL.out 1 (by simp)
    have hck1 := covRL_at hcl 0 (by simp)
    have hck2 := covRL_at hcl 1 (by simp)
    simp only [List.getElem_cons_zero, List.getElem_cons_succ, Nat.zero_mul, Nat.add_zero, Nat.one_mul] at e0 e1 e2 hd1 hz1 hsh1 hck1 f0 f1 f2 hd2 hz2 hsh2 hck2
    have HCALL1 := Lib.hid (fun W (hk : Keeps (fun _ => False) w W) => IH.out d1 A1 cap1 ok W (by omega) hsh1 hck1 (by omega) (HL.out.keep hk (fun _ _ h => h)) (hd1.keep hk (fun _ _ h => h)))
    have HCALL2 := Lib.hid (fun W (hk : Keeps (fun _ => False) w W) => IH.out d2 A2 cap2 ok W (by omega) hsh2 hck2 (by omega) (HL.out.keep hk (fun _ _ h => h)) (hd2.keep hk (fun _ _ h => h)))
    clear HV HMK HPL HCV2 IH HQ6 hqq hpz har hpc hop hqs HPC hd1 hd2 hcl hck1 hck2 hsh1 hsh2 HSL HCA
    generalize trueR l t d1 = r1 at *
    generalize trueR l t d2 = r2 at *
    have F0 := Lib.hid f0
    have F1 := Lib.hid f1
    have F2 := Lib.hid f2
    clear f0 f1 f2
    simp only [List.length_cons, List.length_nil, Nat.zero_add, Nat.reduceAdd]
    go_enter Tryz.func16, Tryz.ntmps16
    go_wp2_with fail
    generalize hW0 : World.alloc _ _ = W0
    have hK0 : Keeps (fun _ => False) w W0 := by rw [← hW0]; repeat (first | exact Keeps.refl _ _ | refine Keeps.drewN ?_ _ | refine Keeps.drew ?_ | refine Keeps.alloc ?_ _ | refine Keeps.set ?_ (Or.inl (by rfl)) _)
    have hb0 : W0.heap[w.heap.size]? = some (.cells #[.int .i64 4, .int .i64 n, .slice (some ⟨bk, o, none⟩) 2 cap] 39 (0, 0)) := by rw [← hW0]; exact blkNew rfl
    clear hW0
    refine (HCALL1.out W0 hK0).mono ?_
    rintro e w1 ⟨rfl, hk1⟩
    clear HCALL1
    have hK1 := hK0.then_ hk1
    have hb1 := hk1.blk hb0 (fun h => h)
    clear hb0 hk1 hK0 e0 e1 e2
    cases r1
    · have HO2 : Hid (rv = false) := by unfold Hid; rw [HO.out]; rfl
      clear HCALL2 HO
      go_wp2_with fail
      go_ret
      exact ⟨by rw [HO2.out]; rfl, hK1⟩
    · have HO2 : Hid (rv = r2) := by unfold Hid; rw [HO.out]; cases r2 <;> rfl
      clear HO
      obtain ⟨x0, x1, x2⟩ := cells3 hb1
      have f0 := hK1.cell F0.out (fun h => h)
      have f1 := hK1.cell F1.out (fun h => h)
      have f2 := hK1.cell F2.out (fun h => h)
      go_wp2_with fail
      refine (HCALL2.out w1 hK1).mono ?_
      rintro e w2 ⟨rfl, hk2⟩
      clear HCALL2 f0 f1 f2 x0 x1 x2
      go_wp2_with fail
      go_ret
      exact ⟨by rw [HO2.out]; rfl, hK1.then_ hk2⟩
  · have hl2 : args.length = 2 := by unfold arityZ at har; simp at har; omega
    obtain ⟨d1, d2, rfl⟩ : ∃ d1 d2, args = [d1, d2] := by
      rcases args with _ | ⟨d1, _ | ⟨d2, _ | _⟩⟩ <;> simp at hl2
      exact ⟨d1, d2, rfl⟩
    have HO : Hid (rv = (trueR l t d1 || trueR l t d2)) := by unfold Hid; rw [HV.out]; rfl
    have hcl : covRL l [d1, d2] = true := by have h := HCV2.out; rw [if_neg (by decide), if_neg (by simp)] at h; exact h
    obtain ⟨bk, o, A1, cap1, hA1, hob, hbl, e0, e1, e2, hd1⟩ := HCA.out.nth 0 (by simp)
    subst hA1
    obtain ⟨bk2, o2, A2, cap2, hAA, hob2, hbl2, f0, f1, f2, hd2⟩ := HCA.out.nth 1 (by simp)
    simp only [Option.some.injEq, Addr.mk.injEq, and_true] at hAA
    obtain ⟨rfl, rfl⟩ := hAA
    have hz1 := Con.size_at (l := [d1, d2]) 0 (by simp)
    have hz2 := Con.size_at (l := [d1, d2]) 1 (by simp)
    have hsh1 := shapeL_at HSL.out 0 (by simp)
    have hsh2 := shapeL_at HSL.out 1 (by simp)
    have hck1 := covRL_at hcl 0 (by simp)
    have hck2 := covRL_at hcl 1 (by simp)
    simp only [List.getElem_cons_zero, List.getElem_cons_succ, Nat.zero_mul, Nat.add_zero, Nat.one_mul] at e0 e1 e2 hd1 hz1 hsh1 hck1 f0 f1 f2 hd2 hz2 hsh2 hck2
    have HCALL1 := Lib.hid (fun W (hk : Keeps (fun _ => False) w W) => IH.out d1 A1 cap1 ok W (by omega) hsh1 hck1 (by omega) (HL.out.keep hk (fun _ _ h => h)) (hd1.keep hk (fun _ _ h => h)))
    have HCALL2 := Lib.hid (fun W (hk : Keeps (fun _ => False) w W) => IH.out d2 A2 cap2 ok W (by omega) hsh2 hck2 (by omega) (HL.out.keep hk (fun _ _ h => h)) (hd2.keep hk (fun _ _ h => h)))
    clear HV HMK HPL HCV2 IH HQ6 hqq hpz har hpc hop hqs HPC hd1 hd2 hcl hck1 hck2 hsh1 hsh2 HSL HCA
    generalize trueR l t d1 = r1 at *
    generalize trueR l t d2 = r2 at *
    have F0 := Lib.hid f0
    have F1 := Lib.hid f1
    have F2 := Lib.hid f2
    clear f0 f1 f2
    simp only [List.length_cons, List.length_nil, Nat.zero_add, Nat.reduceAdd]
    go_enter Tryz.func16, Tryz.ntmps16
    go_wp2_with fail
    generalize hW0 : World.alloc _ _ = W0
    have hK0 : Keeps (fun _ => False) w W0 := by rw [← hW0]; repeat (first | exact Keeps.refl _ _ | refine Keeps.drewN ?_ _ | refine Keeps.drew ?_ | refine Keeps.alloc ?_ _ | refine Keeps.set ?_ (Or.inl (by rfl)) _)
    have hb0 : W0.heap[w.heap.size]? = some (.cells #[.int .i64 5, .int .i64 n, .slice (some ⟨bk, o, none⟩) 2 cap] 39 (0, 0)) := by rw [← hW0]; exact blkNew rfl
    clear hW0
    refine (HCALL1.out W0 hK0).mono ?_
    rintro e w1 ⟨rfl, hk1⟩
    clear HCALL1
    have hK1 := hK0.then_ hk1
    have hb1 := hk1.blk hb0 (fun h => h)
    clear hb0 hk1 hK0 e0 e1 e2
    cases r1
    · have HO2 : Hid (rv = r2) := by unfold Hid; rw [HO.out]; cases r2 <;> rfl
      clear HO
      obtain ⟨x0, x1, x2⟩ := cells3 hb1
      have f0 := hK1.cell F0.out (fun h => h)
      have f1 := hK1.cell F1.out (fun h => h)
      have f2 := hK1.cell F2.out (fun h => h)
      go_wp2_with fail
      refine (HCALL2.out w1 hK1).mono ?_
      rintro e w2 ⟨rfl, hk2⟩
      clear HCALL2 f0 f1 f2 x0 x1 x2
      go_wp2_with fail
      go_ret
      exact ⟨by rw [HO2.out]; rfl, hK1.then_ hk2⟩
    · have HO2 : Hid (rv = true) := by unfold Hid; rw [HO.out]; rfl
      clear HCALL2 HO
      go_wp2_with fail
      go_ret
      exact ⟨by rw [HO2.out]; rfl, hK1⟩
def refTruthE (faultB : Int) (marks : List Con) (f : Con) (t : Int) : Bool × Int :=
  if faultB = 0 then
    (if marks.length ≤ 8 then
      (if t < 0 ∨ 2 ^ marks.length ≤ t ∨ covR marks f = false then (false, 1) else (trueR marks t f, 0))
     else (false, 3))
  else (false, faultB)
end Go.Proofs.YtoafelppnagpbaaGreatDoor
