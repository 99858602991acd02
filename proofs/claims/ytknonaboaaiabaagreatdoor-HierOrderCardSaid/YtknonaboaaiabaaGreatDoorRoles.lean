/- What hier.Below and hier.Above compute. -/
import Derived.Test.YtknonaboaaiabaaGreatDoorTableW
import Derived.Test.YtknonaboaaiabaaGreatDoorKbValid
import Derived.Test.YtknonaboaaiabaaGreatDoorCons
import Derived.Deep.Onto
namespace Go.Proofs.YtknonaboaaiabaaGreatDoor
open Go.RowKit
set_option linter.unusedVariables false
set_option linter.unusedSimpArgs false
theorem hrole_calls (r : Int) (b : Kb) (p : KbA) (w : World) (hn : b.rs.length ≤ 1000000) :
    Calls Tryz.prog 76 #[.agg #[.slice p.a0 b.cs.length p.c0, .slice p.a1 b.rs.length p.c1, .slice p.a2 b.is.length p.c2, .slice p.a3 b.incls.length p.c3, .slice p.a4 b.roles.length p.c4, .slice p.a5 b.facts.length p.c5, .slice p.a6 b.links.length p.c6], .int .i64 r] w fun e w' => e = .returned (.bool (roleOk b.rs.length r)) ∧ Keeps (fun _ => False) w w' := by
  obtain ⟨a0, a1, a2, a3, a4, a5, a6, c0, c1, c2, c3, c4, c5, c6⟩ := p
  dsimp only
  go_enter Tryz.func76, Tryz.ntmps76
  go_wp2_with fail
  all_goals
    go_ret
    refine ⟨congrArg (fun b => Ending.returned (Value.bool b)) ?_, by repeat (first | exact Keeps.refl _ _ | refine Keeps.drewN ?_ _ | refine Keeps.drew ?_ | refine Keeps.alloc ?_ _ | refine Keeps.set ?_ (Or.inl (by rfl)) _)⟩
    rw [Bool.eq_iff_iff]; simp only [roleOk, indOk, Bool.or_eq_true, Bool.and_eq_true, Bool.not_eq_true', decide_eq_true_eq, decide_eq_false_iff_not, beq_iff_eq, bne_iff_ne, ne_eq, true_iff, iff_true, Bool.false_eq_true, false_iff, iff_false, true_and, and_true, true_or, or_true, false_or, or_false, not_true_eq_false, not_false_eq_true]; omega
theorem kbValid_parts {b : Kb} (h : kbValidB b = true) : b.rs.length ≤ 6 ∧ b.roles.length ≤ 60 ∧ rolesOk b.rs.length b.roles := by
  simp only [kbValidB, validNamesB, kbBody, rolesV, Bool.and_eq_true, decide_eq_true_eq, List.all_eq_true, roleP, roleOk] at h
  obtain ⟨⟨⟨⟨⟨_, h1⟩, _⟩, _⟩, h2⟩, ⟨⟨_, h3⟩, _⟩, _⟩ := h
  exact ⟨h1, by unfold kbCount at h2; omega, fun p hp => by have := h3 p hp; omega⟩
/-- The first role is below the second one. -/
noncomputable def belowB (b : Kb) (r s : Int) : Bool := open Classical in decide (Reach (edgeN b.roles) r.toNat s.toNat)
noncomputable def belowE (b : Kb) (r s : Int) : Bool × Int := if kbValidB b then if roleOk b.rs.length r && roleOk b.rs.length s then (belowB b r s, 0) else (false, 1) else (false, 20)
set_option maxRecDepth 100000 in
set_option maxHeartbeats 4000000 in
theorem below_calls (b : Kb) (p : KbA) (r s : Int) (ok : Nat → Prop) (w : World) (m : Int) (hm : w.cell? ⟨2, 0, none⟩ = some (.int .i64 m)) (ht : ArgsTab w) (hb : KbR ok w b p)
    (h1 : b.rs.length ≤ 1000000) (h3 : b.incls.length ≤ 1000000) (h4 : b.roles.length ≤ 1000000) (h5 : b.facts.length ≤ 1000000) (h6 : b.links.length ≤ 1000000) :
    Calls Tryz.prog 24 #[.agg #[.slice p.a0 b.cs.length p.c0, .slice p.a1 b.rs.length p.c1, .slice p.a2 b.is.length p.c2, .slice p.a3 b.incls.length p.c3, .slice p.a4 b.roles.length p.c4, .slice p.a5 b.facts.length p.c5, .slice p.a6 b.links.length p.c6], .int .i64 r, .int .i64 s] w fun e w' => e = .returned (.tuple #[.bool (belowE b r s).1, .int .i64 (belowE b r s).2]) ∧ Keeps (fun _ => False) w w' := by
  obtain ⟨a0, a1, a2, a3, a4, a5, a6, c0, c1, c2, c3, c4, c5, c6⟩ := p
  dsimp only
  have HM := Lib.hid hm
  have HB := Lib.hid hb
  have HT := Lib.hid ht
  clear hm hb ht
  go_enter Tryz.func24, Tryz.ntmps24
  go_wp2_with fail
  generalize hW0 : World.alloc _ _ = W0
  have hK0 : Keeps (fun _ => False) w W0 := by rw [← hW0]; repeat (first | exact Keeps.refl _ _ | refine Keeps.drewN ?_ _ | refine Keeps.drew ?_ | refine Keeps.alloc ?_ _ | refine Keeps.set ?_ (Or.inl (by rfl)) _)
  have hbox : W0.heap[w.heap.size]? = some (.cells #[.slice a0 b.cs.length c0, .slice a1 b.rs.length c1, .slice a2 b.is.length c2, .slice a3 b.incls.length c3, .slice a4 b.roles.length c4, .slice a5 b.facts.length c5, .slice a6 b.links.length c6] 30 (0, 0)) := by rw [← hW0]; exact blkNew rfl
  clear hW0
  refine (kbValid_calls b ⟨a0, a1, a2, a3, a4, a5, a6, c0, c1, c2, c3, c4, c5, c6⟩ ok W0 m (hK0.cell HM.out (fun h => h)) (HT.out.keep hK0 (fun h => h)) (HB.out.keep hK0 (fun _ _ h => h)) h3 h4 h5 h6).mono ?_
  rintro e w1 ⟨rfl, hk1⟩
  have hK1 := hK0.then_ hk1
  have hbox1 := hk1.blk hbox (fun h => h)
  obtain ⟨x0, x1, x2, x3, x4, x5, x6⟩ := cells7 hbox1
  have HBX := Lib.hid hbox1
  clear hbox hbox1 hk1 hK0
  cases hv : kbValidB b
  · go_wp2_with fail
    exact bodyPost_ret (v := .tuple #[.bool false, .int .i64 20]) (by simp [results, Tryz.results24, go_sem]) rfl ⟨by simp [belowE, hv], hK1⟩
  · obtain ⟨q1, q2, q3⟩ := kbValid_parts hv
    go_wp2_with fail
    refine (hrole_calls r b ⟨a0, a1, a2, a3, a4, a5, a6, c0, c1, c2, c3, c4, c5, c6⟩ w1 h1).mono ?_
    rintro e w2 ⟨rfl, hk2⟩
    have hK2 := hK1.then_ hk2
    have hbox2 := hk2.blk HBX.out (fun h => h)
    clear x0 x1 x2 x3 x4 x5 x6 hK1 hk2 HBX
    obtain ⟨x0, x1, x2, x3, x4, x5, x6⟩ := cells7 hbox2
    have HBX := Lib.hid hbox2
    clear hbox2
    cases hr : roleOk b.rs.length r
    · go_wp2_with fail
      exact bodyPost_ret (v := .tuple #[.bool false, .int .i64 1]) (by simp [results, Tryz.results24, go_sem]) rfl ⟨by simp [belowE, hv, hr], hK2⟩
    · go_wp2_with fail
      refine (hrole_calls s b ⟨a0, a1, a2, a3, a4, a5, a6, c0, c1, c2, c3, c4, c5, c6⟩ w2 h1).mono ?_
      rintro e w3 ⟨rfl, hk3⟩
      have hK3 := hK2.then_ hk3
      have hbox3 := hk3.blk HBX.out (fun h => h)
      clear x0 x1 x2 x3 x4 x5 x6 hK2 hk3 HBX
      obtain ⟨x0, x1, x2, x3, x4, x5, x6⟩ := cells7 hbox3
      clear hbox3
      cases hs : roleOk b.rs.length s
      · go_wp2_with fail
        exact bodyPost_ret (v := .tuple #[.bool false, .int .i64 1]) (by simp [results, Tryz.results24, go_sem]) rfl ⟨by simp [belowE, hv, hr, hs], hK3⟩
      · have hV := Lib.hid (show belowE b r s = (belowB b r s, 0) by simp [belowE, hv, hr, hs])
        simp only [roleOk, decide_eq_true_eq] at hr hs
        obtain ⟨r, rfl⟩ := Int.eq_ofNat_of_zero_le hr.1
        obtain ⟨s, rfl⟩ := Int.eq_ofNat_of_zero_le hs.1
        go_wp2_with fail
        refine (table_calls b ⟨a0, a1, a2, a3, a4, a5, a6, c0, c1, c2, c3, c4, c5, c6⟩ ok w3 (HB.out.keep hK3 (fun _ _ h => h)) (by omega) q3 (by omega)).mono ?_
        rintro e w4 ⟨t, R, M, rfl, hM, hR, hk4⟩
        have r1 : r < 2 * b.rs.length := by omega
        have s1 : s < 2 * b.rs.length := by omega
        have y1 := hM.topCell r1 r1
        have y2 := hM.cell r1 s1
        have hMR := Lib.hid (hR r s r1 s1)
        clear hR hM
        generalize hn2 : 2 * b.rs.length = n2 at *
        generalize hme : M r s = mv at *
        go_wp2_with fail
        refine bodyPost_ret (v := .tuple #[.bool mv, .int .i64 0]) (by simp [results, Tryz.results24, go_sem]) rfl ⟨?_, hK3.then_ hk4⟩
        rw [hV.out]
        have : mv = belowB b r s := by
          rw [Bool.eq_iff_iff, hMR.out]; simp [belowB]
        rw [this]
theorem infoInt : (Tryz.prog.info? 3).map (fun i => (i.zero, i.size, i.bytes)) = some (some (.int .i64 0), 1, 8) := by kernel_rfl
/-- A row of ints of the call's own. -/
def OwnInts (w : World) (base : Nat) (v : Value) (l : List Int) : Prop := w.ownsRow base 3 1 v l.length (l.map (Value.int .i64))
theorem OwnInts.nil (w : World) (base : Nat) : OwnInts w base (.slice none 0 0) [] := World.ownsRow_nil _ _ _ _
noncomputable def aboveL (b : Kb) (r : Int) : List Nat := (List.range (2 * b.rs.length)).filter fun s => belowB b r s
noncomputable def aboveE (b : Kb) (r : Int) : List Int × Int := if kbValidB b then if roleOk b.rs.length r then ((aboveL b r).map Int.ofNat, 0) else ([], 1) else ([], 20)
theorem filter_range_succ (p : Nat → Bool) (k : Nat) : (List.range (k + 1)).filter p = (List.range k).filter p ++ (if p k then [k] else []) := by
  rw [List.range_succ, List.filter_append]; cases h : p k <;> simp [h]
set_option maxRecDepth 100000 in
set_option maxHeartbeats 4000000 in
theorem above_calls (b : Kb) (p : KbA) (r : Int) (ok : Nat → Prop) (w : World) (m : Int) (hm : w.cell? ⟨2, 0, none⟩ = some (.int .i64 m)) (ht : ArgsTab w) (hb : KbR ok w b p)
    (h1 : b.rs.length ≤ 1000000) (h3 : b.incls.length ≤ 1000000) (h4 : b.roles.length ≤ 1000000) (h5 : b.facts.length ≤ 1000000) (h6 : b.links.length ≤ 1000000) :
    Calls Tryz.prog 26 #[.agg #[.slice p.a0 b.cs.length p.c0, .slice p.a1 b.rs.length p.c1, .slice p.a2 b.is.length p.c2, .slice p.a3 b.incls.length p.c3, .slice p.a4 b.roles.length p.c4, .slice p.a5 b.facts.length p.c5, .slice p.a6 b.links.length p.c6], .int .i64 r] w fun e w' => ∃ v, e = .returned (.tuple #[v, .int .i64 (aboveE b r).2]) ∧ OwnInts w' w.heap.size v (aboveE b r).1 ∧ Keeps (fun _ => False) w w' := by
  obtain ⟨a0, a1, a2, a3, a4, a5, a6, c0, c1, c2, c3, c4, c5, c6⟩ := p
  dsimp only
  have HM := Lib.hid hm
  have HB := Lib.hid hb
  have HT := Lib.hid ht
  clear hm hb ht
  go_enter Tryz.func26, Tryz.ntmps26
  go_wp2_with fail
  generalize hW0 : World.alloc _ _ = W0
  have hK0 : Keeps (fun _ => False) w W0 := by rw [← hW0]; repeat (first | exact Keeps.refl _ _ | refine Keeps.drewN ?_ _ | refine Keeps.drew ?_ | refine Keeps.alloc ?_ _ | refine Keeps.set ?_ (Or.inl (by rfl)) _)
  have hbox : W0.heap[w.heap.size]? = some (.cells #[.slice a0 b.cs.length c0, .slice a1 b.rs.length c1, .slice a2 b.is.length c2, .slice a3 b.incls.length c3, .slice a4 b.roles.length c4, .slice a5 b.facts.length c5, .slice a6 b.links.length c6] 30 (0, 0)) := by rw [← hW0]; exact blkNew rfl
  clear hW0
  refine (kbValid_calls b ⟨a0, a1, a2, a3, a4, a5, a6, c0, c1, c2, c3, c4, c5, c6⟩ ok W0 m (hK0.cell HM.out (fun h => h)) (HT.out.keep hK0 (fun h => h)) (HB.out.keep hK0 (fun _ _ h => h)) h3 h4 h5 h6).mono ?_
  rintro e w1 ⟨rfl, hk1⟩
  have hK1 := hK0.then_ hk1
  have hbox1 := hk1.blk hbox (fun h => h)
  obtain ⟨x0, x1, x2, x3, x4, x5, x6⟩ := cells7 hbox1
  have HBX := Lib.hid hbox1
  clear hbox hbox1 hk1 hK0
  cases hv : kbValidB b
  · go_wp2_with fail
    exact bodyPost_ret (v := .tuple #[.slice none 0 0, .int .i64 20]) (by simp [results, Tryz.results26, go_sem]) rfl ⟨_, by simp only [aboveE, hv]; rfl, by simp only [aboveE, hv]; exact OwnInts.nil _ _, hK1⟩
  · obtain ⟨q1, q2, q3⟩ := kbValid_parts hv
    go_wp2_with fail
    refine (hrole_calls r b ⟨a0, a1, a2, a3, a4, a5, a6, c0, c1, c2, c3, c4, c5, c6⟩ w1 h1).mono ?_
    rintro e w2 ⟨rfl, hk2⟩
    have hK2 := hK1.then_ hk2
    have hbox2 := hk2.blk HBX.out (fun h => h)
    clear x0 x1 x2 x3 x4 x5 x6 hK1 hk2 HBX
    obtain ⟨x0, x1, x2, x3, x4, x5, x6⟩ := cells7 hbox2
    clear hbox2
    cases hr : roleOk b.rs.length r
    · go_wp2_with fail
      exact bodyPost_ret (v := .tuple #[.slice none 0 0, .int .i64 1]) (by simp [results, Tryz.results26, go_sem]) rfl ⟨_, by simp only [aboveE, hv, hr]; rfl, by simp only [aboveE, hv, hr]; exact OwnInts.nil _ _, hK2⟩
    · have hV := Lib.hid (show aboveE b r = ((aboveL b r).map Int.ofNat, 0) by simp [aboveE, hv, hr])
      simp only [roleOk, decide_eq_true_eq] at hr
      obtain ⟨r, rfl⟩ := Int.eq_ofNat_of_zero_le hr.1
      go_wp2_with fail
      refine (table_calls b ⟨a0, a1, a2, a3, a4, a5, a6, c0, c1, c2, c3, c4, c5, c6⟩ ok w2 (HB.out.keep hK2 (fun _ _ h => h)) (by omega) q3 (by omega)).mono ?_
      rintro e w4 ⟨t, R, M, rfl, hM, hR, hk4⟩
      have hK4 := Lib.hid (hK2.then_ hk4)
      have r1 : r < 2 * b.rs.length := by omega
      have y1 := hM.topCell r1 r1
      have hal : Hid (aboveL b r = (List.range (2 * b.rs.length)).filter (M r)) := by
        unfold Hid aboveL
        refine List.filter_congr fun s hs => ?_
        rw [List.mem_range] at hs
        rw [Bool.eq_iff_iff, hR r s r1 hs]; simp [belowB]
      have hrow := Lib.hid (hM.rows r r1)
      have hrl := hrow.out.lt
      have hs4 := hK4.out.size
      have hnl : 2 * b.rs.length ≤ 12 := by omega
      clear hR hM x0 x1 x2 x3 x4 x5 x6 hk4 hK2
      generalize 2 * b.rs.length = n2 at *
      generalize R r = rb at *
      generalize M r = f at *
      clear hr q1 q2 q3 hv
      go_wp2_with fail
      have HY := Lib.hid y1
      clear y1
      go_loopw [6, 22] (fun v i wr => ∃ k : Nat, k ≤ n2 ∧ i = .int .i64 k ∧ Hid (OwnInts wr w4.heap.size v (((List.range k).filter f).map Int.ofNat)) ∧ Keeps (fun _ => False) w4 wr) (fun _ i _ => n2 - (intOf i).toNat)
      case atStart => exact ⟨0, Nat.zero_le _, rfl, OwnInts.nil _ _, Keeps.refl _ _⟩
      case round =>
        obtain ⟨k, hk, rfl, HO, HK⟩ := hrel
        by_cases hlt : k < n2
        · have hc := (hrow.out.of_block (HK.block _ hrl (fun h => h))).cell hlt
          have hfs := Lib.hid (filter_range_succ f k)
          have hsz := HK.size
          have hlen := List.length_filter_le f (List.range k)
          rw [List.length_range] at hlen
          cases hf : f k
          · rw [hf] at hc hfs
            go_wp2_with fail
            go_roundw
            case rel => exact ⟨k + 1, by omega, by go_num, by unfold Hid; rw [hfs.out]; simpa using HO.out, HK⟩
            case measure => simp [intOf]; omega
          · rw [hf] at hc hfs
            obtain ⟨l, hl⟩ : ∃ l, (List.range k).filter f = l := ⟨_, rfl⟩
            rw [hl] at HO hfs hlen
            clear hl
            unfold OwnInts at HO
            go_wp2_with (at_builtin; refine wp_app1 rfl _ _ 35 35 rfl w4.heap.size 3 (.int .i64 0) 1 8 Tryz.underlying35 infoInt rfl (by decide) (by decide) _ _ _ (ownsKeep (S := fun _ => False) HO.out (by repeat (first | exact Keeps.refl _ _ | refine Keeps.drewN ?_ _ | refine Keeps.drew ?_ | refine Keeps.alloc ?_ _ | refine Keeps.set ?_ (Or.inl (by rfl)) _)) (fun _ _ h => h)) rfl _ 1 [.int .i64 k] (Src.ofBlock Tryz.underlying35 (cs := #[.int .i64 k]) (blkNew rfl) rfl (by simp [Value.oneCell'])) rfl (by decide) (by simp; omega) (by simp; omega) ?_; intro g cap w5 ho hk5 hat hcap hlt5)
            go_roundw
            case rel => 
              refine ⟨k + 1, by omega, by go_num, ?_, (HK.alloc _).trans hk5 (fun i hi => .inr (HO.out.lt i hi).1)⟩
              unfold Hid OwnInts
              rw [hfs.out]
              simpa using ho
            case measure => simp [intOf]; omega
        · obtain rfl : n2 = k := by omega
          rw [hal.out] at hV
          have HO2 := HO.out
          go_wp2_with fail
          exact bodyPost_ret (v := .tuple #[u6, .int .i64 0]) (by simp [results, Tryz.results26, go_sem]) rfl ⟨u6, by rw [hV.out], by rw [hV.out]; exact World.ownsRow.mono HO2 hs4, hK4.out.then_ HK⟩
end Go.Proofs.YtknonaboaaiabaaGreatDoor
