/- The walk of isagogelaw05.HierRoles. -/
import Derived.Test.YtoafelppnagpbaaDoorAwake
import Derived.Test.YtoafelppnagpbaaDoorR2
import Derived.Deep.RegionHeld3
namespace Go.Proofs.YtoafelppnagpbaaDoor
open Go.RowKit
set_option linter.unusedVariables false
set_option linter.unusedSimpArgs false
theorem fewLaw_parts {b : Kb} {more : List Con} (h : fewLawB b more = true) : b.incls.length ≤ 200 ∧ b.roles.length ≤ 200 ∧ b.facts.length ≤ 200 ∧ b.links.length ≤ 200 ∧ b.cs.length ≤ 100 ∧ b.rs.length ≤ 100 ∧ b.is.length ≤ 100 ∧ more.length ≤ 6 := by
  simp only [fewLawB, fewB, fewNamesR, fewL, Bool.and_eq_true, decide_eq_true_eq] at h
  obtain ⟨_, ⟨h1, h2, h3, h4, ⟨h5, h6, h7⟩, _⟩, h8⟩ := h
  exact ⟨h1, h2, h3, h4, h5.1, h6.1, h7.1, h8⟩
theorem isKbR_parts {b : Kb} (h : isKbR b = true) : b.rs.length ≤ 6 ∧ b.roles.length ≤ 60 ∧ rolesOk b.rs.length b.roles :=
  kbValid_parts (by rw [kbValid_eq b (names_eq _ _ _)]; exact h)
abbrev Box7 (w : World) (g : Nat) (v0 v1 v2 v3 v4 v5 v6 : Value) : Prop :=
  w.cell? ⟨g, 0, none⟩ = some v0 ∧ w.cell? ⟨g, 1, none⟩ = some v1 ∧ w.cell? ⟨g, 2, none⟩ = some v2 ∧ w.cell? ⟨g, 3, none⟩ = some v3 ∧ w.cell? ⟨g, 4, none⟩ = some v4 ∧ w.cell? ⟨g, 5, none⟩ = some v5 ∧ w.cell? ⟨g, 6, none⟩ = some v6
theorem sameInts_true (l l' : List Int) (e : l = l') (ok : Nat → Prop) (A B : Option Addr) (c d : Nat) (w : World) (ha : Row1 ok w (Value.int .i64) l A) (hb : Row1 ok w (Value.int .i64) l' B) (hl : l'.length ≤ 1000000) :
    Calls Tryd.prog 13 #[.slice A l.length c, .slice B l'.length d] w fun e w' => e = .returned (.bool true) ∧ Keeps (fun _ => False) w w' := by
  subst e
  have h := sameInts_calls l l ok A B c d w ha hb hl hl
  rw [show decide (l = l) = true by simp] at h
  exact h
theorem pair_eq {α β : Type} {a c : α} {b d : β} (h : Hid ((a, b) = (c, d))) : a = c ∧ b = d := by
  have := h.out; simpa using this
set_option maxRecDepth 100000 in
set_option maxHeartbeats 4000000 in
theorem hierRoles_calls (b : Kb) (p : KbA) (r s : Int) (w : World) (m : Int) (hm : w.cell? ⟨2, 0, none⟩ = some (.int .i64 m)) (ht : ArgsTab w) (hd : DualsTab w) (hb : KbR (fun _ => True) w b p) :
    Calls Tryd.prog 3 #[.agg #[.slice p.a0 b.cs.length p.c0, .slice p.a1 b.rs.length p.c1, .slice p.a2 b.is.length p.c2, .slice p.a3 b.incls.length p.c3, .slice p.a4 b.roles.length p.c4, .slice p.a5 b.facts.length p.c5, .slice p.a6 b.links.length p.c6], .int .i64 r, .int .i64 s] w fun e w' => e = .returned (.bool true) ∧ Keeps (fun _ => False) w w' := by
  have HFW := Lib.hid (fun W (hk : Keeps (fun _ => False) w W) => fewLaw_calls b p [] (fun _ => True) none 0 W (hb.keep hk (fun _ _ h => h)) (fun h => absurd rfl h) (by simp))
  have HAW := Lib.hid (fun W (hk : Keeps (fun _ => False) w W) => awake_calls W m (hk.cell hm (fun h => h)) (ht.keep hk (fun h => h)) (hd.keep hk (fun h => h)))
  cases hv : fewLawB b []
  · rw [hv] at HFW
    obtain ⟨a0, a1, a2, a3, a4, a5, a6, c0, c1, c2, c3, c4, c5, c6⟩ := p
    dsimp only at HFW ⊢
    clear hm ht hd hb hv
    go_enter Tryd.func3, Tryd.ntmps3
    go_wp2_with fail
    generalize hW0 : World.alloc _ _ = W0
    have hK0 : Keeps (fun _ => False) w W0 := by rw [← hW0]; repeat (first | exact Keeps.refl _ _ | refine Keeps.drewN ?_ _ | refine Keeps.drew ?_ | refine Keeps.alloc ?_ _ | refine Keeps.set ?_ (Or.inl (by rfl)) _)
    clear hW0
    refine (HFW.out W0 hK0).mono ?_
    clear HFW
    rintro e w1 ⟨rfl, hk1⟩
    go_wp2_with fail
    refine (HAW.out w1 (hK0.then_ hk1)).mono ?_
    clear HAW
    rintro e w2 ⟨rfl, hk2⟩
    go_wp2_with fail
    go_ret
    exact ⟨rfl, (hK0.then_ hk1).then_ hk2⟩
  · obtain ⟨g3, g4, g5, g6, g0, g1, g2, _⟩ := fewLaw_parts hv
    rw [hv] at HFW
    have HBE := Lib.hid (fun W (hk : Keeps (fun _ => False) w W) => below_calls b p r s (fun _ => True) W m (hk.cell hm (fun h => h)) (ht.keep hk (fun h => h)) (hb.keep hk (fun _ _ h => h)) (by omega) (by omega) (by omega) (by omega) (by omega))
    have HAB := Lib.hid (fun W (hk : Keeps (fun _ => False) w W) => above_calls b p r (fun _ => True) W m (hk.cell hm (fun h => h)) (ht.keep hk (fun h => h)) (hb.keep hk (fun _ _ h => h)) (by omega) (by omega) (by omega) (by omega) (by omega))
    have HFA := Lib.hid (fun W (hk : Keeps (fun _ => False) w W) => fault_calls b p [] (fun _ => True) none 0 W (hb.keep hk (fun _ _ h => h)) (by omega) (by omega) (by omega) (by omega) (by omega) (by omega) (by omega) (fun h => absurd rfl h) (by simp))
    have HOR := Lib.hid (fun W (hk : Keeps (fun _ => False) w W) (hq : isKbR b = true) => order_calls b p (fun _ => True) W (hb.keep hk (fun _ _ h => h)) (Nat.le_trans (isKbR_parts hq).1 (by omega)) (isKbR_parts hq).2.2 (by omega))
    have e1 : kbValidB b = isKbR b := kbValid_eq b (names_eq _ _ _)
    have HX : Hid (belowE b r s = if isKbR b then if roleOk b.rs.length r && roleOk b.rs.length s then (belowB b r s, 0) else (false, 1) else (false, 20)) := by unfold Hid belowE; rw [e1]
    have HY : Hid (aboveE b r = if isKbR b then if roleOk b.rs.length r then ((aboveL b r).map Int.ofNat, 0) else ([], 1) else ([], 20)) := by unfold Hid aboveE; rw [e1]
    have HZ : Hid (faultE b [] = if isKbR b then 0 else 20) := by unfold Hid faultE; rfl
    generalize belowE b r s = be at *
    generalize aboveE b r = ae at *
    generalize faultE b [] = fe at *
    obtain ⟨x, ex⟩ := be
    obtain ⟨L, ey⟩ := ae
    obtain ⟨a0, a1, a2, a3, a4, a5, a6, c0, c1, c2, c3, c4, c5, c6⟩ := p
    dsimp only at HFW HBE HAB HFA HOR ⊢
    clear hm ht hd hb hv e1
    go_enter Tryd.func3, Tryd.ntmps3
    go_wp2_with fail
    generalize hW0 : World.alloc _ _ = W0
    have hK0 : Keeps (fun _ => False) w W0 := by rw [← hW0]; repeat (first | exact Keeps.refl _ _ | refine Keeps.drewN ?_ _ | refine Keeps.drew ?_ | refine Keeps.alloc ?_ _ | refine Keeps.set ?_ (Or.inl (by rfl)) _)
    have hbx : W0.heap[w.heap.size]? = some (.cells #[.slice a0 b.cs.length c0, .slice a1 b.rs.length c1, .slice a2 b.is.length c2, .slice a3 b.incls.length c3, .slice a4 b.roles.length c4, .slice a5 b.facts.length c5, .slice a6 b.links.length c6] 30 (0, 0)) := by rw [← hW0]; exact blkNew rfl
    clear hW0
    generalize w.heap.size = gx at *
    refine (HFW.out W0 hK0).mono ?_
    clear HFW
    rintro e w1 ⟨rfl, hk1⟩
    have hK1 := hK0.then_ hk1
    have hbx1 := hk1.blk hbx (fun h => h)
    clear hbx hk1 hK0
    obtain ⟨x0, x1, x2, x3, x4, x5, x6⟩ := cells7 hbx1
    go_wp2_with fail
    refine (HBE.out w1 hK1).mono ?_
    clear HBE
    rintro e w2 ⟨rfl, hk2⟩
    have hK2 := hK1.then_ hk2
    have hbx2 := hk2.blk hbx1 (fun h => h)
    clear hbx1 hk2 hK1 x0 x1 x2 x3 x4 x5 x6
    obtain ⟨x0, x1, x2, x3, x4, x5, x6⟩ := cells7 hbx2
    go_wp2_with fail
    refine (HAB.out w2 hK2).mono ?_
    clear HAB
    rintro e w3 ⟨v, rfl, ho, hk3⟩
    have hK3 := hK2.then_ hk3
    have hbx3 := hk3.blk hbx2 (fun h => h)
    obtain ⟨hLn, AL, cL, rfl, hcL, hLr⟩ := ownedRow1 ho
    have HLR := Lib.hid hLr
    have HB3 := Lib.hid hbx3
    have HK3 := Lib.hid hK3
    clear hbx2 hk3 hK2 x0 x1 x2 x3 x4 x5 x6 ho hLn hLr hbx3 hK3
    go_wp2_with fail
    have HFA2 := Lib.hid HFA.out
    go_region_held3 (fun w' => Box7 w' gx (.slice a0 b.cs.length c0) (.slice a1 b.rs.length c1) (.slice a2 b.is.length c2) (.slice a3 b.incls.length c3) (.slice a4 b.roles.length c4) (.slice a5 b.facts.length c5) (.slice a6 b.links.length c6))
      (first
        | exact cells7 HB3.out
        | with_reducible exact cells7 HB5.out
        | with_reducible exact cells7 HB6.out)
      (first
        | (go_at_call 10; refine (HFA.out _ (HK3.out.drew)).mono ?_; clear HFA; rintro e w5 ⟨rfl, hk5⟩; have HK5 := Lib.hid (HK3.out.drew.then_ hk5); have HB5 := Lib.hid (hk5.blk HB3.out (fun h => h)); have HL5 := Lib.hid (HLR.out.keep ((Keeps.refl (fun _ => False) w3).drew.then_ hk5) (fun _ _ h => h)); clear hk5)
        | (go_at_call 10; refine (HFA2.out _ (HK5.out)).mono ?_; clear HFA2; rintro e w6 ⟨rfl, hk6⟩; have HK6 := Lib.hid (HK5.out.then_ hk6); have HB6 := Lib.hid (hk6.blk HB5.out (fun h => h)); have HL6 := Lib.hid ((HL5.out.keep hk6 (fun _ _ h => h)).mono (ok' := fun _ => True) (fun _ _ => trivial)); clear hk6))
    rename_i hHeld
    clear hHeld HB3 HB5 HLR HL5 HK3 HK5
    obtain ⟨x0, x1, x2, x3, x4, x5, x6⟩ := cells7 HB6.out
    cases hq : isKbR b
    · rw [hq] at HX HY HZ
      obtain ⟨rfl, rfl⟩ := pair_eq HX
      obtain ⟨rfl, rfl⟩ := pair_eq HY
      obtain rfl := HZ.out
      clear HX HY HZ HOR hq
      go_wp2_with fail
      refine (sameInts_true [] [] rfl (fun _ => True) AL none cL 0 _ (fun h => absurd rfl h) (fun h => absurd rfl h) (by simp)).mono ?_
      rintro e w7 ⟨rfl, hk7⟩
      go_wp2_with fail
      refine (HAW.out _ (HK6.out.then_ hk7)).mono ?_
      rintro e w8 ⟨rfl, hk8⟩
      go_wp2_with fail
      go_ret
      exact ⟨rfl, (HK6.out.then_ hk7).then_ hk8⟩
    · rw [hq] at HX HY HZ
      obtain rfl : fe = 0 := HZ.out
      cases hr : roleOk b.rs.length r
      · rw [hr] at HX HY
        obtain ⟨rfl, rfl⟩ := pair_eq HX
        obtain ⟨rfl, rfl⟩ := pair_eq HY
        clear HX HY HZ HOR hq
        go_wp2_with fail
        refine (roleR_calls b.rs.length r _ _ _ _ _ (by omega)).mono ?_
        rintro e w7 ⟨rfl, hk7⟩
        have HK7 := Lib.hid (HK6.out.then_ hk7)
        have HB7 := Lib.hid (hk7.blk HB6.out (fun h => h))
        have HL7 := Lib.hid (HL6.out.keep hk7 (fun _ _ h => h))
        clear hk7 HK6 HB6 HL6 x0 x1 x2 x3 x4 x5 x6
        obtain ⟨x0, x1, x2, x3, x4, x5, x6⟩ := cells7 HB7.out
        go_wp2_with fail
        refine (roleR_calls b.rs.length r _ _ _ _ _ (by omega)).mono ?_
        rintro e w8 ⟨rfl, hk8⟩
        have HK8 := Lib.hid (HK7.out.then_ hk8)
        have HB8 := Lib.hid (hk8.blk HB7.out (fun h => h))
        have HL8 := Lib.hid (HL7.out.keep hk8 (fun _ _ h => h))
        clear hk8 HK7 HB7 HL7 x0 x1 x2 x3 x4 x5 x6
        obtain ⟨x0, x1, x2, x3, x4, x5, x6⟩ := cells7 HB8.out
        go_wp2_with fail
        refine (sameInts_true [] [] rfl (fun _ => True) AL none cL 0 _ (fun h => absurd rfl h) (fun h => absurd rfl h) (by simp)).mono ?_
        rintro e w20 ⟨rfl, hk20⟩
        go_wp2_with fail
        refine (HAW.out _ (HK8.out.then_ hk20)).mono ?_
        rintro e w21 ⟨rfl, hk21⟩
        go_wp2_with fail
        go_ret
        exact ⟨rfl, (HK8.out.then_ hk20).then_ hk21⟩
      · rw [hr] at HX HY
        obtain ⟨hL, rfl⟩ := pair_eq HY
        have HLQ := Lib.hid hL
        clear hL
        cases hs : roleOk b.rs.length s
        · rw [hs] at HX
          obtain ⟨rfl, rfl⟩ := pair_eq HX
          clear HX HY HZ
          go_wp2_with fail
          refine (roleR_calls b.rs.length r _ _ _ _ _ (by omega)).mono ?_
          rintro e w7 ⟨rfl, hk7⟩
          have HK7 := Lib.hid (HK6.out.then_ hk7)
          have HB7 := Lib.hid (hk7.blk HB6.out (fun h => h))
          have HL7 := Lib.hid (HL6.out.keep hk7 (fun _ _ h => h))
          clear hk7 HK6 HB6 HL6 x0 x1 x2 x3 x4 x5 x6
          obtain ⟨x0, x1, x2, x3, x4, x5, x6⟩ := cells7 HB7.out
          go_wp2_with fail
          refine (roleR_calls b.rs.length s _ _ _ _ _ (by omega)).mono ?_
          rintro e w8 ⟨rfl, hk8⟩
          have HK8 := Lib.hid (HK7.out.then_ hk8)
          have HB8 := Lib.hid (hk8.blk HB7.out (fun h => h))
          have HL8 := Lib.hid (HL7.out.keep hk8 (fun _ _ h => h))
          clear hk8 HK7 HB7 HL7 x0 x1 x2 x3 x4 x5 x6
          obtain ⟨x0, x1, x2, x3, x4, x5, x6⟩ := cells7 HB8.out
          go_wp2_with fail
          refine (roleR_calls b.rs.length r _ _ _ _ _ (by omega)).mono ?_
          rintro e w9 ⟨rfl, hk9⟩
          have HK9 := Lib.hid (HK8.out.then_ hk9)
          have HB9 := Lib.hid (hk9.blk HB8.out (fun h => h))
          have HL9 := Lib.hid (HL8.out.keep hk9 (fun _ _ h => h))
          clear hk9 HK8 HB8 HL8 x0 x1 x2 x3 x4 x5 x6
          obtain ⟨x0, x1, x2, x3, x4, x5, x6⟩ := cells7 HB9.out
          have hr2 := hr
          simp only [roleOk, decide_eq_true_eq] at hr2
          obtain ⟨r, rfl⟩ := Int.eq_ofNat_of_zero_le hr2.1
          go_wp2_with fail
          refine (HOR.out _ HK9.out hq).mono ?_
          rintro e w10 ⟨t, R, M, rfl, hM, hR, hk10⟩
          have HK10 := Lib.hid (HK9.out.then_ hk10)
          have HB10 := Lib.hid (hk10.blk HB9.out (fun h => h))
          have HL10 := Lib.hid (HL9.out.keep hk10 (fun _ _ h => h))
          clear hk10 HK9 HB9 HL9 x0 x1 x2 x3 x4 x5 x6
          obtain ⟨x0, x1, x2, x3, x4, x5, x6⟩ := cells7 HB10.out
          have r1 : r < 2 * b.rs.length := by omega
          have y1 := hM.topCell r1 r1
          have hal : Hid (aboveL b r = (List.range (2 * b.rs.length)).filter (M r)) := by
            unfold Hid aboveL
            refine List.filter_congr fun s hs => ?_
            rw [List.mem_range] at hs
            rw [Bool.eq_iff_iff, hR r s r1 hs]; simp [belowB]
          have hrow := Lib.hid (hM.rows r r1)
          have hrl := hrow.out.lt
          have hnl : 2 * b.rs.length ≤ 12 := by have := (isKbR_parts hq).1; omega
          clear hR hM x0 x1 x2 x3 x4 x5 x6 HOR hq
          have hrr : 2 * b.rs.length = 2 * b.rs.length := rfl
          generalize 2 * b.rs.length = n2 at *
          generalize R r = rb at *
          generalize M r = f at *
          clear hr hr2 hrr g0 g1 g2 g3 g4 g5 g6
          go_wp2_with fail
          have HY1 := Lib.hid y1
          clear y1
          obtain ⟨wa, hwa⟩ : ∃ wa : World, wa = w10 := ⟨_, rfl⟩
          have HWA := Lib.hid hwa
          clear hwa
          go_loopw [13, 73] (fun v i wr => ∃ k : Nat, k ≤ n2 ∧ i = .int .i64 k ∧ Hid (OwnInts wr w10.heap.size v (((List.range k).filter f).map Int.ofNat)) ∧ Hid (Keeps (fun _ => False) w10 wr)) (fun _ i _ => n2 - (intOf i).toNat)
          case atStart => exact ⟨0, Nat.zero_le _, rfl, OwnInts.nil _ _, Keeps.refl _ _⟩
          case round =>
            obtain ⟨k, hk, rfl, HO, HK⟩ := hrel
            by_cases hlt : k < n2
            · have hc := (hrow.out.of_block (HK.out.block _ hrl (fun h => h))).cell hlt
              have hfs := Lib.hid (filter_range_succ f k)
              have hsz := HK.out.size
              have hlen := List.length_filter_le f (List.range k)
              rw [List.length_range] at hlen
              cases hf : f k
              · rw [hf] at hc hfs
                go_wp2_with fail
                go_roundw
                case rel => exact ⟨k + 1, by omega, by go_num, by unfold Hid; rw [hfs.out]; simpa using HO.out, HK⟩
                case measure => simp [intOf]; omega
              · rw [hf] at hc hfs
                obtain ⟨l, hl⟩ : ∃ l, (List.range k).filter f = l := ⟨_, rfl⟩
                rw [hl] at HO hfs hlen
                clear hl
                unfold OwnInts at HO
                go_wp2_with (at_builtin; refine wp_app1 rfl _ _ 36 36 rfl w10.heap.size 3 (.int .i64 0) 1 8 Tryd.underlying36 infoInt rfl (by decide) (by decide) _ _ _ (ownsKeep (S := fun _ => False) HO.out (by repeat (first | exact Keeps.refl _ _ | refine Keeps.drewN ?_ _ | refine Keeps.drew ?_ | refine Keeps.alloc ?_ _ | refine Keeps.set ?_ (Or.inl (by rfl)) _)) (fun _ _ h => h)) rfl _ 1 [.int .i64 k] (Src.ofBlock Tryd.underlying36 (cs := #[.int .i64 k]) (blkNew rfl) rfl (by simp [Value.oneCell'])) rfl (by decide) (by simp; omega) (by simp; omega) ?_; intro g cap w15 ho hk15 hat hcap hlt15)
                go_roundw
                case rel =>
                  refine ⟨k + 1, by omega, by go_num, ?_, (HK.out.alloc _).trans hk15 (fun i hi => .inr (HO.out.lt i hi).1)⟩
                  unfold Hid OwnInts
                  rw [hfs.out]
                  simpa using ho
                case measure => simp [intOf]; omega
            · obtain rfl : n2 = k := by omega
              have HKW := Lib.hid (HK10.out.then_ HK.out)
              have hlen := List.length_filter_le f (List.range n2)
              rw [List.length_range] at hlen
              have HLE := Lib.hid (HLQ.out.trans (congrArg (List.map Int.ofNat) hal.out))
              have hwl : (((List.range n2).filter f).map Int.ofNat).length ≤ 100 := by rw [List.length_map]; omega
              generalize ((List.range n2).filter f).map Int.ofNat = WL at *
              obtain ⟨q1, B2, c2', rfl, q2, hrow2⟩ := ownedRow1 HO.out
              have hrow3 := hrow2.mono (ok' := fun _ => True) (fun _ _ => trivial)
              have hLL := HL10.out.keep HK.out (fun _ _ h => h)
              have HSI := Lib.hid (fun W hk => sameInts_true L WL HLE.out (fun _ => True) AL B2 cL c2' W (hLL.keep (S := fun _ => False) hk (fun _ _ h => h)) (hrow3.keep hk (fun _ _ h => h)) (by omega))
              clear hLL hrow2 hrow3 HO hlen HLQ hal HLE q1 q2 hrow
              go_wp2_with fail
              refine (HSI.out _ (by repeat (first | exact Keeps.refl _ _ | refine Keeps.drewN ?_ _ | refine Keeps.drew ?_ | refine Keeps.alloc ?_ _ | refine Keeps.set ?_ (Or.inl (by rfl)) _))).mono ?_
              rintro e w20 ⟨rfl, hk20⟩
              go_wp2_with fail
              refine (HAW.out _ (HKW.out.then_ hk20)).mono ?_
              rintro e w21 ⟨rfl, hk21⟩
              go_wp2_with fail
              go_ret
              exact ⟨rfl, (HKW.out.then_ hk20).then_ hk21⟩
        · rw [hs] at HX
          obtain ⟨hX, rfl⟩ := pair_eq HX
          have HXQ := Lib.hid hX
          clear HX HY HZ hX
          have hr2 := hr
          have hs2 := hs
          simp only [roleOk, decide_eq_true_eq] at hr2 hs2
          obtain ⟨r, rfl⟩ := Int.eq_ofNat_of_zero_le hr2.1
          obtain ⟨s, rfl⟩ := Int.eq_ofNat_of_zero_le hs2.1
          go_wp2_with fail
          refine (roleR_calls b.rs.length r _ _ _ _ _ (by omega)).mono ?_
          rintro e w7 ⟨rfl, hk7⟩
          have HK7 := Lib.hid (HK6.out.then_ hk7)
          have HB7 := Lib.hid (hk7.blk HB6.out (fun h => h))
          have HL7 := Lib.hid (HL6.out.keep hk7 (fun _ _ h => h))
          clear hk7 HK6 HB6 HL6 x0 x1 x2 x3 x4 x5 x6
          obtain ⟨x0, x1, x2, x3, x4, x5, x6⟩ := cells7 HB7.out
          go_wp2_with fail
          refine (roleR_calls b.rs.length s _ _ _ _ _ (by omega)).mono ?_
          rintro e w70 ⟨rfl, hk70⟩
          have HK70 := Lib.hid (HK7.out.then_ hk70)
          have HB70 := Lib.hid (hk70.blk HB7.out (fun h => h))
          have HL70 := Lib.hid (HL7.out.keep hk70 (fun _ _ h => h))
          clear hk70 HK7 HB7 HL7 x0 x1 x2 x3 x4 x5 x6
          obtain ⟨x0, x1, x2, x3, x4, x5, x6⟩ := cells7 HB70.out
          go_wp2_with fail
          refine (HOR.out _ HK70.out hq).mono ?_
          rintro e w8 ⟨t0, R0, M0, rfl, hM0, hR0, hk8⟩
          have HK8 := Lib.hid (HK70.out.then_ hk8)
          have HB8 := Lib.hid (hk8.blk HB70.out (fun h => h))
          have HL8 := Lib.hid (HL70.out.keep hk8 (fun _ _ h => h))
          clear hk8 HK70 HB70 HL70 x0 x1 x2 x3 x4 x5 x6
          obtain ⟨x0, x1, x2, x3, x4, x5, x6⟩ := cells7 HB8.out
          have ra : r < 2 * b.rs.length := by omega
          have sa : s < 2 * b.rs.length := by omega
          have z1 := hM0.topCell ra ra
          have z2 := hM0.cell ra sa
          have hMX : Hid (M0 r s = x) := by
            unfold Hid
            rw [HXQ.out, Bool.eq_iff_iff, hR0 r s ra sa]; simp [belowB]
          rw [hMX.out] at z2
          clear hR0 hM0 hMX HXQ
          go_wp2_with fail
          refine (roleR_calls b.rs.length r _ _ _ _ _ (by omega)).mono ?_
          rintro e w9 ⟨rfl, hk9⟩
          have HK9 := Lib.hid (HK8.out.then_ hk9)
          have HB9 := Lib.hid (hk9.blk HB8.out (fun h => h))
          have HL9 := Lib.hid (HL8.out.keep hk9 (fun _ _ h => h))
          clear hk9 HK8 HB8 HL8 x0 x1 x2 x3 x4 x5 x6
          obtain ⟨x0, x1, x2, x3, x4, x5, x6⟩ := cells7 HB9.out
          go_wp2_with fail
          refine (HOR.out _ HK9.out hq).mono ?_
          rintro e w10 ⟨t, R, M, rfl, hM, hR, hk10⟩
          have HK10 := Lib.hid (HK9.out.then_ hk10)
          have HB10 := Lib.hid (hk10.blk HB9.out (fun h => h))
          have HL10 := Lib.hid (HL9.out.keep hk10 (fun _ _ h => h))
          clear hk10 HK9 HB9 HL9 x0 x1 x2 x3 x4 x5 x6
          obtain ⟨x0, x1, x2, x3, x4, x5, x6⟩ := cells7 HB10.out
          have r1 : r < 2 * b.rs.length := by omega
          have y1 := hM.topCell r1 r1
          have hal : Hid (aboveL b r = (List.range (2 * b.rs.length)).filter (M r)) := by
            unfold Hid aboveL
            refine List.filter_congr fun s hs => ?_
            rw [List.mem_range] at hs
            rw [Bool.eq_iff_iff, hR r s r1 hs]; simp [belowB]
          have hrow := Lib.hid (hM.rows r r1)
          have hrl := hrow.out.lt
          have hnl : 2 * b.rs.length ≤ 12 := by have := (isKbR_parts hq).1; omega
          clear hR hM x0 x1 x2 x3 x4 x5 x6 HOR hq
          have hrr : 2 * b.rs.length = 2 * b.rs.length := rfl
          generalize 2 * b.rs.length = n2 at *
          generalize R r = rb at *
          generalize M r = f at *
          clear hr hr2 hrr g0 g1 g2 g3 g4 g5 g6
          go_wp2_with fail
          have HY1 := Lib.hid y1
          clear y1
          obtain ⟨wa, hwa⟩ : ∃ wa : World, wa = w10 := ⟨_, rfl⟩
          have HWA := Lib.hid hwa
          clear hwa
          go_loopw [13, 73] (fun v i wr => ∃ k : Nat, k ≤ n2 ∧ i = .int .i64 k ∧ Hid (OwnInts wr w10.heap.size v (((List.range k).filter f).map Int.ofNat)) ∧ Hid (Keeps (fun _ => False) w10 wr)) (fun _ i _ => n2 - (intOf i).toNat)
          case atStart => exact ⟨0, Nat.zero_le _, rfl, OwnInts.nil _ _, Keeps.refl _ _⟩
          case round =>
            obtain ⟨k, hk, rfl, HO, HK⟩ := hrel
            by_cases hlt : k < n2
            · have hc := (hrow.out.of_block (HK.out.block _ hrl (fun h => h))).cell hlt
              have hfs := Lib.hid (filter_range_succ f k)
              have hsz := HK.out.size
              have hlen := List.length_filter_le f (List.range k)
              rw [List.length_range] at hlen
              cases hf : f k
              · rw [hf] at hc hfs
                go_wp2_with fail
                go_roundw
                case rel => exact ⟨k + 1, by omega, by go_num, by unfold Hid; rw [hfs.out]; simpa using HO.out, HK⟩
                case measure => simp [intOf]; omega
              · rw [hf] at hc hfs
                obtain ⟨l, hl⟩ : ∃ l, (List.range k).filter f = l := ⟨_, rfl⟩
                rw [hl] at HO hfs hlen
                clear hl
                unfold OwnInts at HO
                go_wp2_with (at_builtin; refine wp_app1 rfl _ _ 36 36 rfl w10.heap.size 3 (.int .i64 0) 1 8 Tryd.underlying36 infoInt rfl (by decide) (by decide) _ _ _ (ownsKeep (S := fun _ => False) HO.out (by repeat (first | exact Keeps.refl _ _ | refine Keeps.drewN ?_ _ | refine Keeps.drew ?_ | refine Keeps.alloc ?_ _ | refine Keeps.set ?_ (Or.inl (by rfl)) _)) (fun _ _ h => h)) rfl _ 1 [.int .i64 k] (Src.ofBlock Tryd.underlying36 (cs := #[.int .i64 k]) (blkNew rfl) rfl (by simp [Value.oneCell'])) rfl (by decide) (by simp; omega) (by simp; omega) ?_; intro g cap w15 ho hk15 hat hcap hlt15)
                go_roundw
                case rel =>
                  refine ⟨k + 1, by omega, by go_num, ?_, (HK.out.alloc _).trans hk15 (fun i hi => .inr (HO.out.lt i hi).1)⟩
                  unfold Hid OwnInts
                  rw [hfs.out]
                  simpa using ho
                case measure => simp [intOf]; omega
            · obtain rfl : n2 = k := by omega
              have HKW := Lib.hid (HK10.out.then_ HK.out)
              have hlen := List.length_filter_le f (List.range n2)
              rw [List.length_range] at hlen
              have HLE := Lib.hid (HLQ.out.trans (congrArg (List.map Int.ofNat) hal.out))
              have hwl : (((List.range n2).filter f).map Int.ofNat).length ≤ 100 := by rw [List.length_map]; omega
              generalize ((List.range n2).filter f).map Int.ofNat = WL at *
              obtain ⟨q1, B2, c2', rfl, q2, hrow2⟩ := ownedRow1 HO.out
              have hrow3 := hrow2.mono (ok' := fun _ => True) (fun _ _ => trivial)
              have hLL := HL10.out.keep HK.out (fun _ _ h => h)
              have HSI := Lib.hid (fun W hk => sameInts_true L WL HLE.out (fun _ => True) AL B2 cL c2' W (hLL.keep (S := fun _ => False) hk (fun _ _ h => h)) (hrow3.keep hk (fun _ _ h => h)) (by omega))
              clear hLL hrow2 hrow3 HO hlen HLQ hal HLE q1 q2 hrow
              go_wp2_with fail
              refine (HSI.out _ (by repeat (first | exact Keeps.refl _ _ | refine Keeps.drewN ?_ _ | refine Keeps.drew ?_ | refine Keeps.alloc ?_ _ | refine Keeps.set ?_ (Or.inl (by rfl)) _))).mono ?_
              rintro e w20 ⟨rfl, hk20⟩
              go_wp2_with fail
              refine (HAW.out _ (HKW.out.then_ hk20)).mono ?_
              rintro e w21 ⟨rfl, hk21⟩
              go_wp2_with fail
              go_ret
              exact ⟨rfl, (HKW.out.then_ hk20).then_ hk21⟩
end Go.Proofs.YtoafelppnagpbaaDoor
