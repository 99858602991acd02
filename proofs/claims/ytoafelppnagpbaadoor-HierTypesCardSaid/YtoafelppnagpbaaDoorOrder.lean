/- The walk of isagogeref05.Order. -/
import Derived.Test.YtoafelppnagpbaaDoorRoles
import Derived.BigRegion
namespace Go.Proofs.YtoafelppnagpbaaDoor
open Go.RowKit
set_option linter.unusedVariables false
set_option linter.unusedSimpArgs false
theorem Warsh.congr {E : Nat → Nat → Prop} {n k : Nat} {M N : Nat → Nat → Bool} (h : Warsh E n k M) (he : ∀ r s, r < n → s < n → N r s = M r s) : Warsh E n k N where
  t :=
    { refl := fun r hr => by rw [he r r hr hr]; exact h.t.refl r hr
      edge := fun r s h1 h2 h3 => by rw [he r s h1 h2]; exact h.t.edge r s h1 h2 h3
      sound := fun r s h1 h2 h3 => by rw [he r s h1 h2] at h3; exact h.t.sound r s h1 h2 h3 }
  via := fun r m s hr hs hm hmn h1 h2 => by
    rw [he _ _ hr hmn] at h1
    rw [he _ _ hmn hs] at h2
    rw [he _ _ hr hs]
    exact h.via r m s hr hs hm hmn h1 h2
/-- One step of the innermost loop. -/
def mixM (M : Nat → Nat → Bool) (k r s : Nat) : Bool := M r s || M r k && M k s
/-- What the matrix holds when rows below i, and row i up to j, have been mixed. -/
def Part2 (n : Nat) (M : Nat → Nat → Bool) (k i j : Nat) (P : Nat → Nat → Bool) : Prop := ∀ r s, r < n → s < n → P r s = if r < i ∨ (r = i ∧ s < j) then mixM M k r s else M r s
theorem Part2.start (n : Nat) (M : Nat → Nat → Bool) (k : Nat) : Part2 n M k 0 0 M := fun r s _ _ => by simp
theorem Part2.row {n : Nat} {M P : Nat → Nat → Bool} {k i : Nat} (h : Part2 n M k i n P) : Part2 n M k (i + 1) 0 P := fun r s hr hs => by
  rw [h r s hr hs]
  by_cases h1 : r < i
  · rw [if_pos (.inl h1), if_pos (.inl (by omega))]
  · by_cases h2 : r = i
    · rw [if_pos (.inr ⟨h2, hs⟩), if_pos (.inl (by omega))]
    · rw [if_neg (by omega), if_neg (by omega)]
theorem Part2.full {n : Nat} {M P : Nat → Nat → Bool} {k : Nat} (h : Part2 n M k n 0 P) : ∀ r s, r < n → s < n → P r s = mixM M k r s := fun r s hr hs => by rw [h r s hr hs, if_pos (.inl hr)]
theorem Part2.next {n : Nat} {M P : Nat → Nat → Bool} {k i j : Nat} (h : Part2 n M k i j P) (hkk : M k k = true) (hk : k < n) (hi : i < n) (hj : j < n) : Part2 n M k i (j + 1) (updM P i j (P i j || P i k && P k j)) := fun r s hr hs => by
  have e1 : P i j = M i j := by rw [h i j hi hj, if_neg (by omega)]
  have e2 : P i k = M i k := by
    rw [h i k hi hk]; split
    · simp only [mixM, hkk, Bool.and_true, Bool.or_self]
    · rfl
  have e3 : P k j = M k j := by
    rw [h k j hk hj]; split
    · simp only [mixM, hkk, Bool.true_and, Bool.or_self]
    · rfl
  unfold updM
  by_cases e : r = i ∧ s = j
  · obtain ⟨rfl, rfl⟩ := e
    rw [if_pos ⟨rfl, rfl⟩, if_pos (.inr ⟨rfl, by omega⟩), e1, e2, e3]; rfl
  · rw [if_neg e, h r s hr hs]
    by_cases h1 : r < i ∨ (r = i ∧ s < j)
    · rw [if_pos h1, if_pos (by omega)]
    · rw [if_neg h1, if_neg (by omega)]
theorem Warsh.mix {E : Nat → Nat → Prop} {n k : Nat} {M P : Nat → Nat → Bool} (h : Warsh E n k M) (hk : k < n) (hp : Part2 n M k n 0 P) : Warsh E n (k + 1) P := (h.next hk).congr hp.full
theorem rinverse_calls (r v : Nat) (h : Hid (bits .xor .i64 (r : Int) 1 = (v : Int))) (w : World) : Calls Tryd.prog 31 #[.int .i64 r] w fun e w' => e = .returned (.int .i64 v) ∧ w = w' := by
  go_enter Tryd.func31, Tryd.ntmps31
  go_wp2
  go_ret
  exact ⟨by rw [← h.out]; rfl, rfl⟩
set_option maxRecDepth 100000 in
set_option maxHeartbeats 4000000 in
theorem order_calls (b : Kb) (p : KbA) (ok : Nat → Prop) (w : World) (hb : KbR ok w b p) (hn : b.rs.length ≤ 10) (hr : rolesOk b.rs.length b.roles) (hrl : b.roles.length ≤ 1000) :
    Calls Tryd.prog 12 #[.agg #[.slice p.a0 b.cs.length p.c0, .slice p.a1 b.rs.length p.c1, .slice p.a2 b.is.length p.c2, .slice p.a3 b.incls.length p.c3, .slice p.a4 b.roles.length p.c4, .slice p.a5 b.facts.length p.c5, .slice p.a6 b.links.length p.c6]] w fun e w' => ∃ t R M, e = .returned (.slice (some ⟨t, 0, none⟩) (2 * b.rs.length) (2 * b.rs.length)) ∧ Mat w' (w.heap.size + 1) t (2 * b.rs.length) (2 * b.rs.length) R M ∧
      (∀ r s, r < 2 * b.rs.length → s < 2 * b.rs.length → (M r s = true ↔ Reach (edgeN b.roles) r s)) ∧ Keeps (fun _ => False) w w' := by
  obtain ⟨a0, a1, a2, a3, a4, a5, a6, c0, c1, c2, c3, c4, c5, c6⟩ := p
  dsimp only
  have HB := Lib.hid hb.lim
  have HR := Lib.hid hr
  clear hb hr
  obtain ⟨n, hnn⟩ : ∃ n, n = 2 * b.rs.length := ⟨_, rfl⟩
  rw [← hnn]
  have hn20 : n ≤ 20 := by omega
  have HN := Lib.hid hnn
  have hmk1 := run_make_row' (P := Tryd.prog) 42 41 _ 24 Tryd.underlying42 infoRow rfl .i64 .i64 n (by omega) (by omega)
  have hmk2 := run_make_row' (P := Tryd.prog) 41 4 _ 1 Tryd.underlying41 infoBool rfl .i64 .i64 n (by omega) (by omega)
  have hn2 : 2 * (b.rs.length : Int) = n := by omega
  have HN2 := Lib.hid hn2
  clear hnn
  go_enter Tryd.func12, Tryd.ntmps12
  go_wp2_with fail
  generalize hW1 : World.alloc _ _ = W1
  have hK1 : Keeps (fun _ => False) w W1 := by rw [← hW1]; repeat (first | exact Keeps.refl _ _ | refine Keeps.drewN ?_ _ | refine Keeps.drew ?_ | refine Keeps.alloc ?_ _ | refine Keeps.set ?_ (Or.inl (by rfl)) _)
  have hbx : W1.heap[w.heap.size]? = some (.cells #[.slice a0 b.cs.length c0, .slice a1 b.rs.length c1, .slice a2 b.is.length c2, .slice a3 b.incls.length c3, .slice a4 b.roles.length c4, .slice a5 b.facts.length c5, .slice a6 b.links.length c6] 30 (0, 0)) := by rw [← hW1]; exact blkAlloc (blkNew rfl) _
  have hM1 : Mat W1 (w.heap.size + 1) (w.heap.size + 1) n 0 (fun _ => 0) (fun r s => decide (s = r)) :=
    { le := Nat.le_refl _, rows := fun r hr => absurd hr (Nat.not_lt_zero _), ge := fun r hr => absurd hr (Nat.not_lt_zero _), inj := fun r s hr => absurd hr (Nat.not_lt_zero _), ne := fun r hr => absurd hr (Nat.not_lt_zero _)
      top := by
        rw [← hW1]
        have := World.rowIs_made (w.alloc (.cells #[.slice a0 b.cs.length c0, .slice a1 b.rs.length c1, .slice a2 b.is.length c2, .slice a3 b.incls.length c3, .slice a4 b.roles.length c4, .slice a5 b.facts.length c5, .slice a6 b.links.length c6] 30)) (.slice none 0 0) n 41
        simpa using this }
  have hsz1 : W1.heap.size = w.heap.size + 2 := by rw [← hW1]; simp
  clear hW1
  have HBX := Lib.hid hbx
  have HM1 := Lib.hid hM1
  clear hbx hM1
  generalize ht : w.heap.size + 1 = t at *
  have HT := Lib.hid ht
  clear ht
  go_loopw [20] (fun i wr => ∃ (k : Nat) (R : Nat → Nat), k ≤ n ∧ i = .int .i64 k ∧ Hid (Mat wr t t n k R (fun r s => decide (s = r))) ∧ Keeps (fun i => t ≤ i) W1 wr) (fun i _ => n - (intOf i).toNat)
  case atStart => exact ⟨0, _, Nat.zero_le _, rfl, HM1, Keeps.refl _ _⟩
  case round =>
    obtain ⟨k, R, hk, rfl, HM, HK⟩ := hrel
    have htw := HM.out.top.lt
    by_cases hlt : k < n
    · have e0 := HM.out.top.cell hlt
      simp only [Nat.lt_irrefl, if_false] at e0
      have f0 := HM.out.top.frozen k
      have hts : t < wr.heap.size := htw
      have hne : t ≠ wr.heap.size := by omega
      have hnew := Lib.hid (HM.out.new hlt (Nat.le_of_lt htw))
      have hmc : (madeCells #[.bool false] n)[k]? = some (.bool false) := by simp [madeCells, hlt, Nat.mod_one]
      go_wp2_with fail
      go_roundw
      case rel => exact ⟨k + 1, _, by omega, by go_num, by unfold Hid; have h := hnew.out; rw [show (fun r s => if r = k then decide (s = k) else decide (s = r)) = (fun r s : Nat => decide (s = r)) by funext r s; split; (rename_i e; rw [e]); rfl] at h; exact h, ((HK.set (g := t) (.inl (Nat.le_refl t)) _).alloc _)⟩
      case measure => simp [intOf]; omega
    · obtain rfl : n = k := by omega
      have hbx := HK.blk HBX.out (by have := HT.out; omega)
      obtain ⟨x0, x1, x2, x3, x4, x5, x6⟩ := cells7 hbx
      clear hbx hlt hmk1 hmk2
      go_wp2_with fail
      have hKa := hK1.of0.then_ HK
      clear HK hK1 HM1 hk htw x0 x1 x2 x3 x4 x5 x6
      obtain ⟨wa, rfl⟩ : ∃ wa : World, wa = wr := ⟨_, rfl⟩
      go_loopw [38] (fun i wr => ∃ (k : Nat) (M : Nat → Nat → Bool), k ≤ b.roles.length ∧ i = .int .i64 k ∧ Hid (Mat wr t t n n R M) ∧ Hid (Toward (edgeN (b.roles.take k)) n M) ∧ Keeps (fun i => t ≤ i) w wr) (fun i _ => b.roles.length - (intOf i).toNat)
      case atStart =>
        exact ⟨0, _, Nat.zero_le _, rfl, HM, ⟨fun r _ => by simp, fun r s _ _ h => by obtain ⟨p, hp, _⟩ := h; simp at hp, fun r s _ _ h => by simp at h; rw [h]; exact .refl _⟩, hKa⟩
      case round =>
        clear HM
        obtain ⟨k, M, hk, rfl, HM, HTW, HK⟩ := hrel
        by_cases hlt : k < b.roles.length
        · have hne : b.roles ≠ [] := by intro h; rw [h] at hlt; simp at hlt
          obtain ⟨bb, oo, hA, hob, hc⟩ := (HB.out.roles.keep HK (fun i hi => by have := HT.out; omega)) hne
          dsimp only at hA
          subst hA
          obtain ⟨e0, e1⟩ := hc k hlt
          have hro := HR.out b.roles[k] (List.getElem_mem hlt)
          have htk := Lib.hid (List.take_succ_eq_append_getElem hlt)
          generalize b.roles[k] = pr at *
          obtain ⟨s1, s2⟩ := pr
          dsimp only at e0 e1 hro
          obtain ⟨g1, g2, g3, g4⟩ := hro
          obtain ⟨r1, rfl⟩ := Int.eq_ofNat_of_zero_le g1
          obtain ⟨r2, rfl⟩ := Int.eq_ofNat_of_zero_le g3
          have q1 : r1 < n := by have := HN.out; omega
          have q2 : r2 < n := by have := HN.out; omega
          have i1 : inv r1 < n := by have := HN.out; unfold inv; split <;> omega
          have i2 : inv r2 < n := by have := HN.out; unfold inv; split <;> omega
          have m1 := HM.out.topCell q1 q1
          have m2 := HM.out.cell q1 q2
          have m3 := (HM.out.rows r1 q1).frozen r2
          have hsz := HM.out.top.lt
          have hrz := (HM.out.rows r1 q1).lt
          clear hc g1 g2 g3 g4
          go_wp2_with fail
          go_region
          go_wp2_with fail
          generalize hW4 : World.drew _ = W4
          have hK4 : Keeps (fun i => t ≤ i) wr W4 := by rw [← hW4]; exact ((((Keeps.refl _ _).set (.inl (HM.out.ge r1 q1)) _).alloc _).drew)
          have hM4 : Mat W4 t t n n R (updM M r1 r2 true) := by rw [← hW4]; exact (HM.out.set q1 r2 true).keep (S := fun _ => False) (((Keeps.refl _ _).alloc _).drew) (fun _ _ h => h)
          have hb4 : W4.heap[wr.heap.size]? = some (.cells #[.int .i64 r1, .int .i64 r2] 68 (0, 0)) := by
            rw [← hW4]; exact blkNew (by simp)
          clear hW4
          obtain ⟨j0, j1⟩ := cells2 hb4
          have HM4 := Lib.hid hM4
          clear hb4 m1 m2 m3 hsz hrz hM4
          have m1 := HM4.out.topCell i1 i1
          have m2 := HM4.out.cell i1 i2
          have m3 := (HM4.out.rows _ i1).frozen (inv r2)
          have hv1 := Lib.hid (inv_xor r1 (by omega))
          have hv2 := Lib.hid (inv_xor r2 (by omega))
          generalize hi1 : inv r1 = v1 at *
          generalize hi2 : inv r2 = v2 at *
          have HI1 := Lib.hid hi1
          have HI2 := Lib.hid hi2
          clear hi1 hi2
          go_region_with (go_at_call 31; first | (refine (rinverse_calls r1 v1 hv1 _).mono ?_; rintro e w' ⟨rfl, rfl⟩) | (refine (rinverse_calls r2 v2 hv2 _).mono ?_; rintro e w' ⟨rfl, rfl⟩))
          all_goals
            go_wp2_with fail
            go_roundw
            case rel =>
              refine ⟨k + 1, updM (updM M r1 r2 true) v1 v2 true, by omega, by go_num, (HM4.out.set i1 v2 true).keep (S := fun _ => False) ((Keeps.refl _ _).drew) (fun _ _ h => h), HTW.out.add (fun r s => ?_), (HK.then_ hK4).then_ (((Keeps.refl _ _).set (.inl (HM4.out.ge v1 i1)) _).drew)⟩
              rw [htk.out]
              simp only [edgeN, List.mem_append, List.mem_singleton]
              constructor
              · rintro ⟨p, hp | rfl, h⟩
                · exact .inl ⟨p, hp, h⟩
                · simp only [Int.toNat_natCast, HI1.out, HI2.out] at h; right; omega
              · rintro (⟨p, hp, h⟩ | ⟨rfl, rfl⟩ | ⟨rfl, rfl⟩)
                · exact ⟨p, .inl hp, h⟩
                · exact ⟨_, .inr rfl, .inl ⟨rfl, rfl⟩⟩
                · exact ⟨_, .inr rfl, .inr ⟨by simp only [Int.toNat_natCast, HI1.out], by simp only [Int.toNat_natCast, HI2.out]⟩⟩
            case measure => simp [intOf]; omega
        · obtain rfl : k = b.roles.length := by omega
          have htw := HTW.out
          rw [List.take_length] at htw
          have HTW2 := Lib.hid htw
          clear htw hlt hk
          clear HTW
          go_wp2_with fail
          obtain ⟨wb, rfl⟩ : ∃ wb : World, wb = wr := ⟨_, rfl⟩
          obtain ⟨M0, rfl⟩ : ∃ M0, M0 = M := ⟨_, rfl⟩
          go_loopw [62] (fun i wr => ∃ (k : Nat) (M : Nat → Nat → Bool), k ≤ n ∧ i = .int .i64 k ∧ Hid (Mat wr t t n n R M) ∧ Hid (Warsh (edgeN b.roles) n k M) ∧ Keeps (fun i => t ≤ i) w wr) (fun i _ => n - (intOf i).toNat)
          case atStart => exact ⟨0, _, Nat.zero_le _, rfl, HM, HTW2.out.warsh, HK⟩
          case round =>
            clear HM HK HTW2
            obtain ⟨k, M, hk, rfl, HM, HWA, HK⟩ := hrel
            by_cases hlt : k < n
            · have hkk := Lib.hid (HWA.out.t.refl k hlt)
              go_wp2_with fail
              go_loopw [66] (fun i wr => ∃ (r : Nat) (P : Nat → Nat → Bool), r ≤ n ∧ i = .int .i64 r ∧ Hid (Mat wr t t n n R P) ∧ Hid (Part2 n M k r 0 P) ∧ Keeps (fun i => t ≤ i) w wr) (fun i _ => n - (intOf i).toNat)
              case atStart => exact ⟨0, _, Nat.zero_le _, rfl, HM, Part2.start _ _ _, HK⟩
              case round =>
                clear HM HK
                obtain ⟨r, P, hr, rfl, HM, HPT, HK⟩ := hrel
                by_cases hrlt : r < n
                · go_wp2_with fail
                  go_loopw [70] (fun i wr => ∃ (s : Nat) (P : Nat → Nat → Bool), s ≤ n ∧ i = .int .i64 s ∧ Hid (Mat wr t t n n R P) ∧ Hid (Part2 n M k r s P) ∧ Keeps (fun i => t ≤ i) w wr) (fun i _ => n - (intOf i).toNat)
                  case atStart => exact ⟨0, _, Nat.zero_le _, rfl, HM, HPT, HK⟩
                  case round =>
                    clear HM HK HPT
                    obtain ⟨s, P, hs, rfl, HM, HPT, HK⟩ := hrel
                    by_cases hslt : s < n
                    · have t1 := HM.out.topCell hrlt hrlt
                      have t2 := HM.out.topCell hlt hlt
                      have d1 := HM.out.cell hrlt hslt
                      have d2 := HM.out.cell hrlt hlt
                      have d3 := HM.out.cell hlt hslt
                      have f3 := (HM.out.rows _ hrlt).frozen s
                      have hnext := Lib.hid (HPT.out.next hkk.out hlt hrlt hslt)
                      have hset := Lib.hid (fun x => HM.out.set hrlt s x)
                      have hge := Lib.hid (HM.out.ge r hrlt)
                      obtain ⟨x1, hm1⟩ : ∃ x, P r s = x := ⟨_, rfl⟩
                      obtain ⟨x2, hm2⟩ : ∃ x, P r k = x := ⟨_, rfl⟩
                      obtain ⟨x3, hm3⟩ : ∃ x, P k s = x := ⟨_, rfl⟩
                      rw [hm1] at d1
                      rw [hm2] at d2
                      rw [hm3] at d3
                      rw [hm1, hm2, hm3] at hnext
                      clear hm1 hm2 hm3
                      generalize R r = Rr at *
                      generalize R k = Rk at *
                      cases x1
                      · cases x2
                        · clear d3 t2
                          go_wp2_with fail
                          go_region
                          all_goals
                            go_wp2_with fail
                            go_roundw
                            case rel => exact ⟨s + 1, _, by omega, by go_num, (hset.out _).keep (S := fun _ => False) ((Keeps.refl _ _).drew) (fun _ _ h => h), hnext.out, ((HK.set (.inl hge.out) _).drew)⟩
                            case measure => simp [intOf]; omega
                        · cases x3
                          all_goals
                            go_wp2_with fail
                            go_region
                            all_goals
                              go_wp2_with fail
                              go_roundw
                              case rel => exact ⟨s + 1, _, by omega, by go_num, (hset.out _).keep (S := fun _ => False) ((Keeps.refl _ _).drew) (fun _ _ h => h), hnext.out, ((HK.set (.inl hge.out) _).drew)⟩
                              case measure => simp [intOf]; omega
                      · clear d2 d3 t2
                        go_wp2_with fail
                        go_region
                        all_goals
                          go_wp2_with fail
                          go_roundw
                          case rel => exact ⟨s + 1, _, by omega, by go_num, (hset.out _).keep (S := fun _ => False) ((Keeps.refl _ _).drew) (fun _ _ h => h), hnext.out, ((HK.set (.inl hge.out) _).drew)⟩
                          case measure => simp [intOf]; omega
                    · obtain rfl : n = s := by omega
                      go_wp2_with fail
                      go_roundw
                      case rel => exact ⟨r + 1, P, by omega, by go_num, HM, HPT.out.row, HK⟩
                      case measure => simp [intOf]; omega
                · obtain rfl : n = r := by omega
                  go_wp2_with fail
                  go_roundw
                  case rel => exact ⟨k + 1, P, by omega, by go_num, HM, HWA.out.mix hlt HPT.out, HK⟩
                  case measure => simp [intOf]; omega
            · obtain rfl : n = k := by omega
              go_wp2_with fail
              go_ret
              obtain rfl := HT.out
              rw [HN.out] at *
              exact ⟨_, R, M, rfl, HM.out, fun r s hr hs => HWA.out.done (fun r s h => edgeN_lt HR.out h) hr hs, HK.new (fun i hi => by omega)⟩
end Go.Proofs.YtoafelppnagpbaaDoor
