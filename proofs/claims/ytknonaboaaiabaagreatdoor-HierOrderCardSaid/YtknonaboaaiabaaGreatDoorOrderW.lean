/- The law HierOrder, walked. -/
import Derived.Test.YtknonaboaaiabaaGreatDoorLWithin
import Derived.Test.YtknonaboaaiabaaGreatDoorItpIs
import Derived.Test.YtknonaboaaiabaaGreatDoorItpFew
import Derived.Test.YtknonaboaaiabaaGreatDoorLFew
import Derived.Test.YtknonaboaaiabaaGreatDoorAwake
namespace Go.Proofs.YtknonaboaaiabaaGreatDoor
open Go.RowKit
set_option linter.unusedVariables false
set_option linter.unusedSimpArgs false
theorem lenSum_mem {α : Type} {l : List (List α)} {x : List α} (h : x ∈ l) : x.length ≤ lenSum l := by
  induction l with
  | nil => simp at h
  | cons a r ih =>
    simp only [lenSum, List.map_cons, List.sum_cons] at ih ⊢
    rcases List.mem_cons.1 h with rfl | h
    · omega
    · have := ih h; omega
theorem fewO_parts {b : Kb} (h : fewLawB b [] = true) : b.incls.length ≤ 200 ∧ b.roles.length ≤ 200 ∧ b.facts.length ≤ 200 ∧ b.links.length ≤ 200 ∧ b.cs.length ≤ 100 ∧ b.rs.length ≤ 100 ∧ b.is.length ≤ 100 := by
  simp only [fewLawB, fewB, fewNamesR, fewL, Bool.and_eq_true, decide_eq_true_eq] at h
  obtain ⟨_, ⟨h1, h2, h3, h4, ⟨h5, h6, h7⟩, _⟩, h8⟩ := h
  exact ⟨h1, h2, h3, h4, h5.1, h6.1, h7.1⟩
/-- What the matrix of the law holds behind its making. -/
def BelF (w : World) (t n k : Nat) (f : Nat → Nat → Bool) : Prop := ∀ r, r < k → ∃ g cap, w.cell? ⟨t, r, none⟩ = some (.slice (some ⟨g, 0, none⟩) n cap) ∧ n ≤ cap ∧ ∀ s, s < n → w.cell? ⟨g, s, none⟩ = some (.bool (f r s))
theorem BelF.keep {w w' : World} {t n k : Nat} {f : Nat → Nat → Bool} (h : BelF w t n k f) (hk : Keeps (fun _ => False) w w') : BelF w' t n k f := fun r hr => by
  obtain ⟨g, cap, e0, e1, e2⟩ := h r hr
  exact ⟨g, cap, hk.cell e0 (fun h => h), e1, fun s hs => hk.cell (e2 s hs) (fun h => h)⟩
set_option maxRecDepth 100000 in
set_option maxHeartbeats 4000000 in
theorem hierOrder_walk (b : Kb) (p : KbA) (i : Itp) (q : ItpA) (w : World) (m : Int) (hm : w.cell? ⟨2, 0, none⟩ = some (.int .i64 m)) (ht : ArgsTab w) (hd : DualsTab w) (hb : KbR (fun _ => True) w b p) (hi : ItpR (fun _ => True) w i q)
    (hreach : (∀ l ∈ i.cons, l.length ≤ 140737488355328) ∧ (∀ l ∈ i.roles, l.length ≤ 140737488355328)) :
    Calls Tryz.prog 5 #[.agg #[.slice p.a0 b.cs.length p.c0, .slice p.a1 b.rs.length p.c1, .slice p.a2 b.is.length p.c2, .slice p.a3 b.incls.length p.c3, .slice p.a4 b.roles.length p.c4, .slice p.a5 b.facts.length p.c5, .slice p.a6 b.links.length p.c6], .agg #[.int .i64 i.size, .slice q.a0 i.cons.length q.c0, .slice q.a1 i.roles.length q.c1, .slice q.a2 i.inds.length q.c2]] w fun e w' => e = .returned (.bool true) ∧ Keeps (fun _ => False) w w' := by
  have HAW := Lib.hid (fun W (hk : Keeps (fun _ => False) w W) => awake_calls W m (hk.cell hm (fun h => h)) (ht.keep hk (fun h => h)) (hd.keep hk (fun h => h)))
  have HFEW := Lib.hid (fun W (hk : Keeps (fun _ => False) w W) => fewLaw_calls b p [] (fun _ => True) none 0 W (hb.keep hk (fun _ _ h => h)) (fun h => absurd rfl h) (by simp))
  have HIF := Lib.hid (fun W (hk : Keeps (fun _ => False) w W) => itpFew_calls i q (fun _ => True) W (hi.keep hk (fun _ _ h => h)) hreach)
  have HIK := Lib.hid (fun W (hk : Keeps (fun _ => False) w W) (hf : fewLawB b [] = true) => isKb_calls b p (fun _ => True) W (hb.keep hk (fun _ _ h => h)) (by have := fewO_parts hf; omega) (by have := fewO_parts hf; omega) (by have := fewO_parts hf; omega) (by have := fewO_parts hf; omega) (by have := fewO_parts hf; omega) (by have := fewO_parts hf; omega) (by have := fewO_parts hf; omega))
  have HII := Lib.hid (fun W (hk : Keeps (fun _ => False) w W) => itpIs_calls b.cs b.rs b.is p.a0 p.a1 p.a2 p.c0 p.c1 p.c2 i q (fun _ => True) W (hi.keep hk (fun _ _ h => h)))
  have HB := Lib.hid hb
  have HI := Lib.hid hi
  have HM := Lib.hid hm
  have HT := Lib.hid ht
  generalize hfv : fewLawB b [] = fv at *
  generalize hiv : itpFewB i = iv at *
  generalize hkv : isKbR b = kv at *
  generalize hjv : isItpB b.cs.length b.rs.length b.is.length i = jv at *
  have HFV := Lib.hid hfv
  have HIV := Lib.hid hiv
  have HKV := Lib.hid hkv
  have HJV := Lib.hid hjv
  obtain ⟨a0, a1, a2, a3, a4, a5, a6, c0, c1, c2, c3, c4, c5, c6⟩ := p
  obtain ⟨q0, q1, q2, e0, e1, e2⟩ := q
  dsimp only [List.length_nil] at HFEW HIF HIK HII ⊢
  clear hm ht hd hb hi hreach hfv hiv hkv hjv
  go_enter Tryz.func5, Tryz.ntmps5
  go_wp2_with fail
  generalize hW0 : World.alloc _ _ = W0
  have hK0 : Keeps (fun _ => False) w W0 := by rw [← hW0]; repeat (first | exact Keeps.refl _ _ | refine Keeps.drewN ?_ _ | refine Keeps.drew ?_ | refine Keeps.alloc ?_ _ | refine Keeps.set ?_ (Or.inl (by rfl)) _)
  have hbx : W0.heap[w.heap.size]? = some (.cells #[.slice a0 b.cs.length c0, .slice a1 b.rs.length c1, .slice a2 b.is.length c2, .slice a3 b.incls.length c3, .slice a4 b.roles.length c4, .slice a5 b.facts.length c5, .slice a6 b.links.length c6] 30 (0, 0)) := by rw [← hW0]; exact blkAlloc (blkNew rfl) _
  have hix : W0.heap[w.heap.size + 1]? = some (.cells #[.int .i64 i.size, .slice q0 i.cons.length e0, .slice q1 i.roles.length e1, .slice q2 i.inds.length e2] 37 (0, 0)) := by rw [← hW0]; exact blkNew (by simp)
  clear hW0
  refine (HFEW.out W0 hK0).mono ?_
  clear HFEW
  rintro ee w1 ⟨rfl, hk1⟩
  have HK1 := Lib.hid (hK0.then_ hk1)
  have HBX1 := Lib.hid (hk1.blk hbx (fun h => h))
  have HIX1 := Lib.hid (hk1.blk hix (fun h => h))
  clear hbx hix hk1 hK0
  cases fv
  · go_wp2_with fail
    refine (HAW.out _ HK1.out).mono ?_
    rintro ee w2 ⟨rfl, hk2⟩
    go_wp2_with fail
    go_ret
    exact ⟨rfl, HK1.out.then_ hk2⟩
  obtain ⟨y0, y1, y2, y3⟩ := cells4 HIX1.out
  have hz1 := blkLt HIX1.out
  go_wp2_with fail
  refine (HIF.out w1 HK1.out).mono ?_
  clear HIF y0 y1 y2 y3 hz1
  rintro ee w2 ⟨rfl, hk2⟩
  have HK2 := Lib.hid (HK1.out.then_ hk2)
  have HBX2 := Lib.hid (hk2.blk HBX1.out (fun h => h))
  have HIX2 := Lib.hid (hk2.blk HIX1.out (fun h => h))
  clear hk2 HK1 HBX1 HIX1
  cases iv
  · go_wp2_with fail
    refine (HAW.out _ HK2.out).mono ?_
    rintro ee w3 ⟨rfl, hk3⟩
    go_wp2_with fail
    go_ret
    exact ⟨rfl, HK2.out.then_ hk3⟩
  obtain ⟨x0, x1, x2, x3, x4, x5, x6⟩ := cells7 HBX2.out
  have hz0 := blkLt HBX2.out
  go_wp2_with fail
  refine (HIK.out w2 HK2.out (by trivial)).mono ?_
  clear HIK x0 x1 x2 x3 x4 x5 x6 hz0
  rintro ee w3 ⟨rfl, hk3⟩
  have HK3 := Lib.hid (HK2.out.then_ hk3)
  have HBX3 := Lib.hid (hk3.blk HBX2.out (fun h => h))
  have HIX3 := Lib.hid (hk3.blk HIX2.out (fun h => h))
  clear hk3 HK2 HBX2 HIX2
  cases kv
  · go_wp2_with fail
    refine (HAW.out _ HK3.out).mono ?_
    rintro ee w4 ⟨rfl, hk4⟩
    go_wp2_with fail
    go_ret
    exact ⟨rfl, HK3.out.then_ hk4⟩
  obtain ⟨x0, x1, x2, x3, x4, x5, x6⟩ := cells7 HBX3.out
  obtain ⟨y0, y1, y2, y3⟩ := cells4 HIX3.out
  have hz0 := blkLt HBX3.out
  have hz1 := blkLt HIX3.out
  go_wp2_with fail
  refine (HII.out w3 HK3.out).mono ?_
  clear HII x0 x1 x2 x3 x4 x5 x6 y0 y1 y2 y3 hz0 hz1
  rintro ee w4 ⟨rfl, hk4⟩
  have HK4 := Lib.hid (HK3.out.then_ hk4)
  have HBX4 := Lib.hid (hk4.blk HBX3.out (fun h => h))
  have HIX4 := Lib.hid (hk4.blk HIX3.out (fun h => h))
  clear hk4 HK3 HBX3 HIX3
  cases jv
  · go_wp2_with fail
    refine (HAW.out _ HK4.out).mono ?_
    rintro ee w5 ⟨rfl, hk5⟩
    go_wp2_with fail
    go_ret
    exact ⟨rfl, HK4.out.then_ hk5⟩
  have hfp := fewO_parts HFV.out
  have hv : kbValidB b = true := by rw [kbValid_eq b (names_eq _ _ _)]; exact HKV.out
  obtain ⟨g1, g2, g3⟩ := kbValid_parts hv
  have hvn : validNamesB b.cs b.rs b.is = true := by simp only [kbValidB, Bool.and_eq_true] at hv; exact hv.1.1
  have hlen : ∀ l ∈ i.roles, l.length ≤ 1000 := fun l hl => by
    have h := HIV.out
    simp only [itpFewB, Bool.and_eq_true, decide_eq_true_eq] at h
    have := lenSum_mem hl
    omega
  obtain ⟨n, hn⟩ : ∃ n, n = 2 * b.rs.length := ⟨_, rfl⟩
  have hn12 : n ≤ 12 := by omega
  have HBL : Hid (∀ W, Keeps (fun _ => False) w W → ∀ r s : Nat, r < n → s < n → Calls Tryz.prog 24 #[.agg #[.slice a0 b.cs.length c0, .slice a1 b.rs.length c1, .slice a2 b.is.length c2, .slice a3 b.incls.length c3, .slice a4 b.roles.length c4, .slice a5 b.facts.length c5, .slice a6 b.links.length c6], .int .i64 r, .int .i64 s] W fun e w' => e = .returned (.tuple #[.bool (belowB b r s), .int .i64 0]) ∧ Keeps (fun _ => False) W w') := fun W hk r s hr hs => by
    have h := below_calls b ⟨a0, a1, a2, a3, a4, a5, a6, c0, c1, c2, c3, c4, c5, c6⟩ r s (fun _ => True) W m (hk.cell HM.out (fun h => h)) (HT.out.keep hk (fun h => h)) (HB.out.keep hk (fun _ _ h => h)) (by omega) (by omega) (by omega) (by omega) (by omega)
    have e : belowE b r s = (belowB b r s, 0) := by
      unfold belowE
      rw [if_pos hv, if_pos (by simp [roleOk]; omega)]
    rw [e] at h
    exact h
  have HAB : Hid (∀ W, Keeps (fun _ => False) w W → ∀ r : Nat, r < n → Calls Tryz.prog 26 #[.agg #[.slice a0 b.cs.length c0, .slice a1 b.rs.length c1, .slice a2 b.is.length c2, .slice a3 b.incls.length c3, .slice a4 b.roles.length c4, .slice a5 b.facts.length c5, .slice a6 b.links.length c6], .int .i64 r] W fun e w' => ∃ v, e = .returned (.tuple #[v, .int .i64 0]) ∧ OwnInts w' W.heap.size v ((aboveL b r).map Int.ofNat) ∧ Keeps (fun _ => False) W w') := fun W hk r hr => by
    have h := above_calls b ⟨a0, a1, a2, a3, a4, a5, a6, c0, c1, c2, c3, c4, c5, c6⟩ r (fun _ => True) W m (hk.cell HM.out (fun h => h)) (HT.out.keep hk (fun h => h)) (HB.out.keep hk (fun _ _ h => h)) (by omega) (by omega) (by omega) (by omega) (by omega)
    have e : aboveE b r = ((aboveL b r).map Int.ofNat, 0) := by
      unfold aboveE
      rw [if_pos hv, if_pos (by simp [roleOk]; omega)]
    rw [e] at h
    exact h
  have HTR : Hid (∀ W, Keeps (fun _ => False) w W → ∀ (k : Nat) (hk : k < b.roles.length), Calls Tryz.prog 25 #[.agg #[.slice a0 b.cs.length c0, .slice a1 b.rs.length c1, .slice a2 b.is.length c2, .slice a3 b.incls.length c3, .slice a4 b.roles.length c4, .slice a5 b.facts.length c5, .slice a6 b.links.length c6], .agg #[.int .i64 i.size, .slice q0 i.cons.length e0, .slice q1 i.roles.length e1, .slice q2 i.inds.length e2], .int .i64 ((b.incls.length : Int) + k)] W fun e w' => e = .returned (.tuple #[.bool (satB i b.roles[k]), .int .i64 0]) ∧ Keeps (fun _ => False) W w') := fun W hk k hlt =>
    itpTrue_calls b ⟨a0, a1, a2, a3, a4, a5, a6, c0, c1, c2, c3, c4, c5, c6⟩ i ⟨q0, q1, q2, e0, e1, e2⟩ (fun _ => True) W m (hk.cell HM.out (fun h => h)) (HT.out.keep hk (fun h => h)) (HB.out.keep hk (fun _ _ h => h)) (HI.out.keep hk (fun _ _ h => h)) (by omega) (by omega) (by omega) (by omega) hv HJV.out hlen k hlt
  have HWI : Hid (∀ W, Keeps (fun _ => False) w W → ∀ r s : Nat, r < n → s < n → b.roles.all (satB i) = true → belowB b r s = true → Calls Tryz.prog 28 #[.agg #[.slice a0 b.cs.length c0, .slice a1 b.rs.length c1, .slice a2 b.is.length c2], .agg #[.int .i64 i.size, .slice q0 i.cons.length e0, .slice q1 i.roles.length e1, .slice q2 i.inds.length e2], .int .i64 r, .int .i64 s] W fun e w' => e = .returned (.bool true) ∧ Keeps (fun _ => False) W w') := fun W hk r s hr hs hall hbl => by
    have hkb := HB.out.keep (S := fun _ => False) hk (fun _ _ h => h)
    exact lawWithin_calls b.cs b.rs b.is a0 a1 a2 c0 c1 c2 i ⟨q0, q1, q2, e0, e1, e2⟩ (fun _ => True) W r s m (hk.cell HM.out (fun h => h)) hkb.cs hkb.rs hkb.is hkb.l0 hkb.l1 hkb.l2 hkb.strs (HI.out.keep hk (fun _ _ h => h)) hvn HJV.out hlen (by omega) (by omega) (by omega)
      (belowB_within (fun x hx => by
        have := List.all_eq_true.1 hall x hx
        unfold satB at this
        exact @of_decide_eq_true _ (_) this) hbl)
  have HREF : Hid (∀ r : Nat, belowB b r r = true) := fun r => belowB_refl b r
  have HINV : Hid (∀ r s : Nat, belowB b (inv r : Nat) (inv s : Nat) = belowB b r s) := fun r s => belowB_inv (fun x hx => by have := g3 x hx; omega) r s
  have HTRN : Hid (∀ r s t : Nat, belowB b r s = true → belowB b s t = true → belowB b r t = true) := fun r s t h1 h2 => belowB_trans h1 h2
  have HABV : Hid (∀ r s : Nat, s < n → decide ((s : Int) ∈ (aboveL b r).map Int.ofNat) = belowB b r s) := fun r s hs => by
    rw [Bool.eq_iff_iff, decide_eq_true_iff, List.mem_map]
    unfold aboveL
    constructor
    · rintro ⟨x, hx, e⟩
      rw [List.mem_filter] at hx
      have e2 : x = s := by have h := e; simp only [Int.ofNat_eq_natCast] at h; omega
      subst e2
      exact hx.2
    · intro h
      exact ⟨s, List.mem_filter.2 ⟨List.mem_range.2 (by omega), h⟩, rfl⟩
  have HIVL : Hid (∀ r, r < n → inv r < n) := fun r hr => by rw [hn] at hr ⊢; exact inv_lt hr
  have HABL : Hid (∀ r : Nat, ((aboveL b r).map Int.ofNat).length ≤ 12) := fun r => by
    have := List.length_filter_le (fun s : Nat => belowB b r s) (List.range (2 * b.rs.length))
    rw [List.length_range] at this
    rw [List.length_map]; unfold aboveL; omega
  obtain ⟨fB, hfB⟩ : ∃ fB : Nat → Nat → Bool, fB = fun (r s : Nat) => belowB b (r : Int) (s : Int) := ⟨_, rfl⟩
  have ebl : ∀ r s : Nat, belowB b r s = fB r s := fun r s => by rw [hfB]
  simp only [ebl] at HBL HWI HREF HINV HTRN HABV
  have hrl : b.roles.length ≤ 9223372036854775807 := by omega
  have hnl : (b.incls.length : Int) ≤ 1000 := by omega
  have hrl2 : (b.roles.length : Int) ≤ 60 := by omega
  have hn2 : 2 * (b.rs.length : Int) = n := by omega
  have hmk1 := run_make_row' (P := Tryz.prog) 56 59 _ 24 Tryz.underlying56 infoRow rfl .i64 .i64 n (by omega) (by omega)
  clear hfp hv g1 g2 g3 hvn hlen hn hfB ebl HFV HIV HKV HJV HM HT HB HI
  generalize aboveL b = ab at *
  obtain ⟨x0, x1, x2, x3, x4, x5, x6⟩ := cells7 HBX4.out
  obtain ⟨y0, y1, y2, y3⟩ := cells4 HIX4.out
  have hz0 := blkLt HBX4.out
  have hz1 := blkLt HIX4.out
  go_wp2_with fail
  clear hmk1
  generalize hW5 : World.alloc _ _ = W5
  have hK5 : Keeps (fun _ => False) w4 W5 := by rw [← hW5]; repeat (first | exact Keeps.refl _ _ | refine Keeps.drewN ?_ _ | refine Keeps.drew ?_ | refine Keeps.alloc ?_ _ | refine Keeps.set ?_ (Or.inl (by rfl)) _)
  have hT5 : W5.rowIs w4.heap.size 59 n (fun _ => .slice none 0 0) := by rw [← hW5]; exact World.rowIs_made w4 _ n _
  clear hW5 x0 x1 x2 x3 x4 x5 x6 y0 y1 y2 y3
  have HK5 := Lib.hid (HK4.out.then_ hK5)
  have HT5 := Lib.hid hT5
  have HBX5 := Lib.hid (hK5.blk HBX4.out (fun h => h))
  have HIX5 := Lib.hid (hK5.blk HIX4.out (fun h => h))
  have htl := hT5.lt
  clear hK5 hT5 HBX4 HIX4 HK4 hz0
  generalize w4.heap.size = t at *
  go_loopw [52] (fun i wr => ∃ (k : Nat) (V : Nat → Value), k ≤ n ∧ i = .int .i64 k ∧ Hid (wr.rowIs t 59 n V) ∧ Hid (∀ r, k ≤ r → V r = .slice none 0 0) ∧ Hid (∀ r, r < k → ∃ g cap, V r = .slice (some ⟨g, 0, none⟩) n cap ∧ n ≤ cap ∧ t < g ∧ g < wr.heap.size ∧ ∀ s, s < n → wr.cell? ⟨g, s, none⟩ = some (.bool (fB r s))) ∧ Hid (Keeps (fun x => t ≤ x) W5 wr)) (fun i _ => n - (intOf i).toNat)
  case atStart => exact ⟨0, _, Nat.zero_le _, rfl, HT5, fun _ _ => rfl, fun r hr => absurd hr (Nat.not_lt_zero _), Keeps.refl _ _⟩
  case round =>
    obtain ⟨k, V, hk, rfl, HTV, HVN, HVD, HK⟩ := hrel
    by_cases hlt : k < n
    · have i1 : (k : Int) < n := by omega
      have HKR : Hid (Keeps (fun _ => False) w wr) := HK5.out.trans HK.out (fun i hi => .inr (by omega))
      have htr := HTV.out.lt
      obtain ⟨wk, hwk⟩ : ∃ x, x = wr := ⟨_, rfl⟩
      subst hwk
      have HS0 : Hid (wk.rowIs t 59 n (fun r => if r = k then .slice none 0 0 else V r)) := by
        refine HTV.out.congr (fun r hr => ?_)
        by_cases e : r = k
        · rw [if_pos e, e, HVN.out k (Nat.le_refl _)]
        · rw [if_neg e]
      have hx1 : bits .xor .i64 (k : Int) 1 = ((inv k : Nat) : Int) := inv_xor k (by omega)
      go_wp2_with fail
      go_loopw [56] (fun i w2 => ∃ (j : Nat) (v : Value), j ≤ n ∧ i = .int .i64 j ∧ Hid (w2.rowIs t 59 n (fun r => if r = k then v else V r)) ∧ Hid (w2.ownsRow wk.heap.size 4 1 v j ((List.range j).map fun s => .bool (fB k s))) ∧ Hid (Keeps (fun x => x = t ∨ wk.heap.size ≤ x) wk w2)) (fun i _ => n - (intOf i).toNat)
      case atStart => exact ⟨0, _, Nat.zero_le _, rfl, HS0, World.ownsRow_nil _ _ _ _, Keeps.refl _ _⟩
      case round =>
        clear HS0
        obtain ⟨j, v, hj, rfl, HS, HO, HKJ⟩ := hrel
        by_cases hjn : j < n
        · have j1 : (j : Int) < n := by omega
          have HKW : Hid (Keeps (fun _ => False) w wr) := HKR.out.trans HKJ.out (fun i hi => .inr (by have := HKR.out.size; omega))
          have hx2 : bits .xor .i64 (j : Int) 1 = ((inv j : Nat) : Int) := inv_xor j (by omega)
          have HBW := Lib.hid (HKJ.out.blk (HK.out.blk HBX5.out (by omega)) (by have := HKR.out.size; omega))
          obtain ⟨x0, x1, x2, x3, x4, x5, x6⟩ := cells7 HBW.out
          have hzw := blkLt HBW.out
          have HB1 := Lib.hid (HBL.out wr HKW.out k j hlt hjn)
          go_wp2_with fail
          refine HB1.out.mono ?_
          clear HB1 x0 x1 x2 x3 x4 x5 x6 hzw
          rintro ee w6 ⟨rfl, hk6⟩
          have HK6 := Lib.hid hk6
          have HBW6 := Lib.hid (hk6.blk HBW.out (fun h => h))
          obtain ⟨x0, x1, x2, x3, x4, x5, x6⟩ := cells7 HBW6.out
          have hzw := blkLt HBW6.out
          have hb2 := HBL.out w6 (HKW.out.then_ hk6) (inv k) (inv j) (HIVL.out k hlt) (HIVL.out j hjn)
          rw [HINV.out k j] at hb2
          have HB2 := Lib.hid hb2
          clear hb2 hk6
          go_wp2_with fail
          refine HB2.out.mono ?_
          clear HB2 x0 x1 x2 x3 x4 x5 x6 hzw
          rintro ee w7 ⟨rfl, hk7⟩
          have HK7 := Lib.hid (HK6.out.then_ hk7)
          clear hk7 HK6
          have HDG : Hid (k = j → fB k j = true) := fun e => by rw [← e]; exact HREF.out k
          have HLS : Hid ((List.range (j + 1)).map (fun s => Value.bool (fB k s)) = (List.range j).map (fun s => Value.bool (fB k s)) ++ [Value.bool (fB k j)]) := by unfold Hid; rw [List.range_succ, List.map_append]; rfl
          generalize fB k j = x at *
          generalize hxs : (List.range j).map (fun s => Value.bool (fB k s)) = xs at *
          clear hxs
          go_upto_region 13 with fail
          go_cut [94] from 215 (fun v wc => v = .bool false ∧ wc = w7)
          case first =>
            by_cases hkj : k = j
            · have hxt : x = true := HDG.out hkj
              clear HDG HLS
              subst hkj
              subst hxt
              go_wp2_with fail
              go_meet
              exact ⟨rfl, rfl⟩
            · have p1 : decide ((k : Int) = j) = false := decide_eq_false (by omega)
              have p2 : decide (k = j) = false := decide_eq_false hkj
              have p3 : ((k : Int) == (j : Int)) = false := by rw [beq_eq_false_iff_ne]; omega
              have p4 : (k == j) = false := by rw [beq_eq_false_iff_ne]; exact hkj
              clear HDG HLS
              cases x
              all_goals
                go_wp2_with fail
                go_meet
                exact ⟨rfl, rfl⟩
          case rest =>
            obtain ⟨rfl, rfl⟩ := hcut
            have HS7 : Hid (wc.rowIs t 59 n (fun r => if r = k then v else V r)) := HS.out.of_block (HK7.out.block _ HS.out.lt (fun h => h))
            have HO7 : Hid (wc.ownsRow wk.heap.size 4 1 v j xs) := ownsKeep HO.out HK7.out (fun _ _ h => h)
            have c0 : wc.cell? ⟨t, k, none⟩ = some v := by have := HS7.out.cell hlt; simpa using this
            have htw := HS7.out.lt
            have hbw : wk.heap.size ≤ wc.heap.size := by have h1 := HKJ.out.size; have h2 := HK7.out.size; omega
            clear HS HO HDG
            go_wp2_with (at_builtin; refine wp_app1 rfl _ _ 59 59 rfl wk.heap.size 4 (.bool false) 1 1 Tryz.underlying59 infoBool rfl (by decide) (by decide) _ _ _ (ownsKeep (S := fun _ => False) HO7.out (by repeat (first | exact Keeps.refl _ _ | refine Keeps.drewN ?_ _ | refine Keeps.drew ?_ | refine Keeps.alloc ?_ _ | refine Keeps.set ?_ (Or.inl (by rfl)) _)) (fun _ _ h => h)) rfl _ 1 [.bool x] (Src.ofBlock Tryz.underlying59 (cs := #[.bool x]) (blkNew rfl) rfl (by simp [Value.oneCell'])) rfl (by decide) (by first | omega | (simp; omega)) (by first | (simp; omega) | omega) ?_; intro g cap w8 ho hk8 hat hcap hlt8; have HS8 := Lib.hid ((HS7.out.alloc _).of_block (hk8.block _ (by simp; omega) (fun h => by have := (HO7.out.lt _ h).1; omega))); have c8 : w8.cell? ⟨t, k, none⟩ = some v := (by have := HS8.out.cell hlt; simpa using this); have f8 : w8.frozen? ⟨t, k, none⟩ = false := HS8.out.frozen k; have hl8 := HS8.out.lt; have HO8 := Lib.hid ho; have HK8 := Lib.hid hk8; clear ho hk8)
            have hgt : t < g := by have := (HO8.out.lt g rfl).1; omega
            go_roundw
            case rel =>
              refine ⟨j + 1, .slice (some ⟨g, 0, none⟩) (j + 1) cap, by omega, by go_num, (HS8.out.set k _).congr (fun r _ => ?_), ?_, ?_⟩
              · by_cases e : r = k <;> simp [e]
              · unfold Hid; rw [HLS.out]
                exact ownsKeep (S := fun b => b = t) HO8.out ((Keeps.refl (fun b => b = t) _).set (Or.inl rfl) _) (fun b hb => by simp only [Value.ownBlock, Option.some.injEq] at hb; omega)
              · exact (((HKJ.out.trans HK7.out (fun _ h => h.elim)).alloc _).trans HK8.out (fun i hi => .inl (.inr (HO7.out.lt i hi).1))).set (.inl (.inl rfl)) _
            case measure => simp [intOf]; omega
        · obtain rfl : n = j := by omega
          clear hx1
          go_wp2_with fail
          go_roundw
          case rel =>
            refine ⟨k + 1, _, by omega, by go_num, HS, fun r hr => ?_, fun r hr => ?_, ?_⟩
            · rw [if_neg (by omega)]; exact HVN.out r (by omega)
            · by_cases e : r = k
              · subst e
                obtain ⟨g, cap, rfl, hcap, hg, hglt⟩ := ownSlice HO.out (by omega)
                refine ⟨g, cap, if_pos rfl, hcap, by omega, hglt, fun s hs => ?_⟩
                have := HO.out.cells (g := g) rfl s (.bool (fB r s)) (by simp [hs])
                rwa [addPlain] at this
              · obtain ⟨g, cap, eV, hcap, hg, hglt, hcells⟩ := HVD.out r (by omega)
                exact ⟨g, cap, by rw [if_neg e, eV], hcap, hg, by have := HKJ.out.size; omega, fun s hs => HKJ.out.cell (hcells s hs) (fun h => by rcases h with h | h <;> omega)⟩
            · exact HK.out.trans HKJ.out (fun i hi => .inl (by rcases hi with h | h <;> omega))
          case measure => simp [intOf]; omega
    · obtain rfl : n = k := by omega
      have HBF : Hid (BelF wr t n n fB) := fun r hr => by
        obtain ⟨g, cap, eV, hcap, _, _, hcells⟩ := HVD.out r hr
        have hc := HTV.out.cell hr
        rw [eV] at hc
        exact ⟨g, cap, hc, hcap, hcells⟩
      have htw := HTV.out.lt
      have HKA : Hid (Keeps (fun _ => False) w wr) := HK5.out.trans HK.out (fun i hi => .inr (by omega))
      have HBX6 := Lib.hid (HK.out.blk HBX5.out (by omega))
      have HIX6 := Lib.hid (HK.out.blk HIX5.out (by omega))
      clear HTV HVN HVD HK HBX5 HIX5 HT5 HK5 HINV HIVL HREF HBL htl
      obtain ⟨w6, hw6⟩ : ∃ x, x = wr := ⟨_, rfl⟩
      subst hw6
      obtain ⟨x0, x1, x2, x3, x4, x5, x6⟩ := cells7 HBX6.out
      have hzb := blkLt HBX6.out
      go_wp2_with fail
      clear x0 x1 x2 x3 x4 x5 x6 hzb
      go_loopw [13, 110] (fun v i2 wr => ∃ k : Nat, k ≤ b.roles.length ∧ i2 = .int .i64 k ∧ v = .bool ((b.roles.take k).all (satB i)) ∧ Hid (Keeps (fun _ => False) w6 wr)) (fun _ i _ => b.roles.length - (intOf i).toNat)
      case atStart => exact ⟨0, Nat.zero_le _, rfl, by simp, Keeps.refl _ _⟩
      case round =>
        obtain ⟨k, hk2, rfl, rfl, HK⟩ := hrel
        by_cases hlt : k < b.roles.length
        · have i1 : (k : Int) < b.roles.length := by omega
          have HT1 := Lib.hid (HTR.out wr (HKA.out.then_ HK.out) k hlt)
          have HAK : Hid ((b.roles.take (k + 1)).all (satB i) = ((b.roles.take k).all (satB i) && satB i b.roles[k])) := by unfold Hid; rw [List.take_succ_eq_append_getElem hlt, List.all_append]; simp
          obtain ⟨x0, x1, x2, x3, x4, x5, x6⟩ := cells7 (HK.out.blk HBX6.out (fun h => h))
          obtain ⟨y0, y1, y2, y3⟩ := cells4 (HK.out.blk HIX6.out (fun h => h))
          have hzb := blkLt (HK.out.blk HBX6.out (fun h => h))
          have hzi := blkLt (HK.out.blk HIX6.out (fun h => h))
          generalize satB i b.roles[k] = sk at *
          generalize (b.roles.take k).all (satB i) = ak at *
          go_wp2_with fail
          refine HT1.out.mono ?_
          clear HT1 x0 x1 x2 x3 x4 x5 x6 y0 y1 y2 y3
          rintro ee w7 ⟨rfl, hk7⟩
          have HK7 := Lib.hid (HK.out.then_ hk7)
          cases ak <;> cases sk
          all_goals
            go_wp2_with fail
            go_roundw
            case rel => exact ⟨k + 1, by omega, by go_num, by rw [HAK.out]; rfl, HK7⟩
            case measure => simp [intOf]; omega
        · obtain rfl : b.roles.length = k := by omega
          rw [List.take_length]
          have HOK : Hid (b.roles.all (satB i) = true → b.roles.all (satB i) = true) := fun h => h
          unfold Hid at HOK
          obtain ⟨okv, hokv⟩ : ∃ x, x = b.roles.all (satB i) := ⟨_, rfl⟩
          rw [← hokv] at HWI ⊢
          clear HOK hokv
          have HKB := Lib.hid (HKA.out.then_ HK.out)
          have HBX7 := Lib.hid (HK.out.blk HBX6.out (fun h => h))
          have HIX7 := Lib.hid (HK.out.blk HIX6.out (fun h => h))
          have HBF7 := Lib.hid (HBF.out.keep HK.out)
          obtain ⟨w7, hw7⟩ : ∃ x, x = wr := ⟨_, rfl⟩
          subst hw7
          clear HK HKA HBX6 HIX6 HBF HTR
          go_wp2_with fail
          go_loopw [134] (fun i2 wr => ∃ r : Nat, r ≤ n ∧ i2 = .int .i64 r ∧ Hid (Keeps (fun _ => False) w7 wr)) (fun i _ => n - (intOf i).toNat)
          case atStart => exact ⟨0, Nat.zero_le _, rfl, Keeps.refl _ _⟩
          case round =>
            obtain ⟨r, hr, rfl, HK⟩ := hrel
            by_cases hrn : r < n
            · have j1 : (r : Int) < n := by omega
              have HA1 := Lib.hid (HAB.out wr (HKB.out.then_ HK.out) r hrn)
              obtain ⟨x0, x1, x2, x3, x4, x5, x6⟩ := cells7 (HK.out.blk HBX7.out (fun h => h))
              have hzb := blkLt (HK.out.blk HBX7.out (fun h => h))
              have HAR : Hid (∀ s : Nat, s < n → decide ((s : Int) ∈ (ab r).map Int.ofNat) = fB r s) := fun s hs => HABV.out r s hs
              have hal := HABL.out r
              generalize (ab r).map Int.ofNat = L at *
              go_wp2_with fail
              refine HA1.out.mono ?_
              clear HA1 x0 x1 x2 x3 x4 x5 x6 hzb
              rintro ee w8 ⟨v, rfl, hov, hk8⟩
              have HK8 := Lib.hid (HK.out.then_ hk8)
              obtain ⟨_, AL, cL, rfl, hcL, hrowL⟩ := ownedRow1 hov
              have HRL := Lib.hid hrowL
              clear hk8 hov hrowL
              go_wp2_with fail
              go_loopw [146] (fun i2 wr => ∃ s : Nat, s ≤ n ∧ i2 = .int .i64 s ∧ Hid (Keeps (fun _ => False) w8 wr)) (fun i _ => n - (intOf i).toNat)
              case atStart => exact ⟨0, Nat.zero_le _, rfl, Keeps.refl _ _⟩
              case round =>
                obtain ⟨s, hs, rfl, HKS⟩ := hrel
                by_cases hsn : s < n
                · have j2 : (s : Int) < n := by omega
                  have HKU := Lib.hid (HK8.out.then_ HKS.out)
                  have HKV := Lib.hid (HKB.out.then_ HKU.out)
                  obtain ⟨g, cap, ec, hcap, hcells⟩ := HBF7.out.keep HKU.out r hrn
                  have ecs := hcells s hsn
                  have HHS : Hid (∀ W, Keeps (fun _ => False) wr W → Calls Tryz.prog 27 #[.slice AL L.length cL, .int .i64 s] W fun e w' => e = .returned (.bool (fB r s)) ∧ Keeps (fun _ => False) W w') := fun W hk => by
                    have h := has_calls L s _ AL cL W (HRL.out.keep (HKS.out.then_ hk) (fun _ _ h => h)) (by omega)
                    rw [HAR.out s hsn] at h
                    exact h
                  have HHQ : Hid (∀ n1 : Nat, Calls Tryz.prog 27 #[.slice AL L.length cL, .int .i64 s] (wr.drewN n1) fun e w' => e = .returned (.bool (fB r s)) ∧ w' = wr.drewN n1) := fun n1 => by
                    have h := has_same L s _ AL cL (wr.drewN n1) (HRL.out.keep (HKS.out.drewN n1) (fun _ _ h => h)) (by omega)
                    rw [HAR.out s hsn] at h
                    exact h
                  have HW2 : Hid (okv = true → fB r s = true → ∀ W, Keeps (fun _ => False) w W → Calls Tryz.prog 28 #[.agg #[.slice a0 b.cs.length c0, .slice a1 b.rs.length c1, .slice a2 b.is.length c2], .agg #[.int .i64 i.size, .slice q0 i.cons.length e0, .slice q1 i.roles.length e1, .slice q2 i.inds.length e2], .int .i64 r, .int .i64 s] W fun e w' => e = .returned (.bool true) ∧ Keeps (fun _ => False) W w') := fun h1 h2 W hk => HWI.out W hk r s hrn hsn h1 h2
                  have HT3 : Hid (∀ u, fB r s = true → fB s u = true → fB r u = true) := fun u h1 h2 => HTRN.out r s u h1 h2
                  have hbxx := HKU.out.blk HBX7.out (fun h => h)
                  have hixx := HKU.out.blk HIX7.out (fun h => h)
                  have HP0 : Hid (∀ w', Keeps (fun _ => False) wr w' → w'.cell? ⟨t, r, none⟩ = some (.slice (some ⟨g, 0, none⟩) n cap) ∧ w'.cell? ⟨g, s, none⟩ = some (.bool (fB r s)) ∧ w'.cell? ⟨w.heap.size, 0, none⟩ = some (.slice a0 b.cs.length c0) ∧ w'.cell? ⟨w.heap.size, 1, none⟩ = some (.slice a1 b.rs.length c1) ∧ w'.cell? ⟨w.heap.size, 2, none⟩ = some (.slice a2 b.is.length c2) ∧ w'.cell? ⟨w.heap.size + 1, 0, none⟩ = some (.int .i64 i.size) ∧ w'.cell? ⟨w.heap.size + 1, 1, none⟩ = some (.slice q0 i.cons.length e0) ∧ w'.cell? ⟨w.heap.size + 1, 2, none⟩ = some (.slice q1 i.roles.length e1) ∧ w'.cell? ⟨w.heap.size + 1, 3, none⟩ = some (.slice q2 i.inds.length e2)) := fun w' hk => by
                    obtain ⟨x0, x1, x2, x3, x4, x5, x6⟩ := cells7 (hk.blk hbxx (fun h => h))
                    obtain ⟨y0, y1, y2, y3⟩ := cells4 (hk.blk hixx (fun h => h))
                    exact ⟨hk.cell ec (fun h => h), hk.cell ecs (fun h => h), x0, x1, x2, y0, y1, y2, y3⟩
                  have HROW : Hid (∀ u, u < n → wr.cell? ⟨g, u, none⟩ = some (.bool (fB r u))) := fun u hu => hcells u hu
                  clear hbxx hixx hcells ecs ec
                  generalize hx : fB r s = x at *
                  clear hx
                  go_wp2_with fail
                  go_cut [180] from 215 (fun v wc => v = .bool false ∧ Hid (Keeps (fun _ => False) wr wc))
                  case first =>
                    cases okv
                    · have HP := HP0
                      clear HP0 HW2 HT3 HROW
                      obtain ⟨z0, z1, z2, z3, z4, z5, z6, z7, z8⟩ := HP.out wr (Keeps.refl _ _)
                      go_quiet ((go_at_call 27; exact Calls.quiet_of_same (HHQ.out _)))
                      (try go_wp2_with fail)
                      go_meet
                      exact ⟨by first | rfl | simp, (by first | exact Keeps.refl _ _ | exact (Keeps.refl _ _).drewN _ | exact (Keeps.refl _ _).drew)⟩
                    · cases x
                      · have HP := HP0
                        clear HP0 HW2 HT3 HROW
                        obtain ⟨z0, z1, z2, z3, z4, z5, z6, z7, z8⟩ := HP.out wr (Keeps.refl _ _)
                        go_quiet ((go_at_call 27; exact Calls.quiet_of_same (HHQ.out _)))
                        (try go_wp2_with fail)
                        go_meet
                        exact ⟨by first | rfl | simp, (by first | exact Keeps.refl _ _ | exact (Keeps.refl _ _).drewN _ | exact (Keeps.refl _ _).drew)⟩
                      · have HP := HP0
                        have HWX := Lib.hid (HW2.out rfl rfl)
                        clear HP0 HW2 HT3 HROW
                        go_region_held3 (fun w' => w'.cell? ⟨t, r, none⟩ = some (.slice (some ⟨g, 0, none⟩) n cap) ∧ w'.cell? ⟨g, s, none⟩ = some (.bool true) ∧ w'.cell? ⟨w.heap.size, 0, none⟩ = some (.slice a0 b.cs.length c0) ∧ w'.cell? ⟨w.heap.size, 1, none⟩ = some (.slice a1 b.rs.length c1) ∧ w'.cell? ⟨w.heap.size, 2, none⟩ = some (.slice a2 b.is.length c2) ∧ w'.cell? ⟨w.heap.size + 1, 0, none⟩ = some (.int .i64 i.size) ∧ w'.cell? ⟨w.heap.size + 1, 1, none⟩ = some (.slice q0 i.cons.length e0) ∧ w'.cell? ⟨w.heap.size + 1, 2, none⟩ = some (.slice q1 i.roles.length e1) ∧ w'.cell? ⟨w.heap.size + 1, 3, none⟩ = some (.slice q2 i.inds.length e2))
                        (first
                          | exact HP.out _ (Keeps.refl _ _)
                          | exact HP.out _ (Keeps.refl _ _).drew
                          | exact HP.out _ ((Keeps.refl _ _).drew.then_ HK10.out)
                          | exact HP.out _ (((Keeps.refl _ _).drew.then_ HK10.out).then_ HK11.out))
                        ((first
                          | (go_at_call 27; refine (HHS.out _ (by first | exact Keeps.refl _ _ | exact (Keeps.refl _ _).drew)).mono ?_; rintro ee w10 ⟨rfl, hk10⟩; have HK10 := Lib.hid hk10; clear hk10)
                          
                          | (go_at_call 28; refine (HWX.out _ (HKV.out.then_ ((Keeps.refl _ _).drew.then_ HK10.out))).mono ?_; rintro ee w11 ⟨rfl, hk11⟩; have HK11 := Lib.hid hk11; clear hk11)
                          | fail))
                        (try go_wp2_with fail)
                        go_meet
                        exact ⟨by first | rfl | simp, (by first | exact (Keeps.refl _ _).drew.then_ HK10.out | exact ((Keeps.refl _ _).drew.then_ HK10.out).then_ HK11.out)⟩
                  case rest =>
                    obtain ⟨rfl, HKC⟩ := hcut
                    obtain ⟨w9, hw9⟩ : ∃ y, y = wc := ⟨_, rfl⟩
                    subst hw9
                    clear HW2 HHS HHQ HAR HRL HWI HABV HTRN HABL HAB
                    go_wp2_with fail
                    go_loopw [182] (fun i2 wt => ∃ u : Nat, u ≤ n ∧ i2 = .int .i64 u ∧ Hid (Keeps (fun _ => False) w9 wt)) (fun i _ => n - (intOf i).toNat)
                    case atStart => exact ⟨0, Nat.zero_le _, rfl, Keeps.refl _ _⟩
                    case round =>
                      obtain ⟨u, hu, rfl, HKT⟩ := hrel
                      by_cases hun : u < n
                      · have j3 : (u : Int) < n := by omega
                        have hkt := HKC.out.then_ HKT.out
                        obtain ⟨z0, z1, _⟩ := HP0.out _ hkt
                        have z2 := hkt.cell (HROW.out u hun) (fun h => h)
                        obtain ⟨g2, cap2, z3, hcap2, hc2⟩ := HBF7.out.keep (HKU.out.then_ hkt) s hsn
                        have z4 := hc2 u hun
                        have HT4 := Lib.hid (HT3.out u)
                        clear hkt hc2
                        generalize fB r u = x3 at *
                        generalize fB s u = x2 at *
                        cases x <;> cases x2 <;> cases x3
                        all_goals
                          first
                            | (exfalso; have h := HT4.out rfl rfl; cases h; done)
                            | (clear HT4 HT3
                               go_wp2_with fail
                               go_roundw
                               case rel => exact ⟨u + 1, by omega, by go_num, HKT⟩
                               case measure => simp [intOf]; omega)
                      · obtain rfl : n = u := by omega
                        go_wp2_with fail
                        go_roundw
                        case rel => exact ⟨s + 1, by omega, by go_num, HKS.out.then_ (HKC.out.then_ HKT.out)⟩
                        case measure => simp [intOf]; omega
                · obtain rfl : n = s := by omega
                  go_wp2_with fail
                  go_roundw
                  case rel => exact ⟨r + 1, by omega, by go_num, HK8.out.then_ HKS.out⟩
                  case measure => simp [intOf]; omega
            · obtain rfl : n = r := by omega
              go_wp2_with fail
              refine (HAW.out _ (HKB.out.then_ HK.out)).mono ?_
              rintro ee w9 ⟨rfl, hk9⟩
              go_wp2_with fail
              go_ret
              exact ⟨rfl, (HKB.out.then_ HK.out).then_ hk9⟩
end Go.Proofs.YtknonaboaaiabaaGreatDoor
