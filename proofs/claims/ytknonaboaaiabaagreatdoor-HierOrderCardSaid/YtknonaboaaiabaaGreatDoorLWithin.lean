/- The reference's Has: whether a list of ints contains a number. -/
import Derived.Test.YtknonaboaaiabaaGreatDoorItp
import Derived.Test.YtknonaboaaiabaaGreatDoorItpTrue
namespace Go.Proofs.YtknonaboaaiabaaGreatDoor
open Go.RowKit
set_option linter.unusedVariables false
set_option linter.unusedSimpArgs false
theorem elemDrop {l : List Int} {k : Nat} (n : Int) (h : k < l.length) : decide (n ∈ l.drop k) = (decide (l[k] = n) || decide (n ∈ l.drop (k + 1))) := by
  rw [List.drop_eq_getElem_cons h, Bool.eq_iff_iff]
  simp only [List.mem_cons, decide_eq_true_eq, Bool.or_eq_true]
  exact or_congr_left eq_comm
set_option maxRecDepth 100000 in
set_option maxHeartbeats 4000000 in
theorem has_calls (l : List Int) (n : Int) (ok : Nat → Prop) (A : Option Addr) (cap : Nat) (w : World) (hl : IntsR ok w l A) (hlen : l.length ≤ 9223372036854775807) :
    Calls Tryz.prog 27 #[.slice A l.length cap, .int .i64 n] w fun e w' => e = .returned (.bool (decide (n ∈ l))) ∧ Keeps (fun _ => False) w w' := by
  have HL := Lib.hid hl
  have HV : Hid (decide (n ∈ l) = decide (n ∈ l.drop 0)) := by unfold Hid; rfl
  generalize decide (n ∈ l) = rv at *
  clear hl
  go_enter Tryz.func27, Tryz.ntmps27
  go_wp2_with fail
  go_loopw [6, 9] (fun _ i wr => ∃ k : Nat, k ≤ l.length ∧ i = .int .i64 k ∧ Hid (rv = decide (n ∈ l.drop k)) ∧ Hid (Keeps (fun _ => False) w wr)) (fun _ i _ => l.length - (intOf i).toNat)
  case atStart => exact ⟨0, Nat.zero_le _, rfl, HV, Keeps.refl _ _⟩
  case round =>
    obtain ⟨k, hk, rfl, HI, HK⟩ := hrel
    by_cases hlt : k < l.length
    · obtain ⟨b, o, rfl, _, hc⟩ := HL.out.keep HK.out (fun _ _ h => h) (by intro h; subst h; simp at hlt)
      have e0 := hc k hlt
      have HST := Lib.hid (elemDrop n hlt)
      have i1 : (k : Int) < l.length := by omega
      generalize l[k] = x at *
      clear hc
      by_cases he : x = n
      · have HO : Hid (rv = true) := by unfold Hid; rw [HI.out, HST.out, decide_eq_true he]; rfl
        clear HI HST
        go_wp2_with fail
        go_ret
        exact ⟨by rw [HO.out]; rfl, HK.out⟩
      · have HO : Hid (rv = decide (n ∈ l.drop (k + 1))) := by unfold Hid; rw [HI.out, HST.out, decide_eq_false he]; rfl
        have he' : decide (x = n) = false := decide_eq_false he
        clear HI HST
        go_wp2_with fail
        go_roundw
        case rel => exact ⟨k + 1, by omega, by go_num, HO, HK⟩
        case measure => simp [intOf]; omega
    · obtain rfl : k = l.length := by omega
      have HO : Hid (rv = false) := by unfold Hid; rw [HI.out, List.drop_length]; rfl
      go_wp2_with fail
      go_ret
      exact ⟨by rw [HO.out]; rfl, HK.out⟩
set_option maxRecDepth 100000 in
set_option maxHeartbeats 4000000 in
theorem has_same (l : List Int) (n : Int) (ok : Nat → Prop) (A : Option Addr) (cap : Nat) (w : World) (hl : IntsR ok w l A) (hlen : l.length ≤ 9223372036854775807) :
    Calls Tryz.prog 27 #[.slice A l.length cap, .int .i64 n] w fun e w' => e = .returned (.bool (decide (n ∈ l))) ∧ w' = w := by
  have HL := Lib.hid hl
  have HV : Hid (decide (n ∈ l) = decide (n ∈ l.drop 0)) := by unfold Hid; rfl
  generalize decide (n ∈ l) = rv at *
  clear hl
  go_enter Tryz.func27, Tryz.ntmps27
  go_wp2_with fail
  go_loop [6, 9] (fun _ i => ∃ k : Nat, k ≤ l.length ∧ i = .int .i64 k ∧ Hid (rv = decide (n ∈ l.drop k))) (fun _ i => l.length - (intOf i).toNat)
  case atStart => exact ⟨0, Nat.zero_le _, rfl, HV⟩
  case round =>
    obtain ⟨k, hk, rfl, HI⟩ := hrel
    by_cases hlt : k < l.length
    · obtain ⟨b, o, rfl, _, hc⟩ := HL.out (by intro h; subst h; simp at hlt)
      have e0 := hc k hlt
      have HST := Lib.hid (elemDrop n hlt)
      have i1 : (k : Int) < l.length := by omega
      generalize l[k] = x at *
      clear hc
      by_cases he : x = n
      · have HO : Hid (rv = true) := by unfold Hid; rw [HI.out, HST.out, decide_eq_true he]; rfl
        clear HI HST
        go_wp2_with fail
        go_ret
        exact ⟨by rw [HO.out]; rfl, rfl⟩
      · have HO : Hid (rv = decide (n ∈ l.drop (k + 1))) := by unfold Hid; rw [HI.out, HST.out, decide_eq_false he]; rfl
        have he' : decide (x = n) = false := decide_eq_false he
        clear HI HST
        go_wp2_with fail
        go_round
        case rel => exact ⟨k + 1, by omega, by go_num, HO⟩
        case measure => simp [intOf]; omega
    · obtain rfl : k = l.length := by omega
      have HO : Hid (rv = false) := by unfold Hid; rw [HI.out, List.drop_length]; rfl
      go_wp2_with fail
      go_ret
      exact ⟨by rw [HO.out]; rfl, rfl⟩
end Go.Proofs.YtknonaboaaiabaaGreatDoor
/- The law's within: where each pair of r is a pair of s it answers true. -/
namespace Go.Proofs.YtknonaboaaiabaaGreatDoor
open Go.RowKit
set_option linter.unusedVariables false
set_option linter.unusedSimpArgs false
set_option maxRecDepth 100000 in
set_option maxHeartbeats 4000000 in
theorem lawWithin_calls (cs rs is : List ByteArray) (A0 A1 A2 : Option Addr) (d0 d1 d2 : Nat) (i : Itp) (q : ItpA) (ok : Nat → Prop) (w : World) (r s : Nat) (m : Int) (hm : w.cell? ⟨2, 0, none⟩ = some (.int .i64 m))
    (h0 : Row1 ok w Value.string cs A0) (h1 : Row1 ok w Value.string rs A1) (h2 : Row1 ok w Value.string is A2) (hl0 : cs.length ≤ d0) (hl1 : rs.length ≤ d1) (hl2 : is.length ≤ d2) (hs : ∀ s ∈ cs ++ rs ++ is, s.size ≤ maxLen) (hi : ItpR ok w i q) (hvn : validNamesB cs rs is = true) (hiv : isItpB cs.length rs.length is.length i = true) (hlen : ∀ l ∈ i.roles, l.length ≤ 1000)
    (hr : r < 2 * rs.length) (hs2 : s < 2 * rs.length) (hrs : rs.length ≤ 1000) (hin : ∀ p, memR i r p → memR i s p) :
    Calls Tryz.prog 28 #[.agg #[.slice A0 cs.length d0, .slice A1 rs.length d1, .slice A2 is.length d2], .agg #[.int .i64 i.size, .slice q.a0 i.cons.length q.c0, .slice q.a1 i.roles.length q.c1, .slice q.a2 i.inds.length q.c2], .int .i64 r, .int .i64 s] w fun e w' => e = .returned (.bool true) ∧ Keeps (fun _ => False) w w' := by
  have HPR := Lib.hid (fun W (hk : Keeps (fun _ => False) w W) (r : Nat) (hr : r < 2 * rs.length) => itpPairs_calls cs rs is A0 A1 A2 d0 d1 d2 i q ok W r m (hk.cell hm (fun h => h)) (h0.keep hk (fun _ _ h => h)) (h1.keep hk (fun _ _ h => h)) (h2.keep hk (fun _ _ h => h)) hl0 hl1 hl2 hs (hi.keep hk (fun _ _ h => h)) hvn hiv hlen hr hrs)
  have HIN := Lib.hid hin
  unfold RetPairs at HPR
  generalize memR i = mr at *
  obtain ⟨q0, q1, q2, e0, e1, e2⟩ := q
  dsimp only at HPR ⊢
  clear hm h0 h1 h2 hs hi hvn hiv hlen hin
  have hmm := @run_makeMap Tryz.prog
  go_enter Tryz.func28, Tryz.ntmps28
  go_wp2_with fail
  generalize hW0 : World.alloc _ _ = W0
  have hK0 : Keeps (fun _ => False) w W0 := by rw [← hW0]; repeat (first | exact Keeps.refl _ _ | refine Keeps.drewN ?_ _ | refine Keeps.drew ?_ | refine Keeps.alloc ?_ _ | refine Keeps.set ?_ (Or.inl (by rfl)) _)
  have hbx : W0.heap[w.heap.size]? = some (.cells #[.slice A0 cs.length d0, .slice A1 rs.length d1, .slice A2 is.length d2] 24 (0, 0)) := by rw [← hW0]; exact blkAlloc (blkNew rfl) _
  have hix : W0.heap[w.heap.size + 1]? = some (.cells #[.int .i64 i.size, .slice q0 i.cons.length e0, .slice q1 i.roles.length e1, .slice q2 i.inds.length e2] 37 (0, 0)) := by rw [← hW0]; exact blkNew (by simp)
  clear hW0
  refine (HPR.out W0 hK0 r hr).mono ?_
  rintro ee w1 ⟨lp, Ap, cp, rfl, hpp, hnp, hmp, hk1⟩
  have HK1 := Lib.hid (hK0.then_ hk1)
  have HBX := Lib.hid (hk1.blk hbx (fun h => h))
  have HIX := Lib.hid (hk1.blk hix (fun h => h))
  have HPP := Lib.hid hpp
  have HMP := Lib.hid hmp
  have hz0' := hK0.size
  clear hbx hix hk1 hK0 hpp hmp
  obtain ⟨x0, x1, x2⟩ := cells3 HBX.out
  obtain ⟨y0, y1, y2, y3⟩ := cells4 HIX.out
  have hz0 := blkLt HBX.out
  have hz1 := blkLt HIX.out
  go_wp2_with fail
  refine (HPR.out w1 HK1.out s hs2).mono ?_
  clear HPR x0 x1 x2 y0 y1 y2 y3 hz0 hz1
  rintro ee w2 ⟨lq, Aq, cq, rfl, hpq, hnq, hmq, hk2⟩
  have HK2 := Lib.hid (HK1.out.then_ hk2)
  have hz12 := hk2.size
  have HPP2 := Lib.hid (HPP.out.lim.keep hk2 (fun _ _ h => h))
  have HPQ := Lib.hid hpq.lim
  have HMQ := Lib.hid hmq
  clear hk2 hpq hmq HPP HBX HIX HK1
  go_wp2_with fail
  generalize hW3 : World.alloc _ _ = W3
  have hK3 : Keeps (fun _ => False) w2 W3 := by rw [← hW3]; repeat (first | exact Keeps.refl _ _ | refine Keeps.drewN ?_ _ | refine Keeps.drew ?_ | refine Keeps.alloc ?_ _ | refine Keeps.set ?_ (Or.inl (by rfl)) _)
  have hM3 : MapL W3 w2.heap.size valP Value.bool ([] : List ((Int × Int) × Bool)) := by rw [← hW3]; exact MapL.made w2
  have hz3 : W3.heap.size = w2.heap.size + 1 := by rw [← hW3]; simp
  clear hW3
  have HK3 := Lib.hid hK3
  have HM3 := Lib.hid hM3
  have HZ3 := Lib.hid hz3
  have HS3 : Hid (SetM ([] : List ((Int × Int) × Bool)) (lq.take 0)) := SetM.nil
  clear hK3 hM3 hz3
  have hqn : lq.length ≤ 9223372036854775807 := by omega
  have hpn : lp.length ≤ 9223372036854775807 := by omega
  go_loopw [15, 35] (fun _ i wr => ∃ (n : Nat) (L : List ((Int × Int) × Bool)), n ≤ lq.length ∧ i = .int .i64 n ∧ Hid (MapL wr w2.heap.size valP Value.bool L) ∧ Hid (SetM L (lq.take n)) ∧ Hid (Keeps (fun b => b = w2.heap.size) W3 wr)) (fun _ i _ => lq.length - (intOf i).toNat)
  case atStart => exact ⟨0, [], Nat.zero_le _, rfl, HM3, HS3, Keeps.refl _ _⟩
  case round =>
    obtain ⟨n, L, hn, rfl, HM, HS, HK⟩ := hrel
    by_cases hlt : n < lq.length
    · obtain ⟨bx, ox, rfl, hbx, hcx⟩ := (HPQ.out.keep HK3.out (fun _ _ h => h)).keep HK.out (fun b hb => by omega) (by intro h; subst h; simp at hlt)
      obtain ⟨f0, f1⟩ := hcx n hlt
      have HTK := Lib.hid (List.take_succ_eq_append_getElem hlt)
      have j1 : (n : Int) < lq.length := by omega
      generalize lq[n] = x at *
      obtain ⟨xa, xb⟩ := x
      dsimp only at f0 f1
      clear hcx hbx
      go_wp2_with (at_mapUpdate; refine wp_put rfl _ _ _ 153 rfl 4 keyPair Tryz.underlying153 w2.heap.size L (HM.out.keep ((Keeps.refl (fun _ => False) _).alloc _) (fun h => h)) rfl (xa, xb) rfl true rfl ?_; intro w6 hm6 hk6)
      go_roundw
      case rel => exact ⟨n + 1, _, by omega, by go_num, hm6, by unfold Hid; rw [HTK.out]; exact HS.out.put (xa, xb), (HK.out.alloc _).then_ hk6⟩
      case measure => simp [intOf]; omega
    · obtain rfl : n = lq.length := by omega
      have HS2 : Hid (SetM L lq) := by have h := HS.out; rw [List.take_length] at h; exact h
      have HPP4 := Lib.hid ((HPP2.out.keep HK3.out (fun _ _ h => h)).keep HK.out (fun b hb => by have := HK2.out.size; have := hb.2; omega))
      have HK4 : Hid (Keeps (fun _ => False) w wr) := (HK2.out.then_ HK3.out).trans HK.out (fun i hi => .inr (by have := HK2.out.size; omega))
      have HALL : Hid (∀ p ∈ lp, p ∈ lq) := fun p hp => (HMQ.out p).2 (HIN.out p ((HMP.out p).1 hp))
      obtain ⟨w4, hw4⟩ : ∃ x, x = wr := ⟨_, rfl⟩
      subst hw4
      clear HS HK HPP2 HPQ HM3 HS3 HMQ HMP HIN HK2 HK3 HZ3
      go_wp2_with fail
      go_loopw [17, 44] (fun _ i wr => ∃ n : Nat, n ≤ lp.length ∧ i = .int .i64 n ∧ Hid (Keeps (fun _ => False) w4 wr)) (fun _ i _ => lp.length - (intOf i).toNat)
      case atStart => exact ⟨0, Nat.zero_le _, rfl, Keeps.refl _ _⟩
      case round =>
        obtain ⟨n, hn, rfl, HK⟩ := hrel
        by_cases hlt : n < lp.length
        · obtain ⟨bx, ox, rfl, hbx, hcx⟩ := HPP4.out.keep HK.out (fun _ _ h => h) (by intro h; subst h; simp at hlt)
          obtain ⟨f0, f1⟩ := hcx n hlt
          have HIX := Lib.hid (HALL.out _ (List.getElem_mem hlt))
          have j1 : (n : Int) < lp.length := by omega
          generalize lp[n] = x at *
          obtain ⟨xa, xb⟩ := x
          dsimp only at f0 f1
          have HLK : Hid (((findL L (xa, xb)).map Value.bool).getD (.bool false) = .bool true) := by unfold Hid; rw [HS2.out (xa, xb), if_pos HIX.out]; rfl
          clear hcx hbx HIX
          go_wp2_with (at_lookup; refine wp_look rfl _ _ 153 false rfl 4 keyPair Tryz.underlying153 w2.heap.size L (HM.out.keep (HK.out.alloc _) (fun h => h)) rfl (.bool false) (zeroBool _) (xa, xb) rfl ?_; rw [HLK.out]; simp only [Bool.false_eq_true, if_false])
          go_roundw
          case rel => exact ⟨n + 1, by omega, by go_num, HK.out.alloc _⟩
          case measure => simp [intOf]; omega
        · obtain rfl : n = lp.length := by omega
          go_wp2_with fail
          go_ret
          exact ⟨rfl, HK4.out.then_ HK.out⟩
end Go.Proofs.YtknonaboaaiabaaGreatDoor
