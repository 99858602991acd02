/- Increasing lists of numbers, and membership: kb.Rising, and the reference's Rising and Has. -/
import Derived.Test.YthiclhbnggehoaaGreatDoorBase
import Derived.IntWalk
import Derived.Deep.RegionHeld3
namespace Go.Proofs.YthiclhbnggehoaaGreatDoor
open Go.RowKit
set_option linter.unusedVariables false
set_option linter.unusedSimpArgs false
abbrev IntsR (ok : Nat → Prop) (w : World) (l : List Int) (A : Option Addr) : Prop := Row1 ok w (Value.int .i64) l A
set_option linter.unusedVariables false
set_option linter.unusedSimpArgs false
def lowO : Option Int → Int → Bool
  | none, _ => true
  | some y, x => decide (y < x)
def risL (n : Int) : Option Int → List Int → Bool
  | _, [] => true
  | p, x :: r => (decide (0 ≤ x ∧ x < n) && lowO p x) && risL n (some x) r
/-- Strictly rising, from 0 to n - 1. -/
def risingB (l : List Int) (n : Int) : Bool := risL n none l
def prevO (l : List Int) (k : Nat) : Option Int := if k = 0 then none else l[k - 1]?
theorem risL_bad {l : List Int} {n : Int} {k : Nat} (h : k < l.length) (hb : l[k] < 0 ∨ n ≤ l[k]) : risL n (prevO l k) (l.drop k) = false := by
  rw [List.drop_eq_getElem_cons h]
  unfold risL
  rw [decide_eq_false (by omega)]; rfl
theorem risL_low {l : List Int} {n : Int} {k : Nat} (h : k + 1 < l.length) (hb : l[k + 1] ≤ l[k]) : risL n (prevO l (k + 1)) (l.drop (k + 1)) = false := by
  rw [List.drop_eq_getElem_cons h]
  unfold risL
  have e : prevO l (k + 1) = some l[k] := by unfold prevO; rw [if_neg (by omega)]; exact List.getElem?_eq_getElem (by omega)
  rw [e, show lowO (some l[k]) l[k + 1] = false from decide_eq_false (by omega), Bool.and_false]; rfl
theorem risL_first {l : List Int} {n : Int} (h : 0 < l.length) (h0 : 0 ≤ l[0]) (h1 : l[0] < n) : risL n (prevO l 0) (l.drop 0) = risL n (prevO l 1) (l.drop 1) := by
  rw [List.drop_eq_getElem_cons h]
  have e : prevO l (0 + 1) = some l[0] := by unfold prevO; simp
  rw [e]
  conv => lhs; unfold risL
  rw [decide_eq_true ⟨h0, h1⟩]; rfl
theorem risL_next {l : List Int} {n : Int} {k : Nat} (h : k + 1 < l.length) (h0 : 0 ≤ l[k + 1]) (h1 : l[k + 1] < n) (h2 : l[k] < l[k + 1]) : risL n (prevO l (k + 1)) (l.drop (k + 1)) = risL n (prevO l (k + 2)) (l.drop (k + 2)) := by
  rw [List.drop_eq_getElem_cons h]
  have e : prevO l (k + 1) = some l[k] := by unfold prevO; rw [if_neg (by omega)]; exact List.getElem?_eq_getElem (by omega)
  have e2 : prevO l (k + 2) = some l[k + 1] := by unfold prevO; rw [if_neg (by omega)]; exact List.getElem?_eq_getElem h
  rw [e, e2]
  conv => lhs; unfold risL
  rw [decide_eq_true ⟨h0, h1⟩, show lowO (some l[k]) l[k + 1] = true from decide_eq_true h2]; rfl
set_option maxRecDepth 100000 in
set_option maxHeartbeats 4000000 in
theorem kbRising_calls (l : List Int) (n : Int) (ok : Nat → Prop) (A : Option Addr) (cap : Nat) (w : World) (hl : IntsR ok w l A) (hlen : l.length ≤ 9223372036854775807) :
    Calls Tryz.prog 52 #[.slice A l.length cap, .int .i64 n] w fun e w' => e = .returned (.bool (risingB l n)) ∧ Keeps (fun _ => False) w w' := by
  have HL := Lib.hid hl
  have HV : Hid (risingB l n = risL n (prevO l 0) (l.drop 0)) := by unfold Hid; rfl
  generalize risingB l n = rv at *
  clear hl
  go_enter Tryz.func52, Tryz.ntmps52
  go_wp2_with fail
  go_loopw [9] (fun i wr => ∃ k : Nat, k ≤ l.length ∧ i = .int .i64 k ∧ Hid (rv = risL n (prevO l k) (l.drop k)) ∧ Hid (Keeps (fun _ => False) w wr)) (fun i _ => l.length - (intOf i).toNat)
  case atStart => exact ⟨0, Nat.zero_le _, rfl, HV, Keeps.refl _ _⟩
  case round =>
    obtain ⟨k, hk, rfl, HI, HK⟩ := hrel
    by_cases hlt : k < l.length
    · obtain ⟨b, o, rfl, _, hc⟩ := (HL.out.keep HK.out (fun _ _ h => h)) (by intro h; subst h; simp at hlt)
      have e0 := hc k hlt
      have i1 : (k : Int) < l.length := by omega
      have HBAD := Lib.hid (fun hb => risL_bad (n := n) hlt hb)
      rcases k with _ | k
      · have HFST := Lib.hid (fun h0 h1 => risL_first (n := n) hlt h0 h1)
        generalize hx : l[0] = x at *
        clear hc hx
        simp only [Nat.add_zero] at e0
        by_cases hb : x < 0
        · have HO : Hid (rv = false) := by unfold Hid; rw [HI.out, HBAD.out (.inl hb)]
          clear HI HBAD HFST
          go_wp2_with fail
          go_ret
          exact ⟨by rw [HO.out]; rfl, HK.out⟩
        by_cases hb2 : n ≤ x
        · have HO : Hid (rv = false) := by unfold Hid; rw [HI.out, HBAD.out (.inr hb2)]
          clear HI HBAD HFST
          go_wp2_with fail
          go_ret
          exact ⟨by rw [HO.out]; rfl, HK.out⟩
        have HO : Hid (rv = risL n (prevO l (0 + 1)) (l.drop (0 + 1))) := by unfold Hid; rw [HI.out, HFST.out (by omega) (by omega)]
        clear HI HBAD HFST
        go_wp2_with fail
        go_roundw
        case rel => exact ⟨0 + 1, by omega, by go_num, HO, HK⟩
        case measure => simp [intOf]; omega
      · have e1 := hc k (by omega)
        have HLOW := Lib.hid (fun hb => risL_low (n := n) hlt hb)
        have HNXT := Lib.hid (fun h0 h1 h2 => risL_next (n := n) hlt h0 h1 h2)
        generalize hx : l[k + 1] = x at *
        generalize hy : l[k] = y at *
        clear hc hx hy
        have e2 : ((k + 1 : Nat) : Int) - 1 = (k : Int) := by omega
        by_cases hb : x < 0
        · have HO : Hid (rv = false) := by unfold Hid; rw [HI.out, HBAD.out (.inl hb)]
          clear HI HBAD HLOW HNXT
          go_wp2_with fail
          go_ret
          exact ⟨by rw [HO.out]; rfl, HK.out⟩
        by_cases hb2 : n ≤ x
        · have HO : Hid (rv = false) := by unfold Hid; rw [HI.out, HBAD.out (.inr hb2)]
          clear HI HBAD HLOW HNXT
          go_wp2_with fail
          go_ret
          exact ⟨by rw [HO.out]; rfl, HK.out⟩
        by_cases hb3 : x ≤ y
        · have HO : Hid (rv = false) := by unfold Hid; rw [HI.out, HLOW.out hb3]
          clear HI HBAD HLOW HNXT
          go_wp2_with fail
          go_ret
          exact ⟨by rw [HO.out]; rfl, HK.out⟩
        have HO : Hid (rv = risL n (prevO l (k + 2)) (l.drop (k + 2))) := by unfold Hid; rw [HI.out, HNXT.out (by omega) (by omega) (by omega)]
        clear HI HBAD HLOW HNXT
        go_wp2_with fail
        go_roundw
        case rel => exact ⟨k + 2, by omega, by go_num, HO, HK⟩
        case measure => simp [intOf]; omega
    · obtain rfl : k = l.length := by omega
      have HO : Hid (rv = true) := by unfold Hid; rw [HI.out, List.drop_length]; unfold risL; rfl
      clear HI
      go_wp2_with fail
      go_ret
      exact ⟨by rw [HO.out]; rfl, HK.out⟩
set_option maxRecDepth 100000 in
set_option maxHeartbeats 4000000 in
theorem refRising_calls (l : List Int) (n : Int) (ok : Nat → Prop) (A : Option Addr) (cap : Nat) (w : World) (hl : IntsR ok w l A) (hlen : l.length ≤ 9223372036854775807) :
    Calls Tryz.prog 24 #[.slice A l.length cap, .int .i64 n] w fun e w' => e = .returned (.bool (risingB l n)) ∧ Keeps (fun _ => False) w w' := by
  have HL := Lib.hid hl
  have HV : Hid (risingB l n = risL n (prevO l 0) (l.drop 0)) := by unfold Hid; rfl
  generalize risingB l n = rv at *
  clear hl
  go_enter Tryz.func24, Tryz.ntmps24
  go_wp2_with fail
  go_loopw [9] (fun i wr => ∃ k : Nat, k ≤ l.length ∧ i = .int .i64 k ∧ Hid (rv = risL n (prevO l k) (l.drop k)) ∧ Hid (Keeps (fun _ => False) w wr)) (fun i _ => l.length - (intOf i).toNat)
  case atStart => exact ⟨0, Nat.zero_le _, rfl, HV, Keeps.refl _ _⟩
  case round =>
    obtain ⟨k, hk, rfl, HI, HK⟩ := hrel
    by_cases hlt : k < l.length
    · obtain ⟨b, o, rfl, _, hc⟩ := (HL.out.keep HK.out (fun _ _ h => h)) (by intro h; subst h; simp at hlt)
      have e0 := hc k hlt
      have i1 : (k : Int) < l.length := by omega
      have HBAD := Lib.hid (fun hb => risL_bad (n := n) hlt hb)
      rcases k with _ | k
      · have HFST := Lib.hid (fun h0 h1 => risL_first (n := n) hlt h0 h1)
        generalize hx : l[0] = x at *
        clear hc hx
        simp only [Nat.add_zero] at e0
        by_cases hb : x < 0
        · have HO : Hid (rv = false) := by unfold Hid; rw [HI.out, HBAD.out (.inl hb)]
          clear HI HBAD HFST
          go_wp2_with fail
          go_ret
          exact ⟨by rw [HO.out]; rfl, HK.out⟩
        by_cases hb2 : n ≤ x
        · have HO : Hid (rv = false) := by unfold Hid; rw [HI.out, HBAD.out (.inr hb2)]
          clear HI HBAD HFST
          go_wp2_with fail
          go_ret
          exact ⟨by rw [HO.out]; rfl, HK.out⟩
        have HO : Hid (rv = risL n (prevO l (0 + 1)) (l.drop (0 + 1))) := by unfold Hid; rw [HI.out, HFST.out (by omega) (by omega)]
        clear HI HBAD HFST
        go_wp2_with fail
        go_roundw
        case rel => exact ⟨0 + 1, by omega, by go_num, HO, HK⟩
        case measure => simp [intOf]; omega
      · have e1 := hc k (by omega)
        have HLOW := Lib.hid (fun hb => risL_low (n := n) hlt hb)
        have HNXT := Lib.hid (fun h0 h1 h2 => risL_next (n := n) hlt h0 h1 h2)
        generalize hx : l[k + 1] = x at *
        generalize hy : l[k] = y at *
        clear hc hx hy
        have e2 : ((k + 1 : Nat) : Int) - 1 = (k : Int) := by omega
        by_cases hb : x < 0
        · have HO : Hid (rv = false) := by unfold Hid; rw [HI.out, HBAD.out (.inl hb)]
          clear HI HBAD HLOW HNXT
          go_wp2_with fail
          go_ret
          exact ⟨by rw [HO.out]; rfl, HK.out⟩
        by_cases hb2 : n ≤ x
        · have HO : Hid (rv = false) := by unfold Hid; rw [HI.out, HBAD.out (.inr hb2)]
          clear HI HBAD HLOW HNXT
          go_wp2_with fail
          go_ret
          exact ⟨by rw [HO.out]; rfl, HK.out⟩
        by_cases hb3 : x ≤ y
        · have HO : Hid (rv = false) := by unfold Hid; rw [HI.out, HLOW.out hb3]
          clear HI HBAD HLOW HNXT
          go_wp2_with fail
          go_ret
          exact ⟨by rw [HO.out]; rfl, HK.out⟩
        have HO : Hid (rv = risL n (prevO l (k + 2)) (l.drop (k + 2))) := by unfold Hid; rw [HI.out, HNXT.out (by omega) (by omega) (by omega)]
        clear HI HBAD HLOW HNXT
        go_wp2_with fail
        go_roundw
        case rel => exact ⟨k + 2, by omega, by go_num, HO, HK⟩
        case measure => simp [intOf]; omega
    · obtain rfl : k = l.length := by omega
      have HO : Hid (rv = true) := by unfold Hid; rw [HI.out, List.drop_length]; unfold risL; rfl
      clear HI
      go_wp2_with fail
      go_ret
      exact ⟨by rw [HO.out]; rfl, HK.out⟩
theorem listAll_drop {α : Type} (p : α → Bool) {l : List α} {k : Nat} (h : k < l.length) : (l.drop k).all p = (p l[k] && (l.drop (k + 1)).all p) := by
  rw [List.drop_eq_getElem_cons h]; rfl
set_option linter.unusedVariables false
set_option linter.unusedSimpArgs false
theorem elemDrop {l : List Int} {k : Nat} (n : Int) (h : k < l.length) : decide (n ∈ l.drop k) = (decide (l[k] = n) || decide (n ∈ l.drop (k + 1))) := by
  rw [List.drop_eq_getElem_cons h, Bool.eq_iff_iff]
  simp only [List.mem_cons, decide_eq_true_eq, Bool.or_eq_true]
  exact or_congr_left eq_comm
set_option maxRecDepth 100000 in
set_option maxHeartbeats 4000000 in
theorem has_calls (l : List Int) (n : Int) (ok : Nat → Prop) (A : Option Addr) (cap : Nat) (w : World) (hl : IntsR ok w l A) (hlen : l.length ≤ 9223372036854775807) :
    Calls Tryz.prog 43 #[.slice A l.length cap, .int .i64 n] w fun e w' => e = .returned (.bool (decide (n ∈ l))) ∧ Keeps (fun _ => False) w w' := by
  have HL := Lib.hid hl
  have HV : Hid (decide (n ∈ l) = decide (n ∈ l.drop 0)) := by unfold Hid; rfl
  generalize decide (n ∈ l) = rv at *
  clear hl
  go_enter Tryz.func43, Tryz.ntmps43
  go_wp2_with fail
  go_loopw [6, 9] (fun _ i wr => ∃ k : Nat, k ≤ l.length ∧ i = .int .i64 k ∧ Hid (rv = decide (n ∈ l.drop k)) ∧ Hid (Keeps (fun _ => False) w wr)) (fun _ i _ => l.length - (intOf i).toNat)
  case atStart => exact ⟨0, Nat.zero_le _, rfl, HV, Keeps.refl _ _⟩
  case round =>
    obtain ⟨k, hk, rfl, HI, HK⟩ := hrel
    by_cases hlt : k < l.length
    · obtain ⟨b, o, rfl, _, hc⟩ := HL.out.keep HK.out (fun _ _ h => h) (by intro h; subst h; simp at hlt)
      have e0 := hc k hlt
      have HST := Lib.hid (elemDrop n hlt)
      have i1 : (k : Int) < l.length := by omega
      generalize l[k] = x at *
      clear hc
      by_cases he : x = n
      · have HO : Hid (rv = true) := by unfold Hid; rw [HI.out, HST.out, decide_eq_true he]; rfl
        clear HI HST
        go_wp2_with fail
        go_ret
        exact ⟨by rw [HO.out]; rfl, HK.out⟩
      · have HO : Hid (rv = decide (n ∈ l.drop (k + 1))) := by unfold Hid; rw [HI.out, HST.out, decide_eq_false he]; rfl
        have he' : decide (x = n) = false := decide_eq_false he
        clear HI HST
        go_wp2_with fail
        go_roundw
        case rel => exact ⟨k + 1, by omega, by go_num, HO, HK⟩
        case measure => simp [intOf]; omega
    · obtain rfl : k = l.length := by omega
      have HO : Hid (rv = false) := by unfold Hid; rw [HI.out, List.drop_length]; rfl
      go_wp2_with fail
      go_ret
      exact ⟨by rw [HO.out]; rfl, HK.out⟩
set_option maxRecDepth 100000 in
set_option maxHeartbeats 4000000 in
theorem has_same (l : List Int) (n : Int) (ok : Nat → Prop) (A : Option Addr) (cap : Nat) (w : World) (hl : IntsR ok w l A) (hlen : l.length ≤ 9223372036854775807) :
    Calls Tryz.prog 43 #[.slice A l.length cap, .int .i64 n] w fun e w' => e = .returned (.bool (decide (n ∈ l))) ∧ w' = w := by
  have HL := Lib.hid hl
  have HV : Hid (decide (n ∈ l) = decide (n ∈ l.drop 0)) := by unfold Hid; rfl
  generalize decide (n ∈ l) = rv at *
  clear hl
  go_enter Tryz.func43, Tryz.ntmps43
  go_wp2_with fail
  go_loop [6, 9] (fun _ i => ∃ k : Nat, k ≤ l.length ∧ i = .int .i64 k ∧ Hid (rv = decide (n ∈ l.drop k))) (fun _ i => l.length - (intOf i).toNat)
  case atStart => exact ⟨0, Nat.zero_le _, rfl, HV⟩
  case round =>
    obtain ⟨k, hk, rfl, HI⟩ := hrel
    by_cases hlt : k < l.length
    · obtain ⟨b, o, rfl, _, hc⟩ := HL.out (by intro h; subst h; simp at hlt)
      have e0 := hc k hlt
      have HST := Lib.hid (elemDrop n hlt)
      have i1 : (k : Int) < l.length := by omega
      generalize l[k] = x at *
      clear hc
      by_cases he : x = n
      · have HO : Hid (rv = true) := by unfold Hid; rw [HI.out, HST.out, decide_eq_true he]; rfl
        clear HI HST
        go_wp2_with fail
        go_ret
        exact ⟨by rw [HO.out]; rfl, rfl⟩
      · have HO : Hid (rv = decide (n ∈ l.drop (k + 1))) := by unfold Hid; rw [HI.out, HST.out, decide_eq_false he]; rfl
        have he' : decide (x = n) = false := decide_eq_false he
        clear HI HST
        go_wp2_with fail
        go_round
        case rel => exact ⟨k + 1, by omega, by go_num, HO⟩
        case measure => simp [intOf]; omega
    · obtain rfl : k = l.length := by omega
      have HO : Hid (rv = false) := by unfold Hid; rw [HI.out, List.drop_length]; rfl
      go_wp2_with fail
      go_ret
      exact ⟨by rw [HO.out]; rfl, rfl⟩
end Go.Proofs.YthiclhbnggehoaaGreatDoor
