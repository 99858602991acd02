/- Rising lists: the program's and the reference's. -/
import Derived.Test.YtknonaboaaiabaaGreatDoorItp
import Derived.Test.YtknonaboaaiabaaGreatDoorConsRow
import Derived.IntWalk
import Derived.Deep.RegionHeld3
namespace Go.Proofs.YtknonaboaaiabaaGreatDoor
open Go.RowKit
set_option linter.unusedVariables false
set_option linter.unusedSimpArgs false
def lowO : Option Int → Int → Bool
  | none, _ => true
  | some y, x => decide (y < x)
def risL (n : Int) : Option Int → List Int → Bool
  | _, [] => true
  | p, x :: r => (decide (0 ≤ x ∧ x < n) && lowO p x) && risL n (some x) r
/-- Strictly rising, from 0 to n - 1. -/
def risingB (l : List Int) (n : Int) : Bool := risL n none l
def prevO (l : List Int) (k : Nat) : Option Int := if k = 0 then none else l[k - 1]?
theorem risL_bad {l : List Int} {n : Int} {k : Nat} (h : k < l.length) (hb : l[k] < 0 ∨ n ≤ l[k]) : risL n (prevO l k) (l.drop k) = false := by
  rw [List.drop_eq_getElem_cons h]
  unfold risL
  rw [decide_eq_false (by omega)]; rfl
theorem risL_low {l : List Int} {n : Int} {k : Nat} (h : k + 1 < l.length) (hb : l[k + 1] ≤ l[k]) : risL n (prevO l (k + 1)) (l.drop (k + 1)) = false := by
  rw [List.drop_eq_getElem_cons h]
  unfold risL
  have e : prevO l (k + 1) = some l[k] := by unfold prevO; rw [if_neg (by omega)]; exact List.getElem?_eq_getElem (by omega)
  rw [e, show lowO (some l[k]) l[k + 1] = false from decide_eq_false (by omega), Bool.and_false]; rfl
theorem risL_first {l : List Int} {n : Int} (h : 0 < l.length) (h0 : 0 ≤ l[0]) (h1 : l[0] < n) : risL n (prevO l 0) (l.drop 0) = risL n (prevO l 1) (l.drop 1) := by
  rw [List.drop_eq_getElem_cons h]
  have e : prevO l (0 + 1) = some l[0] := by unfold prevO; simp
  rw [e]
  conv => lhs; unfold risL
  rw [decide_eq_true ⟨h0, h1⟩]; rfl
theorem risL_next {l : List Int} {n : Int} {k : Nat} (h : k + 1 < l.length) (h0 : 0 ≤ l[k + 1]) (h1 : l[k + 1] < n) (h2 : l[k] < l[k + 1]) : risL n (prevO l (k + 1)) (l.drop (k + 1)) = risL n (prevO l (k + 2)) (l.drop (k + 2)) := by
  rw [List.drop_eq_getElem_cons h]
  have e : prevO l (k + 1) = some l[k] := by unfold prevO; rw [if_neg (by omega)]; exact List.getElem?_eq_getElem (by omega)
  have e2 : prevO l (k + 2) = some l[k + 1] := by unfold prevO; rw [if_neg (by omega)]; exact List.getElem?_eq_getElem h
  rw [e, e2]
  conv => lhs; unfold risL
  rw [decide_eq_true ⟨h0, h1⟩, show lowO (some l[k]) l[k + 1] = true from decide_eq_true h2]; rfl
set_option maxRecDepth 100000 in
set_option maxHeartbeats 4000000 in
theorem kbRising_calls (l : List Int) (n : Int) (ok : Nat → Prop) (A : Option Addr) (cap : Nat) (w : World) (hl : IntsR ok w l A) (hlen : l.length ≤ 9223372036854775807) :
    Calls Tryz.prog 134 #[.slice A l.length cap, .int .i64 n] w fun e w' => e = .returned (.bool (risingB l n)) ∧ Keeps (fun _ => False) w w' := by
  have HL := Lib.hid hl
  have HV : Hid (risingB l n = risL n (prevO l 0) (l.drop 0)) := by unfold Hid; rfl
  generalize risingB l n = rv at *
  clear hl
  go_enter Tryz.func134, Tryz.ntmps134
  go_wp2_with fail
  go_loopw [9] (fun i wr => ∃ k : Nat, k ≤ l.length ∧ i = .int .i64 k ∧ Hid (rv = risL n (prevO l k) (l.drop k)) ∧ Hid (Keeps (fun _ => False) w wr)) (fun i _ => l.length - (intOf i).toNat)
  case atStart => exact ⟨0, Nat.zero_le _, rfl, HV, Keeps.refl _ _⟩
  case round =>
    obtain ⟨k, hk, rfl, HI, HK⟩ := hrel
    by_cases hlt : k < l.length
    · obtain ⟨b, o, rfl, _, hc⟩ := (HL.out.keep HK.out (fun _ _ h => h)) (by intro h; subst h; simp at hlt)
      have e0 := hc k hlt
      have i1 : (k : Int) < l.length := by omega
      have HBAD := Lib.hid (fun hb => risL_bad (n := n) hlt hb)
      rcases k with _ | k
      · have HFST := Lib.hid (fun h0 h1 => risL_first (n := n) hlt h0 h1)
        generalize hx : l[0] = x at *
        clear hc hx
        simp only [Nat.add_zero] at e0
        by_cases hb : x < 0
        · have HO : Hid (rv = false) := by unfold Hid; rw [HI.out, HBAD.out (.inl hb)]
          clear HI HBAD HFST
          go_wp2_with fail
          go_ret
          exact ⟨by rw [HO.out]; rfl, HK.out⟩
        by_cases hb2 : n ≤ x
        · have HO : Hid (rv = false) := by unfold Hid; rw [HI.out, HBAD.out (.inr hb2)]
          clear HI HBAD HFST
          go_wp2_with fail
          go_ret
          exact ⟨by rw [HO.out]; rfl, HK.out⟩
        have HO : Hid (rv = risL n (prevO l (0 + 1)) (l.drop (0 + 1))) := by unfold Hid; rw [HI.out, HFST.out (by omega) (by omega)]
        clear HI HBAD HFST
        go_wp2_with fail
        go_roundw
        case rel => exact ⟨0 + 1, by omega, by go_num, HO, HK⟩
        case measure => simp [intOf]; omega
      · have e1 := hc k (by omega)
        have HLOW := Lib.hid (fun hb => risL_low (n := n) hlt hb)
        have HNXT := Lib.hid (fun h0 h1 h2 => risL_next (n := n) hlt h0 h1 h2)
        generalize hx : l[k + 1] = x at *
        generalize hy : l[k] = y at *
        clear hc hx hy
        have e2 : ((k + 1 : Nat) : Int) - 1 = (k : Int) := by omega
        by_cases hb : x < 0
        · have HO : Hid (rv = false) := by unfold Hid; rw [HI.out, HBAD.out (.inl hb)]
          clear HI HBAD HLOW HNXT
          go_wp2_with fail
          go_ret
          exact ⟨by rw [HO.out]; rfl, HK.out⟩
        by_cases hb2 : n ≤ x
        · have HO : Hid (rv = false) := by unfold Hid; rw [HI.out, HBAD.out (.inr hb2)]
          clear HI HBAD HLOW HNXT
          go_wp2_with fail
          go_ret
          exact ⟨by rw [HO.out]; rfl, HK.out⟩
        by_cases hb3 : x ≤ y
        · have HO : Hid (rv = false) := by unfold Hid; rw [HI.out, HLOW.out hb3]
          clear HI HBAD HLOW HNXT
          go_wp2_with fail
          go_ret
          exact ⟨by rw [HO.out]; rfl, HK.out⟩
        have HO : Hid (rv = risL n (prevO l (k + 2)) (l.drop (k + 2))) := by unfold Hid; rw [HI.out, HNXT.out (by omega) (by omega) (by omega)]
        clear HI HBAD HLOW HNXT
        go_wp2_with fail
        go_roundw
        case rel => exact ⟨k + 2, by omega, by go_num, HO, HK⟩
        case measure => simp [intOf]; omega
    · obtain rfl : k = l.length := by omega
      have HO : Hid (rv = true) := by unfold Hid; rw [HI.out, List.drop_length]; unfold risL; rfl
      clear HI
      go_wp2_with fail
      go_ret
      exact ⟨by rw [HO.out]; rfl, HK.out⟩
set_option maxRecDepth 100000 in
set_option maxHeartbeats 4000000 in
theorem refRising_calls (l : List Int) (n : Int) (ok : Nat → Prop) (A : Option Addr) (cap : Nat) (w : World) (hl : IntsR ok w l A) (hlen : l.length ≤ 9223372036854775807) :
    Calls Tryz.prog 62 #[.slice A l.length cap, .int .i64 n] w fun e w' => e = .returned (.bool (risingB l n)) ∧ Keeps (fun _ => False) w w' := by
  have HL := Lib.hid hl
  have HV : Hid (risingB l n = risL n (prevO l 0) (l.drop 0)) := by unfold Hid; rfl
  generalize risingB l n = rv at *
  clear hl
  go_enter Tryz.func62, Tryz.ntmps62
  go_wp2_with fail
  go_loopw [9] (fun i wr => ∃ k : Nat, k ≤ l.length ∧ i = .int .i64 k ∧ Hid (rv = risL n (prevO l k) (l.drop k)) ∧ Hid (Keeps (fun _ => False) w wr)) (fun i _ => l.length - (intOf i).toNat)
  case atStart => exact ⟨0, Nat.zero_le _, rfl, HV, Keeps.refl _ _⟩
  case round =>
    obtain ⟨k, hk, rfl, HI, HK⟩ := hrel
    by_cases hlt : k < l.length
    · obtain ⟨b, o, rfl, _, hc⟩ := (HL.out.keep HK.out (fun _ _ h => h)) (by intro h; subst h; simp at hlt)
      have e0 := hc k hlt
      have i1 : (k : Int) < l.length := by omega
      have HBAD := Lib.hid (fun hb => risL_bad (n := n) hlt hb)
      rcases k with _ | k
      · have HFST := Lib.hid (fun h0 h1 => risL_first (n := n) hlt h0 h1)
        generalize hx : l[0] = x at *
        clear hc hx
        simp only [Nat.add_zero] at e0
        by_cases hb : x < 0
        · have HO : Hid (rv = false) := by unfold Hid; rw [HI.out, HBAD.out (.inl hb)]
          clear HI HBAD HFST
          go_wp2_with fail
          go_ret
          exact ⟨by rw [HO.out]; rfl, HK.out⟩
        by_cases hb2 : n ≤ x
        · have HO : Hid (rv = false) := by unfold Hid; rw [HI.out, HBAD.out (.inr hb2)]
          clear HI HBAD HFST
          go_wp2_with fail
          go_ret
          exact ⟨by rw [HO.out]; rfl, HK.out⟩
        have HO : Hid (rv = risL n (prevO l (0 + 1)) (l.drop (0 + 1))) := by unfold Hid; rw [HI.out, HFST.out (by omega) (by omega)]
        clear HI HBAD HFST
        go_wp2_with fail
        go_roundw
        case rel => exact ⟨0 + 1, by omega, by go_num, HO, HK⟩
        case measure => simp [intOf]; omega
      · have e1 := hc k (by omega)
        have HLOW := Lib.hid (fun hb => risL_low (n := n) hlt hb)
        have HNXT := Lib.hid (fun h0 h1 h2 => risL_next (n := n) hlt h0 h1 h2)
        generalize hx : l[k + 1] = x at *
        generalize hy : l[k] = y at *
        clear hc hx hy
        have e2 : ((k + 1 : Nat) : Int) - 1 = (k : Int) := by omega
        by_cases hb : x < 0
        · have HO : Hid (rv = false) := by unfold Hid; rw [HI.out, HBAD.out (.inl hb)]
          clear HI HBAD HLOW HNXT
          go_wp2_with fail
          go_ret
          exact ⟨by rw [HO.out]; rfl, HK.out⟩
        by_cases hb2 : n ≤ x
        · have HO : Hid (rv = false) := by unfold Hid; rw [HI.out, HBAD.out (.inr hb2)]
          clear HI HBAD HLOW HNXT
          go_wp2_with fail
          go_ret
          exact ⟨by rw [HO.out]; rfl, HK.out⟩
        by_cases hb3 : x ≤ y
        · have HO : Hid (rv = false) := by unfold Hid; rw [HI.out, HLOW.out hb3]
          clear HI HBAD HLOW HNXT
          go_wp2_with fail
          go_ret
          exact ⟨by rw [HO.out]; rfl, HK.out⟩
        have HO : Hid (rv = risL n (prevO l (k + 2)) (l.drop (k + 2))) := by unfold Hid; rw [HI.out, HNXT.out (by omega) (by omega) (by omega)]
        clear HI HBAD HLOW HNXT
        go_wp2_with fail
        go_roundw
        case rel => exact ⟨k + 2, by omega, by go_num, HO, HK⟩
        case measure => simp [intOf]; omega
    · obtain rfl : k = l.length := by omega
      have HO : Hid (rv = true) := by unfold Hid; rw [HI.out, List.drop_length]; unfold risL; rfl
      clear HI
      go_wp2_with fail
      go_ret
      exact ⟨by rw [HO.out]; rfl, HK.out⟩
end Go.Proofs.YtknonaboaaiabaaGreatDoor
/- Valid interpretations: what is asked of the lists. -/
namespace Go.Proofs.YtknonaboaaiabaaGreatDoor
open Go.RowKit
set_option linter.unusedVariables false
set_option linter.unusedSimpArgs false
def lessP (p q : Int × Int) : Bool := decide (p.1 < q.1) || (decide (p.1 = q.1) && decide (p.2 < q.2))
set_option maxRecDepth 100000 in
set_option maxHeartbeats 4000000 in
theorem less_calls (p q : Int × Int) (w : World) :
    Calls Tryz.prog 63 #[.agg #[.int .i64 p.1, .int .i64 p.2], .agg #[.int .i64 q.1, .int .i64 q.2]] w fun e w' => e = .returned (.bool (lessP p q)) ∧ Keeps (fun _ => False) w w' := by
  obtain ⟨a, b⟩ := p
  obtain ⟨c, d⟩ := q
  dsimp only
  have HV : Hid (lessP (a, b) (c, d) = (decide (a < c) || (decide (a = c) && decide (b < d)))) := by unfold Hid; rfl
  generalize lessP (a, b) (c, d) = rv at *
  by_cases h1 : a < c
  · have HO : Hid (rv = true) := by unfold Hid; rw [HV.out, decide_eq_true h1]; rfl
    go_enter Tryz.func63, Tryz.ntmps63
    go_wp2_with fail
    go_ret
    exact ⟨by rw [HO.out]; rfl, by repeat (first | exact Keeps.refl _ _ | refine Keeps.drewN ?_ _ | refine Keeps.drew ?_ | refine Keeps.alloc ?_ _ | refine Keeps.set ?_ (Or.inl (by rfl)) _)⟩
  by_cases h2 : a = c
  · subst h2
    by_cases h3 : b < d
    · have HO : Hid (rv = true) := by unfold Hid; rw [HV.out, decide_eq_false h1, decide_eq_true rfl, decide_eq_true h3]; rfl
      go_enter Tryz.func63, Tryz.ntmps63
      go_wp2_with fail
      go_ret
      exact ⟨by rw [HO.out]; rfl, by repeat (first | exact Keeps.refl _ _ | refine Keeps.drewN ?_ _ | refine Keeps.drew ?_ | refine Keeps.alloc ?_ _ | refine Keeps.set ?_ (Or.inl (by rfl)) _)⟩
    · have HO : Hid (rv = false) := by unfold Hid; rw [HV.out, decide_eq_false h1, decide_eq_false h3]; simp
      go_enter Tryz.func63, Tryz.ntmps63
      go_wp2_with fail
      go_ret
      exact ⟨by rw [HO.out]; rfl, by repeat (first | exact Keeps.refl _ _ | refine Keeps.drewN ?_ _ | refine Keeps.drew ?_ | refine Keeps.alloc ?_ _ | refine Keeps.set ?_ (Or.inl (by rfl)) _)⟩
  · have HO : Hid (rv = false) := by unfold Hid; rw [HV.out, decide_eq_false h1, decide_eq_false h2]; rfl
    have h2b : decide (a = c) = false := decide_eq_false h2
    go_enter Tryz.func63, Tryz.ntmps63
    go_wp2_with fail
    go_ret
    exact ⟨by rw [HO.out]; rfl, by repeat (first | exact Keeps.refl _ _ | refine Keeps.drewN ?_ _ | refine Keeps.drew ?_ | refine Keeps.alloc ?_ _ | refine Keeps.set ?_ (Or.inl (by rfl)) _)⟩
def inP (size : Int) (x : Int × Int) : Bool := decide (0 ≤ x.1 ∧ x.1 < size ∧ 0 ≤ x.2 ∧ x.2 < size)
def lowP : Option (Int × Int) → Int × Int → Bool
  | none, _ => true
  | some y, x => lessP y x
def prsL (size : Int) : Option (Int × Int) → List (Int × Int) → Bool
  | _, [] => true
  | p, x :: r => (inP size x && lowP p x) && prsL size (some x) r
def pairsOkB (size : Int) (l : List (Int × Int)) : Bool := prsL size none l
def prevP (l : List (Int × Int)) (k : Nat) : Option (Int × Int) := if k = 0 then none else l[k - 1]?
theorem prsL_bad {l : List (Int × Int)} {n : Int} {k : Nat} (h : k < l.length) (hb : l[k].1 < 0 ∨ n ≤ l[k].1 ∨ l[k].2 < 0 ∨ n ≤ l[k].2) : prsL n (prevP l k) (l.drop k) = false := by
  rw [List.drop_eq_getElem_cons h]
  unfold prsL
  rw [show inP n l[k] = false from decide_eq_false (by omega)]; rfl
theorem prsL_first {l : List (Int × Int)} {n : Int} (h : 0 < l.length) (h0 : 0 ≤ l[0].1 ∧ l[0].1 < n ∧ 0 ≤ l[0].2 ∧ l[0].2 < n) : prsL n (prevP l 0) (l.drop 0) = prsL n (prevP l 1) (l.drop 1) := by
  rw [List.drop_eq_getElem_cons h]
  have e : prevP l (0 + 1) = some l[0] := by unfold prevP; simp
  rw [e]
  conv => lhs; unfold prsL
  rw [show inP n l[0] = true from decide_eq_true h0]; rfl
theorem prsL_next {l : List (Int × Int)} {n : Int} {k : Nat} (h : k + 1 < l.length) (h0 : 0 ≤ l[k + 1].1 ∧ l[k + 1].1 < n ∧ 0 ≤ l[k + 1].2 ∧ l[k + 1].2 < n) : prsL n (prevP l (k + 1)) (l.drop (k + 1)) = (lessP l[k] l[k + 1] && prsL n (prevP l (k + 2)) (l.drop (k + 2))) := by
  rw [List.drop_eq_getElem_cons h]
  have e : prevP l (k + 1) = some l[k] := by unfold prevP; rw [if_neg (by omega)]; exact List.getElem?_eq_getElem (by omega)
  have e2 : prevP l (k + 2) = some l[k + 1] := by unfold prevP; rw [if_neg (by omega)]; exact List.getElem?_eq_getElem h
  rw [e, e2]
  conv => lhs; unfold prsL
  rw [show inP n l[k + 1] = true from decide_eq_true h0, show lowP (some l[k]) l[k + 1] = lessP l[k] l[k + 1] from rfl, Bool.true_and]
def inB (size x : Int) : Bool := decide (0 ≤ x ∧ x < size)
def headBad (nc nr ni : Nat) (i : Itp) : Bool := decide (i.size < 1) || (decide (256 < i.size) || (decide ((i.cons.length : Int) ≠ nc) || (decide ((i.roles.length : Int) ≠ nr) || decide ((i.inds.length : Int) ≠ ni))))
def isItpB (nc nr ni : Nat) (i : Itp) : Bool := !headBad nc nr ni i && (i.cons.all (risingB · i.size) && (i.roles.all (pairsOkB i.size) && i.inds.all (inB i.size)))
theorem listAll_drop {α : Type} (p : α → Bool) {l : List α} {k : Nat} (h : k < l.length) : (l.drop k).all p = (p l[k] && (l.drop (k + 1)).all p) := by
  rw [List.drop_eq_getElem_cons h]; rfl
end Go.Proofs.YtknonaboaaiabaaGreatDoor
