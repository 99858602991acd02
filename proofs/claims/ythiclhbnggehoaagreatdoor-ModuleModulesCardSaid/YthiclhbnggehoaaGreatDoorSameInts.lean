/- What isagogeref01.SameInts computes. -/
import Derived.Test.YthiclhbnggehoaaGreatDoorBase
namespace Go.Proofs.YthiclhbnggehoaaGreatDoor
open Go.RowKit
set_option linter.unusedVariables false
set_option linter.unusedSimpArgs false
def sameFrom (a b : List Int) (k : Nat) : Bool := decide (a.drop k = b.drop k)
theorem same_step {a b : List Int} {k : Nat} (ha : k < a.length) (hb : k < b.length) : sameFrom a b k = (decide (a[k] = b[k]) && sameFrom a b (k + 1)) := by
  unfold sameFrom
  rw [List.drop_eq_getElem_cons ha, List.drop_eq_getElem_cons hb, Bool.eq_iff_iff]
  simp only [List.cons.injEq, decide_eq_true_eq, Bool.and_eq_true]
set_option maxRecDepth 100000 in
set_option maxHeartbeats 4000000 in
theorem sameInts_calls (a b : List Int) (ok : Nat → Prop) (A B : Option Addr) (c d : Nat) (w : World) (ha : Row1 ok w (Value.int .i64) a A) (hb : Row1 ok w (Value.int .i64) b B) (hla : a.length ≤ 1000000) (hlb : b.length ≤ 1000000) :
    Calls Tryz.prog 12 #[.slice A a.length c, .slice B b.length d] w fun e w' => e = .returned (.bool (decide (a = b))) ∧ Keeps (fun _ => False) w w' := by
  have HA := Lib.hid ha
  have HB := Lib.hid hb
  have HV : Hid (decide (a = b) = sameFrom a b 0) := rfl
  have HL : a.length ≠ b.length → decide (a = b) = false := fun h => decide_eq_false (fun e => h (by rw [e]))
  have HLL := Lib.hid HL
  generalize decide (a = b) = sv at *
  clear ha hb HL
  by_cases hl : a.length = b.length
  · have q1 : ((a.length : Int) != (b.length : Int)) = false := by simp [hl]
    have HLE := Lib.hid hl
    clear hl
    go_enter Tryz.func12, Tryz.ntmps12
    go_wp2_with fail
    go_loopw [13] (fun i wr => ∃ k : Nat, k ≤ a.length ∧ i = .int .i64 k ∧ Hid (sv = sameFrom a b k) ∧ Keeps (fun _ => False) w wr) (fun i _ => a.length - (intOf i).toNat)
    case atStart => exact ⟨0, Nat.zero_le _, rfl, HV, Keeps.refl _ _⟩
    case round =>
      obtain ⟨k, hk, rfl, HI, HK⟩ := hrel
      by_cases hlt : k < a.length
      · have hltb : k < b.length := by have := HLE.out; omega
        obtain ⟨ba, oa, rfl, _, hca⟩ := (HA.out.keep HK (fun _ _ h => h)) (by intro h; subst h; simp at hlt)
        obtain ⟨bb, ob, rfl, _, hcb⟩ := (HB.out.keep HK (fun _ _ h => h)) (by intro h; subst h; simp at hltb)
        have ea := hca k hlt
        have eb := hcb k hltb
        have HST := Lib.hid (same_step hlt hltb)
        have i1 : (k : Int) < a.length := by omega
        have i2 : (k : Int) < b.length := by omega
        generalize a[k] = x at *
        generalize b[k] = y at *
        clear hca hcb
        by_cases hxy : x = y
        · have q2 : (x != y) = false := by simpa using hxy
          have HO : Hid (sv = sameFrom a b (k + 1)) := by unfold Hid; rw [HI.out, HST.out, decide_eq_true hxy]; rfl
          clear hxy HI HST
          go_wp2_with fail
          go_quiet (fail)
          go_wp2_with fail
          go_roundw
          case rel => exact ⟨k + 1, by omega, by go_num, HO, HK.drewN _⟩
          case measure => simp [intOf]; omega
        · have q2 : (x != y) = true := by simpa using hxy
          have HO : Hid (sv = false) := by unfold Hid; rw [HI.out, HST.out, decide_eq_false hxy]; rfl
          clear hxy HI HST
          go_wp2_with fail
          go_quiet (fail)
          go_wp2_with fail
          go_ret
          exact ⟨by rw [HO.out]; rfl, HK.drewN _⟩
      · obtain rfl : a.length = k := by omega
        have HO : Hid (sv = true) := by unfold Hid; rw [HI.out]; unfold sameFrom; rw [List.drop_length, HLE.out, List.drop_length]; rfl
        clear HI
        go_wp2_with fail
        go_ret
        exact ⟨by rw [HO.out]; rfl, HK⟩
  · have q1 : ((a.length : Int) != (b.length : Int)) = true := by simp; omega
    have HO := Lib.hid (HLL.out hl)
    clear hl
    go_enter Tryz.func12, Tryz.ntmps12
    go_wp2_with fail
    go_ret
    exact ⟨by rw [HO.out]; rfl, Keeps.refl _ _⟩
end Go.Proofs.YthiclhbnggehoaaGreatDoor
