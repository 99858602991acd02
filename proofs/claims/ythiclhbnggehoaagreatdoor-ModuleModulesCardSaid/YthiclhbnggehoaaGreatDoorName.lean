/- What concept.letter, within and Name compute. -/
import Derived.Test.YthiclhbnggehoaaGreatDoorProg
import Derived.Test.YthiclhbnggehoaaGreatDoorMem
import Derived.Lib.Hide
import Derived.Test.YthiclhbnggehoaaGreatDoorShelf
namespace Go.Proofs.YthiclhbnggehoaaGreatDoor
open Go.RowKit
set_option linter.unusedVariables false
set_option linter.unusedSimpArgs false
def letterB (c : Int) : Bool := decide (97 ≤ c ∧ c ≤ 122 ∨ 65 ≤ c ∧ c ≤ 90)
def withinB (c : Int) : Bool := letterB c || decide (48 ≤ c ∧ c ≤ 57) || decide (c = 95)
theorem letter_calls (c : Int) (w : World) : Calls Tryz.prog 107 #[.int .u8 c] w fun e w' => e = .returned (.bool (letterB c)) ∧ w = w' := by
  go_enter Tryz.func107, Tryz.ntmps107
  go_wp2
  all_goals
    go_ret
    refine ⟨congrArg (fun b => Ending.returned (Value.bool b)) ?_, rfl⟩
    rw [Bool.eq_iff_iff]; simp only [letterB, Bool.or_eq_true, Bool.and_eq_true, Bool.not_eq_true', decide_eq_true_eq, decide_eq_false_iff_not, beq_iff_eq, bne_iff_ne, ne_eq, true_iff, iff_true, Bool.false_eq_true, false_iff, iff_false, true_and, and_true, true_or, or_true, false_or, or_false, not_true_eq_false, not_false_eq_true]; omega
theorem within_calls (c : Int) (w : World) : Calls Tryz.prog 109 #[.int .u8 c] w fun e w' => e = .returned (.bool (withinB c)) ∧ w = w' := by
  go_enter Tryz.func109, Tryz.ntmps109
  go_wp2_with (go_at_call 107; refine (letter_calls _ _).mono ?_; rintro e w' ⟨rfl, rfl⟩)
  all_goals
    go_ret
    refine ⟨congrArg (fun b => Ending.returned (Value.bool b)) ?_, rfl⟩
    rw [Bool.eq_iff_iff]; simp only [withinB, Bool.or_eq_true, Bool.and_eq_true, Bool.not_eq_true', decide_eq_true_eq, decide_eq_false_iff_not, beq_iff_eq, bne_iff_ne, ne_eq, true_iff, iff_true, Bool.false_eq_true, false_iff, iff_false, true_and, and_true, true_or, or_true, false_or, or_false, not_true_eq_false, not_false_eq_true, *] <;> omega
/-- Byte k of a string (0 behind its end). -/
def bAt (s : ByteArray) (k : Nat) : Int := if h : k < s.size then (s[k].toNat : Int) else 0
theorem bAt_eq {s : ByteArray} {k : Nat} (h : k < s.size) : (s[k].toNat : Int) = bAt s k := by simp [bAt, h]
def reservedL : List UInt8 := [32, 116, 111, 112, 32, 98, 111, 116, 32, 110, 111, 116, 32, 97, 110, 100, 32, 111, 114, 32, 115, 111, 109, 101, 32, 97, 108, 108, 32, 99, 111, 110, 99, 101, 112, 116, 32, 114, 111, 108, 101, 32, 105, 110, 100, 32]
/-- From byte k on, all may be in a name. -/
def insideB (s : ByteArray) (k : Nat) : Bool := (List.range' k (s.size - k)).all fun i => withinB (bAt s i)
theorem insideB_step {s : ByteArray} {k : Nat} (h : k < s.size) : insideB s k = (withinB (bAt s k) && insideB s (k + 1)) := by
  unfold insideB
  obtain ⟨n, hn⟩ : ∃ n, s.size - k = n + 1 := ⟨s.size - k - 1, by omega⟩
  rw [hn, show s.size - (k + 1) = n from by omega, List.range'_succ, List.all_cons]
theorem insideB_end {s : ByteArray} : insideB s s.size = true := by simp [insideB]
def padL (s : ByteArray) : List UInt8 := 32 :: (s.data.toList ++ [32])
theorem pad_eq (s : ByteArray) : ((⟨#[32]⟩ : ByteArray) ++ s ++ (⟨#[32]⟩ : ByteArray)).data.toList = padL s := by simp [padL, ByteArray.data_append]
theorem contains_calls (s : ByteArray) (m : Int) (w : World) (hm : w.cell? ⟨1, 0, none⟩ = some (.int .i64 m)) :
    Calls Tryz.prog 108 #[.string ⟨reservedL.toArray⟩, .string ((⟨#[32]⟩ : ByteArray) ++ s ++ (⟨#[32]⟩ : ByteArray))] w fun e w' => e = .returned (.bool (Lib.contains reservedL (padL s))) ∧ w = w' :=
  (Tryz.strings_Contains _ _ m w (by decide) hm).mono fun _ _ ⟨h1, h2⟩ => ⟨by rw [h1, pad_eq], h2.symm⟩
def nameB (s : ByteArray) : Bool := decide (s.size ≠ 0) && decide (s.size ≤ 12) && letterB (bAt s 0) && !(Lib.contains reservedL (padL s)) && insideB s 0
set_option maxRecDepth 100000 in
set_option maxHeartbeats 2000000 in
theorem name_calls (s : ByteArray) (m : Int) (w : World) (hs : s.size ≤ maxLen) (hm : w.cell? ⟨1, 0, none⟩ = some (.int .i64 m)) : Calls Tryz.prog 101 #[.string s] w fun e w' => e = .returned (.bool (nameB s)) ∧ w = w' := by
  unfold maxLen at hs
  by_cases z0 : s.size = 0
  · have z1 : s = ByteArray.empty := by
      apply ByteArray.ext; exact Array.size_eq_zero_iff.1 (by simpa using z0)
    subst z1
    go_enter Tryz.func101, Tryz.ntmps101
    go_wp2_with fail
    go_ret
    exact ⟨rfl, rfl⟩
  · have z2 : s.toList ≠ [] := by
      intro h; apply z0
      have := congrArg List.length h
      rw [ByteArray.toList_eq] at this
      simpa using this
    have z1 : s.toList.isEmpty = false := by simpa using z2
    have b0 : (0 : Nat) < s.size := by omega
    have b1 : (0 : Int) < s.size := by omega
    have bq := bAt_eq b0
    by_cases z3 : s.size ≤ 12
    · have z4 : decide (12 < (s.size : Int)) = false := by simp; omega
      cases hl : letterB (bAt s 0)
      · have HV := Lib.hid (show nameB s = false by simp [nameB, hl])
        go_enter Tryz.func101, Tryz.ntmps101
        go_wp2_with (go_at_call 107; refine (letter_calls _ _).mono ?_; rintro e w' ⟨rfl, rfl⟩)
        go_ret
        exact ⟨by rw [HV.out]; rfl, rfl⟩
      · cases hr : Lib.contains reservedL (padL s)
        · have HV := Lib.hid (show nameB s = insideB s 0 by simp [nameB, hl, hr, z0, z3])
          have HR := Lib.hid hr
          clear hr
          go_enter Tryz.func101, Tryz.ntmps101
          have HC := Lib.hid (contains_calls s m w hm)
          rw [HR.out] at HC
          clear hm
          go_wp2_with (first | (go_at_call 107; refine (letter_calls _ _).mono ?_; rintro e w' ⟨rfl, rfl⟩) | (go_at_call 108; refine HC.out.mono ?_; rintro e w' ⟨rfl, rfl⟩))
          go_loop [3] (fun i => ∃ k : Nat, k ≤ s.size ∧ i = .int .i64 k ∧ Hid (insideB s 0 = insideB s k)) (fun i => s.size - (intOf i).toNat)
          case atStart => exact ⟨0, Nat.zero_le _, rfl, rfl⟩
          case round =>
            obtain ⟨k, hk, rfl, HI⟩ := hrel
            by_cases hlt : k < s.size
            · have bk := bAt_eq hlt
              have hst := Lib.hid (insideB_step hlt)
              cases hw : withinB (bAt s k)
              all_goals
                rw [hw] at hst
                go_wp2_with (go_at_call 109; refine (within_calls _ _).mono ?_; rintro e w' ⟨rfl, rfl⟩)
              · go_ret
                exact ⟨by rw [HV.out, HI.out, hst.out]; rfl, rfl⟩
              · go_round
                case rel => exact ⟨k + 1, by omega, by go_num, by unfold Hid; rw [HI.out, hst.out]; rfl⟩
                case measure => simp [intOf]; omega
            · obtain rfl : k = s.size := by omega
              go_wp2
              go_ret
              exact ⟨by rw [HV.out, HI.out, insideB_end]; rfl, rfl⟩
        · have HV := Lib.hid (show nameB s = false by simp [nameB, hl, hr, z0, z3])
          have HC := Lib.hid (contains_calls s m w hm)
          rw [hr] at HC
          clear hr hm
          go_enter Tryz.func101, Tryz.ntmps101
          go_wp2_with (first | (go_at_call 107; refine (letter_calls _ _).mono ?_; rintro e w' ⟨rfl, rfl⟩) | (go_at_call 108; refine HC.out.mono ?_; rintro e w' ⟨rfl, rfl⟩))
          go_ret
          exact ⟨by rw [HV.out]; rfl, rfl⟩
    · have HV := Lib.hid (show nameB s = false by simp [nameB, z3])
      have z4 : decide (12 < (s.size : Int)) = true := by simp; omega
      go_enter Tryz.func101, Tryz.ntmps101
      go_wp2_with fail
      go_ret
      exact ⟨by rw [HV.out]; rfl, rfl⟩
end Go.Proofs.YthiclhbnggehoaaGreatDoor
