/- isagogelaw19: name, letters. -/
import Derived.Test.YthiclhbnggehoaaGreatDoorPick
import Derived.Test.YthiclhbnggehoaaGreatDoorOf
import Derived.Deep.RegionHeld3
import Derived.Test.YthiclhbnggehoaaGreatDoorPKb
import Derived.Test.YthiclhbnggehoaaGreatDoorUsesK
namespace Go.Proofs.YthiclhbnggehoaaGreatDoor
open Go.RowKit
set_option linter.unusedVariables false
set_option linter.unusedSimpArgs false
set_option maxRecDepth 100000 in
set_option maxHeartbeats 4000000 in
theorem name19_calls (i : Int) (w : World) : Calls Tryz.prog 65 #[.int .i64 i] w fun e w' => e = .returned (.agg #[.int .i64 0, .int .i64 i, .slice none 0 0]) ∧ Keeps (fun _ => False) w w' := by
  go_enter Tryz.func65, Tryz.ntmps65
  go_wp2_with (go_at_call 64; refine (of_calls 0 i none 0 0 _).mono ?_; rintro e w2 ⟨rfl, hk2⟩; have hb2 := hk2.blk (blkNew (w := w) rfl) (fun h => h); obtain ⟨x0, x1, x2⟩ := cells3 hb2; have f0 := blkFree hb2 0; have f1 := blkFree hb2 1; have f2 := blkFree hb2 2; have hl := blkLt hb2; have HB2 := Lib.hid hb2; have HK2 := Lib.hid (Keeps.then_ (a := w) (by repeat (first | exact Keeps.refl _ _ | refine Keeps.drewN ?_ _ | refine Keeps.drew ?_ | refine Keeps.alloc ?_ _ | refine Keeps.set ?_ (Or.inl (by rfl)) _)) hk2); clear hk2 hb2)
  generalize hW8 : World.setCell _ _ _ = W8
  have hb8 := blkSet (blkSet (blkSet HB2.out 0 (.int .i64 0)) 1 (.int .i64 i)) 2 (.slice none 0 0)
  rw [hW8] at hb8
  have hK8 : Keeps (fun k => k = w.heap.size) w2 W8 := by rw [← hW8]; exact ((Keeps.set1 _ _ _ _).then_ (Keeps.set1 _ _ _ _)).then_ (Keeps.set1 _ _ _ _)
  clear hW8 x0 x1 x2
  obtain ⟨t0, t1, t2⟩ := cells3 (v0 := .int .i64 0) (v1 := .int .i64 i) (v2 := .slice none 0 0) (by simpa using hb8)
  exact bodyPost_ret (v := .agg #[.int .i64 0, .int .i64 i, .slice none 0 0]) (by simp [results, Tryz.results65, go_sem, t0, t1, t2]) rfl ⟨rfl, HK2.out.trans hK8 (fun k hk => .inr (by omega))⟩
abbrev bA : ByteArray := ⟨#[65]⟩
abbrev bB : ByteArray := ⟨#[66]⟩
abbrev bC : ByteArray := ⟨#[67]⟩
abbrev bD : ByteArray := ⟨#[68]⟩
abbrev bE : ByteArray := ⟨#[69]⟩
abbrev bR : ByteArray := ⟨#[114]⟩
def nameC (i : Int) : Con := ⟨0, i, []⟩
/-- The knowledge base of the chapter's example. -/
def lettersKb : Kb := { cs := [bA, bB, bC, bD, bE], rs := [bR], is := [], incls := [(nameC 0, ⟨6, 0, [nameC 1]⟩), (nameC 1, nameC 2), (nameC 3, nameC 4)], roles := [], facts := [], links := [] }
theorem blkG {w w' : World} {g : Nat} {o : Obj} (h : Keeps (fun _ => False) w w') (hv : w.heap[g]? = some o) : w'.heap[g]? = some o := h.blk hv (fun h => h)
set_option maxRecDepth 100000 in
set_option maxHeartbeats 4000000 in
theorem letters_calls (w : World) : Calls Tryz.prog 33 #[] w (RetKb lettersKb w) := by
  go_enter Tryz.func33, Tryz.ntmps33
  go_wp2_with (first | (go_at_call 65; refine (name19_calls 1 _).mono ?_; rintro e w2 ⟨rfl, hk2⟩; have HK2 := Lib.hid hk2; clear hk2) | (go_at_call 64; refine (of_calls 6 0 _ _ _ _).mono ?_; rintro e w3 ⟨rfl, hk3⟩; have HK3 := Lib.hid hk3; clear hk3) | fail)
  have hz2 := HK2.out.size
  have hz3 := HK3.out.size
  simp only [World.size_alloc] at hz2 hz3
  generalize hW4 : World.alloc w3 _ = W4
  have q0 : W4.heap[w.heap.size]? = some (.cells #[.slice none 0 0, .slice none 0 0, .slice none 0 0, .slice none 0 0, .slice none 0 0, .slice none 0 0, .slice none 0 0] 30 (0, 0)) := by rw [← hW4]; repeat (first | (with_reducible refine blkNew ?_; first | with_reducible rfl | (simp; done)) | with_reducible refine blkAlloc ?_ _ | with_reducible refine blkG HK3.out ?_ | with_reducible refine blkG HK2.out ?_)
  have q1 : W4.heap[w.heap.size + 1]? = some (.cells #[.string bA, .string bB, .string bC, .string bD, .string bE] 9 (0, 0)) := by rw [← hW4]; repeat (first | (with_reducible refine blkNew ?_; first | with_reducible rfl | (simp; done)) | with_reducible refine blkAlloc ?_ _ | with_reducible refine blkG HK3.out ?_ | with_reducible refine blkG HK2.out ?_)
  have q2 : W4.heap[w.heap.size + 1 + 1]? = some (.cells #[.string bR] 9 (0, 0)) := by rw [← hW4]; repeat (first | (with_reducible refine blkNew ?_; first | with_reducible rfl | (simp; done)) | with_reducible refine blkAlloc ?_ _ | with_reducible refine blkG HK3.out ?_ | with_reducible refine blkG HK2.out ?_)
  have q3 : W4.heap[w.heap.size + 1 + 1 + 1]? = some (.cells #[.slice (some ⟨w.heap.size + 1, 0, none⟩) 5 5, .slice (some ⟨w.heap.size + 1 + 1, 0, none⟩) 1 1, .slice none 0 0] 24 (0, 0)) := by rw [← hW4]; repeat (first | (with_reducible refine blkNew ?_; first | with_reducible rfl | (simp; done)) | with_reducible refine blkAlloc ?_ _ | with_reducible refine blkG HK3.out ?_ | with_reducible refine blkG HK2.out ?_)
  have q4 : W4.heap[w2.heap.size]? = some (.cells #[.int .i64 0, .int .i64 1, .slice none 0 0] 37 (0, 0)) := by rw [← hW4]; repeat (first | (with_reducible refine blkNew ?_; first | with_reducible rfl | (simp; done)) | with_reducible refine blkAlloc ?_ _ | with_reducible refine blkG HK3.out ?_ | with_reducible refine blkG HK2.out ?_)
  have q5 : W4.heap[w3.heap.size]? = some (.cells #[.int .i64 6, .int .i64 0, .slice (some ⟨w2.heap.size, 0, none⟩) 1 1] 37 (0, 0)) := by rw [← hW4]; repeat (first | (with_reducible refine blkNew ?_; first | with_reducible rfl | (simp; done)) | with_reducible refine blkAlloc ?_ _ | with_reducible refine blkG HK3.out ?_ | with_reducible refine blkG HK2.out ?_)
  have hk4 : Keeps (fun _ => False) w W4 := by rw [← hW4]; refine Keeps.alloc ?_ _; refine Keeps.then_ ?_ HK3.out; refine Keeps.alloc ?_ _; refine Keeps.then_ ?_ HK2.out; repeat (first | exact Keeps.refl _ _ | refine Keeps.drewN ?_ _ | refine Keeps.drew ?_ | refine Keeps.alloc ?_ _ | refine Keeps.set ?_ (Or.inl (by rfl)) _)
  clear hW4
  have HQ0 := Lib.hid q0
  have HQ1 := Lib.hid q1
  have HQ2 := Lib.hid q2
  have HQ4 := Lib.hid q4
  have HK4 := Lib.hid hk4
  have hl0 := blkLt q0
  have hl4 := blkLt q4
  have HH : Hid (∀ w', Keeps (fun i => i = w.heap.size) W4 w' → (w'.cell? ⟨w.heap.size + 1 + 1 + 1, 0, none⟩ = some (.slice (some ⟨w.heap.size + 1, 0, none⟩) 5 5) ∧ w'.cell? ⟨w.heap.size + 1 + 1 + 1, 1, none⟩ = some (.slice (some ⟨w.heap.size + 1 + 1, 0, none⟩) 1 1) ∧ w'.cell? ⟨w.heap.size + 1 + 1 + 1, 2, none⟩ = some (.slice none 0 0) ∧ w'.cell? ⟨w3.heap.size, 0, none⟩ = some (.int .i64 6) ∧ w'.cell? ⟨w3.heap.size, 1, none⟩ = some (.int .i64 0) ∧ w'.cell? ⟨w3.heap.size, 2, none⟩ = some (.slice (some ⟨w2.heap.size, 0, none⟩) 1 1))) := fun w' hk => by
    obtain ⟨r0, r1, r2⟩ := cells3 (hk.blk q3 (by omega))
    obtain ⟨t0, t1, t2⟩ := cells3 (hk.blk q5 (by omega))
    exact ⟨r0, r1, r2, t0, t1, t2⟩
  have HKC : Hid (Keeps (fun _ => False) W4 W4.drew) := (Keeps.refl _ _).drew
  clear q0 q1 q2 q3 q4 q5 hk4
  go_region_held3 (fun w' => (w'.cell? ⟨w.heap.size + 1 + 1 + 1, 0, none⟩ = some (.slice (some ⟨w.heap.size + 1, 0, none⟩) 5 5) ∧ w'.cell? ⟨w.heap.size + 1 + 1 + 1, 1, none⟩ = some (.slice (some ⟨w.heap.size + 1 + 1, 0, none⟩) 1 1) ∧ w'.cell? ⟨w.heap.size + 1 + 1 + 1, 2, none⟩ = some (.slice none 0 0) ∧ w'.cell? ⟨w3.heap.size, 0, none⟩ = some (.int .i64 6) ∧ w'.cell? ⟨w3.heap.size, 1, none⟩ = some (.int .i64 0) ∧ w'.cell? ⟨w3.heap.size, 2, none⟩ = some (.slice (some ⟨w2.heap.size, 0, none⟩) 1 1)))
    (first | (refine HH.out _ ?_; with_reducible exact Keeps.refl _ _) | (refine HH.out _ ?_; with_reducible exact (Keeps.refl _ _).drew) | (refine HH.out _ ?_; with_reducible exact HKC.out.of0) | (refine HH.out _ ?_; with_reducible exact (HKC.out.alloc _).of0) | (refine HH.out _ ?_; with_reducible exact keeps7s (HKC.out.alloc _) _ _ _ _ _ _ _) | (refine HH.out _ ?_; with_reducible exact (keeps7s HKC.out _ _ _ _ _ _ _).alloc _) | fail)
    ((go_at_call 65; refine (name19_calls _ _).mono ?_; rintro e wn ⟨rfl, hkn⟩; have HKD := Lib.hid (HKC.out.then_ hkn); clear HKC; have HKC := HKD; clear HKD hkn; (try clear k0 k1 k2 k3 k4 k5 k6 f0 f1 f2 f3 f4 f5 f6 hbl); have hbb := HKC.out.blk HQ0.out (fun h => h); obtain ⟨k0, k1, k2, k3, k4, k5, k6⟩ := cells7 hbb; have f0 := blkFree hbb 0; have f1 := blkFree hbb 1; have f2 := blkFree hbb 2; have f3 := blkFree hbb 3; have f4 := blkFree hbb 4; have f5 := blkFree hbb 5; have f6 := blkFree hbb 6; have hbl := blkLt hbb; clear hbb))
  all_goals
    generalize hW9 : World.alloc (World.setCell _ _ _) _ = W9
    have p0 := blkAlloc (blkSet7 (HKC.out.blk HQ0.out (fun h => h)) (.slice (some ⟨w.heap.size + 1, 0, none⟩) 5 5) (.slice (some ⟨w.heap.size + 1 + 1, 0, none⟩) 1 1) (.slice none 0 0) (.slice (some ⟨wn.heap.size, 0, none⟩) 3 3) (.slice none 0 0) (.slice none 0 0) (.slice none 0 0)) (.cells #[.int .i64 0, .int .i64 0, .slice none 0 0, .int .i64 6, .int .i64 0, .slice (some ⟨w2.heap.size, 0, none⟩) 1 1, .int .i64 0, .int .i64 1, .slice none 0 0, .int .i64 0, .int .i64 2, .slice none 0 0, .int .i64 0, .int .i64 3, .slice none 0 0, .int .i64 0, .int .i64 4, .slice none 0 0] 92)
    rw [hW9] at p0
    have p9 : W9.heap[wn.heap.size]? = some (.cells #[.int .i64 0, .int .i64 0, .slice none 0 0, .int .i64 6, .int .i64 0, .slice (some ⟨w2.heap.size, 0, none⟩) 1 1, .int .i64 0, .int .i64 1, .slice none 0 0, .int .i64 0, .int .i64 2, .slice none 0 0, .int .i64 0, .int .i64 3, .slice none 0 0, .int .i64 0, .int .i64 4, .slice none 0 0] 92 (0, 0)) := by rw [← hW9]; exact blkNew (by simp)
    have kk : Keeps (fun i => i = w.heap.size) W4 W9 := by rw [← hW9]; exact (keeps7s HKC.out _ _ _ _ _ _ _).alloc _
    have hzn := HKC.out.size
    have hz4 := HK4.out.size
    clear hW9
    have p1 := kk.blk HQ1.out (by omega)
    have p2 := kk.blk HQ2.out (by omega)
    have p4 := kk.blk HQ4.out (by omega)
    have HP9 := Lib.hid p9
    have HP1 := Lib.hid p1
    have HP2 := Lib.hid p2
    have HP4 := Lib.hid p4
    have HKF := Lib.hid (HK4.out.trans kk (fun i hi => .inr (by omega)))
    clear p9 p1 p2 p4 kk k0 k1 k2 k3 k4 k5 k6
    obtain ⟨k0, k1, k2, k3, k4, k5, k6⟩ := cells7 p0
    have hlf := blkLt p0
    clear p0
    go_wp2_with fail
    refine bodyPost_ret (v := .agg #[.slice (some ⟨w.heap.size + 1, 0, none⟩) 5 5, .slice (some ⟨w.heap.size + 1 + 1, 0, none⟩) 1 1, .slice none 0 0, .slice (some ⟨wn.heap.size, 0, none⟩) 3 3, .slice none 0 0, .slice none 0 0, .slice none 0 0]) (by simp [results, Tryz.results33, go_sem, k0, k1, k2, k3, k4, k5, k6]) rfl ?_
    have ge1 : w.heap.size ≤ wn.heap.size := by omega
    have ge2 : w.heap.size ≤ w2.heap.size := by omega
    refine ⟨⟨some ⟨w.heap.size + 1, 0, none⟩, some ⟨w.heap.size + 1 + 1, 0, none⟩, none, some ⟨wn.heap.size, 0, none⟩, none, none, none, 5, 1, 0, 3, 0, 0, 0⟩, rfl, ?_, HKF.out⟩
    refine { cs := fun _ => ⟨_, 0, rfl, (by show w.heap.size ≤ _; omega), fun i hi => ?_⟩, rs := fun _ => ⟨_, 0, rfl, (by show w.heap.size ≤ _; omega), fun i hi => ?_⟩, is := fun h => absurd rfl h, incls := fun _ => ⟨_, 0, rfl, ge1, fun i hi => ?_⟩, roles := fun h => absurd rfl h, facts := fun h => absurd rfl h, links := fun h => absurd rfl h, l0 := Nat.le_refl 5, l1 := Nat.le_refl 1, l2 := Nat.le_refl 0, l3 := Nat.le_refl 3, l4 := Nat.le_refl 0, l5 := Nat.le_refl 0, l6 := Nat.le_refl 0, strs := ?_, rng := fun x hx => by cases hx }
    · have hi5 : i < 5 := hi
      have : i = 0 ∨ i = 1 ∨ i = 2 ∨ i = 3 ∨ i = 4 := by omega
      rcases this with rfl | rfl | rfl | rfl | rfl <;> exact (blkCell HP1.out _).trans rfl
    · have hi5 : i < 1 := hi
      obtain rfl : i = 0 := by omega
      exact (blkCell HP2.out _).trans rfl
    · have hi3 : i < 3 := hi
      have : i = 0 ∨ i = 1 ∨ i = 2 := by omega
      rcases this with rfl | rfl | rfl
      · refine ⟨none, 0, some ⟨w2.heap.size, 0, none⟩, 1, (blkCell HP9.out _).trans rfl, (blkCell HP9.out _).trans rfl, (blkCell HP9.out _).trans rfl, (blkCell HP9.out _).trans rfl, (blkCell HP9.out _).trans rfl, (blkCell HP9.out _).trans rfl, conR_leaf _ _ 0 0, ?_⟩
        show ConR _ _ ⟨6, 0, [nameC 1]⟩ _
        simp only [ConR]
        exact ⟨_, _, rfl, Nat.le_refl _, fun _ => ⟨_, 0, rfl, ge2, ⟨⟨_, _, _, (blkCell HP4.out _).trans rfl, (blkCell HP4.out _).trans rfl, (blkCell HP4.out _).trans rfl, conR_leaf _ _ 0 1⟩, fun _ => ⟨_, _, HP4.out⟩⟩⟩⟩
      · exact ⟨none, 0, none, 0, (blkCell HP9.out _).trans rfl, (blkCell HP9.out _).trans rfl, (blkCell HP9.out _).trans rfl, (blkCell HP9.out _).trans rfl, (blkCell HP9.out _).trans rfl, (blkCell HP9.out _).trans rfl, conR_leaf _ _ 0 1, conR_leaf _ _ 0 2⟩
      · exact ⟨none, 0, none, 0, (blkCell HP9.out _).trans rfl, (blkCell HP9.out _).trans rfl, (blkCell HP9.out _).trans rfl, (blkCell HP9.out _).trans rfl, (blkCell HP9.out _).trans rfl, (blkCell HP9.out _).trans rfl, conR_leaf _ _ 0 3, conR_leaf _ _ 0 4⟩
    · intro x hx
      have : x = bA ∨ x = bB ∨ x = bC ∨ x = bD ∨ x = bE ∨ x = bR := by simpa [lettersKb] using hx
      rcases this with rfl | rfl | rfl | rfl | rfl | rfl <;> decide
end Go.Proofs.YthiclhbnggehoaaGreatDoor
/- Plain: the module of the chapter's example. -/
namespace Go.Proofs.YthiclhbnggehoaaGreatDoor
set_option linter.unusedVariables false
set_option linter.unusedSimpArgs false
theorem lettersCount : kbCount lettersKb = 3 := rfl
theorem lt0 : axAt lettersKb 0 = .incl (nameC 0) ⟨6, 0, [nameC 1]⟩ := rfl
theorem lt1 : axAt lettersKb 1 = .incl (nameC 1) (nameC 2) := rfl
theorem lt2 : axAt lettersKb 2 = .incl (nameC 3) (nameC 4) := rfl
theorem lettersBot : modL (axAt lettersKb) false [0] [] (List.range 3) = [0, 1] := by
  have s0 : localAt (axAt lettersKb) false [0] [] [] 0 = false := by simp [localAt, lt0, localX, shapeM, shapeML, shapeOp, nameC, inL, sigN, sigR]
  have i0 : InMod (axAt lettersKb) false [0] [] (List.range 3) 0 := InMod.step (X := []) (fun k hk => by cases hk) (by decide) s0
  have s1 : localAt (axAt lettersKb) false [0] [] [0] 1 = false := by simp [localAt, lt0, lt1, localX, shapeM, shapeML, shapeOp, nameC, inL, sigN, sigR, namesAx, occNames, occNamesL, rolesAx, occRoles, occRolesL]
  have i1 : InMod (axAt lettersKb) false [0] [] (List.range 3) 1 := InMod.step (X := [0]) (fun k hk => by rw [List.mem_singleton] at hk; subst hk; exact i0) (by decide) s1
  have s2 : localAt (axAt lettersKb) false [0] [] [0, 1] 2 = true := by simp [localAt, lt0, lt1, lt2, localX, shapeM, shapeML, shapeOp, nameC, inL, sigN, sigR, namesAx, occNames, occNamesL, rolesAx, occRoles, occRolesL]
  have h := filter_modL (A := axAt lettersKb) (top := false) (C := [0]) (R := []) (within := List.range 3) (X := [0, 1]) (fun k hk => by
    rcases List.mem_cons.1 hk with rfl | hk
    · exact i0
    · rw [List.mem_singleton] at hk; subst hk; exact i1) (fun k hk hl => by
    have : k = 0 ∨ k = 1 ∨ k = 2 := by have := List.mem_range.1 hk; omega
    rcases this with rfl | rfl | rfl
    · simp
    · simp
    · rw [s2] at hl; cases hl)
  rw [← h]
  have e : List.range 3 = [0, 1, 2] := rfl
  rw [e]
  simp
theorem lettersTop : modL (axAt lettersKb) true [0] [] [0, 1] = [] := by
  have s0 : localAt (axAt lettersKb) true [0] [] [] 0 = true := by simp [localAt, lt0, localX, shapeM, shapeML, shapeOp, nameC, inL, sigN, sigR]
  have s1 : localAt (axAt lettersKb) true [0] [] [] 1 = true := by simp [localAt, lt1, localX, shapeM, shapeML, shapeOp, nameC, inL, sigN, sigR]
  have h := filter_modL (A := axAt lettersKb) (top := true) (C := [0]) (R := []) (within := [0, 1]) (X := []) (fun k hk => by cases hk) (fun k hk hl => by
    rcases List.mem_cons.1 hk with rfl | hk
    · rw [s0] at hl; cases hl
    · rw [List.mem_singleton] at hk; subst hk; rw [s1] at hl; cases hl)
  rw [← h]
  simp
theorem modL_nil (A : Nat → Ax) (top : Bool) (C R : List Int) : modL A top C R [] = [] := by unfold modL; rfl
theorem lettersStar : starM (axAt lettersKb) [0] [] false 0 (List.range 3) = [] := by
  rw [starM, if_pos (by omega), lettersBot, if_pos (by decide), starM, if_pos (by omega), Bool.not_false, lettersTop, if_pos (by decide), starM, if_pos (by omega), modL_nil, if_neg (by decide), starM, if_pos (by omega), modL_nil, if_neg (by decide), starM, if_neg (by omega)]
theorem lettersLocal : localX false (inL [0]) (inL []) (axAt lettersKb 2) = true := by simp [lt2, localX, shapeM, shapeML, shapeOp, nameC, inL]
end Go.Proofs.YthiclhbnggehoaaGreatDoor
/- A valid knowledge base is all that the walks of package module ask. -/
namespace Go.Proofs.YthiclhbnggehoaaGreatDoor
set_option linter.unusedVariables false
set_option linter.unusedSimpArgs false
mutual
theorem occNames_len : ∀ c : Con, (occNames c).length ≤ c.size
  | ⟨op, n, l⟩ => by
    have h := occNamesL_len l
    simp only [occNames, Con.size, List.length_append]
    split <;> simp <;> omega
theorem occNamesL_len : ∀ l : List Con, (occNamesL l).length ≤ Con.sizes l
  | [] => Nat.le_refl _
  | c :: r => by
    have h1 := occNames_len c
    have h2 := occNamesL_len r
    simp only [occNamesL, Con.sizes, List.length_append]; omega
end
mutual
theorem occRoles_len : ∀ c : Con, (occRoles c).length ≤ c.size
  | ⟨op, n, l⟩ => by
    have h := occRolesL_len l
    simp only [occRoles, Con.size, List.length_append]
    split <;> simp <;> omega
theorem occRolesL_len : ∀ l : List Con, (occRolesL l).length ≤ Con.sizes l
  | [] => Nat.le_refl _
  | c :: r => by
    have h1 := occRoles_len c
    have h2 := occRolesL_len r
    simp only [occRolesL, Con.sizes, List.length_append]; omega
end
theorem inclsSz_mem : ∀ {l : List (Con × Con)} {x : Con × Con}, x ∈ l → x.1.size + x.2.size ≤ inclsSz l
  | p :: r, x, h => by
    simp only [inclsSz, List.map_cons, List.sum_cons]
    rcases List.mem_cons.1 h with rfl | h
    · omega
    · have := inclsSz_mem h; unfold inclsSz at this; omega
theorem factsSz_mem : ∀ {l : List (Int × Con)} {x : Int × Con}, x ∈ l → x.2.size ≤ factsSz l
  | p :: r, x, h => by
    simp only [factsSz, List.map_cons, List.sum_cons]
    rcases List.mem_cons.1 h with rfl | h
    · omega
    · have := factsSz_mem h; unfold factsSz at this; omega
theorem axs_cases {b : Kb} {x : Ax} (h : x ∈ axs b) : (∃ p ∈ b.incls, x = .incl p.1 p.2) ∨ (∃ p ∈ b.roles, x = .role p.1 p.2) ∨ (∃ p ∈ b.facts, x = .fact p.1 p.2) ∨ ∃ p ∈ b.links, x = .link p.1 p.2.1 p.2.2 := by
  unfold axs at h
  simp only [List.mem_append, List.mem_map] at h
  rcases h with ((⟨p, hp, e⟩ | ⟨p, hp, e⟩) | ⟨p, hp, e⟩) | ⟨p, hp, e⟩
  · exact .inl ⟨p, hp, e.symm⟩
  · exact .inr (.inl ⟨p, hp, e.symm⟩)
  · exact .inr (.inr (.inl ⟨p, hp, e.symm⟩))
  · exact .inr (.inr (.inr ⟨p, hp, e.symm⟩))
theorem kbOk_of {b : Kb} (h : kbValidB b = true) : KbOk b := by
  have h' := h
  simp only [kbValidB, kbBody, rolesV, linksV, Bool.and_eq_true, decide_eq_true_eq, List.all_eq_true] at h'
  obtain ⟨⟨hn, hc⟩, ⟨⟨hi, hr⟩, hf⟩, hl⟩ := h'
  obtain ⟨m1, m2, m3, -⟩ := names_small hn
  obtain ⟨i1, i2, i3⟩ := inclsV_facts hi
  obtain ⟨f1, f2, f3⟩ := factsV_facts hf
  have i4 := i2 (by omega)
  have f4 := f2 (by rw [i1]; exact i4)
  rw [i1] at f4
  unfold kbCount at hc
  have hro : ∀ x ∈ b.roles, (0 ≤ x.1 ∧ x.1 < 2 * b.rs.length) ∧ 0 ≤ x.2 ∧ x.2 < 2 * b.rs.length := fun x hx => by
    have := hr x hx
    simp only [roleP, roleOk, Bool.and_eq_true, decide_eq_true_eq] at this
    omega
  have hli : ∀ x ∈ b.links, 0 ≤ x.1 ∧ x.1 < b.rs.length := fun x hx => by
    have := hl x hx
    simp only [linkOk, Bool.and_eq_true, decide_eq_true_eq] at this
    omega
  refine { fit := ⟨by omega, i3, hro, f3, hli⟩, val := h, isr := by rw [← kbValid_eq b (names_eq _ _ _)]; exact h, nm := names_eq _ _ _, l1 := by omega, l2 := by omega, l3 := by omega, l4 := by omega, n0 := by omega, n1 := by omega, n2 := by omega, occ := fun k hk => ?_, shp := fun k hk => ?_ }
  · rcases axs_cases (axAt_mem hk) with ⟨p, hp, e⟩ | ⟨p, hp, e⟩ | ⟨p, hp, e⟩ | ⟨p, hp, e⟩
    · rw [e]
      have := inclsSz_mem hp
      have a1 := occNames_len p.1
      have a2 := occNames_len p.2
      have a3 := occRoles_len p.1
      have a4 := occRoles_len p.2
      simp only [namesAx, rolesAx, List.length_append]
      omega
    · rw [e]; simp [namesAx, rolesAx]
    · rw [e]
      have := factsSz_mem hp
      have a1 := occNames_len p.2
      have a3 := occRoles_len p.2
      simp only [namesAx, rolesAx]
      omega
    · rw [e]; simp [namesAx, rolesAx]
  · rcases axs_cases (axAt_mem hk) with ⟨p, hp, e⟩ | ⟨p, hp, e⟩ | ⟨p, hp, e⟩ | ⟨p, hp, e⟩
    · rw [e]; exact ⟨shape_of_fit (i3 p hp).1, shape_of_fit (i3 p hp).2⟩
    · rw [e]; exact trivial
    · rw [e]; exact shape_of_fit (f3 p hp)
    · rw [e]; have := hli p hp; unfold AxShape i64ok; omega
theorem lettersValid : kbValidB lettersKb = true := by decide +kernel
theorem badNames (b : Kb) (h : b.cs = [⟨#[116, 111, 112]⟩]) : kbValidB b = false := by
  have hn : validNamesB b.cs b.rs b.is = false := by
    unfold validNamesB namesFrom
    rw [h]
    have h0 : nameB ⟨#[116, 111, 112]⟩ = false := by decide +kernel
    simp [List.range'_succ, h0]
  unfold kbValidB; rw [hn]; rfl
end Go.Proofs.YthiclhbnggehoaaGreatDoor
