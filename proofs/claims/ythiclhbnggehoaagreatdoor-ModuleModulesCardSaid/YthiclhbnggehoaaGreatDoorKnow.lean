/- module: a judge learns the names of a signature. -/
import Derived.Test.YthiclhbnggehoaaGreatDoorJudge
import Derived.Test.YthiclhbnggehoaaGreatDoorRising
namespace Go.Proofs.YthiclhbnggehoaaGreatDoor
open Go.RowKit
set_option linter.unusedVariables false
set_option linter.unusedSimpArgs false
/-- A signature: rows of numbers. -/
structure SigR (ok : Nat → Prop) (w : World) (C R : List Int) (A B : Option Addr) : Prop where
  c : IntsR ok w C A
  r : IntsR ok w R B
theorem SigR.keep {ok S : Nat → Prop} {w w' : World} {C R : List Int} {A B : Option Addr} (h : SigR ok w C R A B) (hk : Keeps S w w') (hs : ∀ k, ok k → ¬ S k) : SigR ok w' C R A B := ⟨h.c.keep hk hs, h.r.keep hk hs⟩
def sigV (C R : List Int) (A B : Option Addr) (c d : Nat) : Value := .agg #[.slice A C.length c, .slice B R.length d]
set_option maxRecDepth 100000 in
set_option maxHeartbeats 4000000 in
theorem know_calls (o : Value) (b1 b2 g : Nat) (C R X Y : List Int) (A B : Option Addr) (c d : Nat) (ok : Nat → Prop) (w : World) (h1 : MapS w b1 C) (h2 : MapS w b2 R) (hne : b1 ≠ b2) (hs : SigR ok w X Y A B) (hok : ∀ k, ok k → k ≠ b1 ∧ k ≠ b2) (hX : X.length ≤ 1000000) (hY : Y.length ≤ 1000000) :
    Calls Tryz.prog 67 #[.agg #[o, .map (some b1), .map (some b2), .pointer (some ⟨g, 0, none⟩)], .agg #[.slice A X.length c, .slice B Y.length d]] w fun e w' =>
      (∃ v, e = .returned v) ∧ MapS w' b1 (C ++ X) ∧ MapS w' b2 (R ++ Y) ∧ Keeps (fun i => i = b1 ∨ i = b2) w w' := by
  have H1 := Lib.hid h1
  have H2 := Lib.hid h2
  have HS := Lib.hid hs
  have hl1 : b1 < w.heap.size := by obtain ⟨L, h, _⟩ := h1; exact h.lt
  have hl2 : b2 < w.heap.size := by obtain ⟨L, h, _⟩ := h2; exact h.lt
  clear h1 h2 hs
  go_enter Tryz.func67, Tryz.ntmps67
  go_wp2_with fail
  generalize hW0 : World.alloc _ _ = W0
  have hK0 : Keeps (fun _ => False) w W0 := by rw [← hW0]; repeat (first | exact Keeps.refl _ _ | refine Keeps.drewN ?_ _ | refine Keeps.drew ?_ | refine Keeps.alloc ?_ _ | refine Keeps.set ?_ (Or.inl (by rfl)) _)
  have hx2 : W0.heap[w.heap.size]? = some (.cells #[o, .map (some b1), .map (some b2), .pointer (some ⟨g, 0, none⟩)] 101 (0, 0)) := by rw [← hW0]; exact blkAlloc (blkNew rfl) _
  have hx3 : W0.heap[w.heap.size + 1]? = some (.cells #[.slice A X.length c, .slice B Y.length d] 33 (0, 0)) := by rw [← hW0]; exact blkNew (by simp)
  clear hW0
  have HX2 := Lib.hid hx2
  have HX3 := Lib.hid hx3
  have HK0 := Lib.hid hK0
  clear hx2 hx3 hK0
  go_loopw [5, 11] (fun u i wr => ∃ k : Nat, k ≤ X.length ∧ i = .int .i64 k ∧ Hid (MapS wr b1 (C ++ X.take k)) ∧ Hid (MapS wr b2 R) ∧ Hid (Keeps (fun i => i = b1) W0 wr)) (fun _ i _ => X.length - (intOf i).toNat)
  case atStart => exact ⟨0, Nat.zero_le _, rfl, (by simp only [List.take_zero, List.append_nil]; exact H1.out.keep HK0.out (fun h => h) : MapS _ _ _), H2.out.keep HK0.out (fun h => h), Keeps.refl _ _⟩
  case round =>
    obtain ⟨k, hk, rfl, HM, HM2, HK⟩ := hrel
    by_cases hlt : k < X.length
    · obtain ⟨b, oo, rfl, hb, hc⟩ := ((HS.out.c.keep HK0.out (fun _ _ h => h)).keep HK.out (fun k h e => (hok k h).1 e)) (by intro h; subst h; simp at hlt)
      have e0 := hc k hlt
      have i1 : (k : Int) < X.length := by omega
      have hb2 := blkCell (HK.out.blk HX2.out (by omega)) 1
      obtain ⟨L, hL1, hL2⟩ := HM.out
      have HL1 := Lib.hid hL1
      have HL2 := Lib.hid hL2
      have HT := Lib.hid (List.take_succ_eq_append_getElem hlt)
      have y1 : wr.cell? ⟨w.heap.size, 1, none⟩ = some (.map (some b1)) := hb2.trans rfl
      generalize hx : X[k] = x at *
      clear hc hx hb2 hL1 hL2
      go_wp2_with (at_mapUpdate; refine wp_put rfl _ _ _ 98 rfl 4 (keyInt Tryz.underlying3) Tryz.underlying98 b1 L HL1.out rfl x rfl true rfl ?_; intro w6 hm6 hk6)
      go_roundw
      case rel => exact ⟨k + 1, by omega, by go_num, ⟨_, hm6, by rw [HT.out, ← List.append_assoc]; exact HL2.out.put x⟩, HM2.out.keep hk6 (fun e => hne e.symm), HK.out.then_ hk6⟩
      case measure => simp [intOf]; omega
    · obtain rfl : X.length = k := by omega
      rw [List.take_length] at HM
      have HK9 := Lib.hid (HK0.out.of0 (S := fun i => i = b1) |>.then_ HK.out)
      have z1 := (blkCell (HK.out.blk HX3.out (by omega)) 1).trans rfl
      have HX2' := Lib.hid (HK.out.blk HX2.out (by omega))
      have HS' := Lib.hid (HS.out.r.keep HK9.out (fun k h e => (hok k h).1 e))
      have hlw : w.heap.size < wr.heap.size := blkLt HX2'.out
      clear HK0 HX2 HX3 H1 H2
      simp only [List.getElem?_toArray] at z1
      go_wp2_with fail
      go_loopw [7, 22] (fun u i wq => ∃ k : Nat, k ≤ Y.length ∧ i = .int .i64 k ∧ Hid (MapS wq b2 (R ++ Y.take k)) ∧ Hid (MapS wq b1 (C ++ X)) ∧ Hid (Keeps (fun i => i = b2) wr wq)) (fun _ i _ => Y.length - (intOf i).toNat)
      case atStart => exact ⟨0, Nat.zero_le _, rfl, (by simp only [List.take_zero, List.append_nil]; exact HM2.out : MapS _ _ _), HM, Keeps.refl _ _⟩
      case round =>
        obtain ⟨k, hk, rfl, HN, HN1, HQ⟩ := hrel
        by_cases hlt : k < Y.length
        · obtain ⟨b, oo, rfl, hb, hc⟩ := (HS'.out.keep HQ.out (fun k h e => (hok k h).2 e)) (by intro h; subst h; simp at hlt)
          have e0 := hc k hlt
          have i1 : (k : Int) < Y.length := by omega
          have hb2 := blkCell (HQ.out.blk HX2'.out (by omega)) 2
          obtain ⟨L, hL1, hL2⟩ := HN.out
          have HL1 := Lib.hid hL1
          have HL2 := Lib.hid hL2
          have HT := Lib.hid (List.take_succ_eq_append_getElem hlt)
          have y1 := hb2.trans (show _ = some (Value.map (some b2)) from rfl)
          generalize hx : Y[k] = x at *
          clear hc hx hb2 hL1 hL2
          go_wp2_with (at_mapUpdate; refine wp_put rfl _ _ _ 98 rfl 4 (keyInt Tryz.underlying3) Tryz.underlying98 b2 L HL1.out rfl x rfl true rfl ?_; intro w6 hm6 hk6)
          go_roundw
          case rel => exact ⟨k + 1, by omega, by go_num, ⟨_, hm6, by rw [HT.out, ← List.append_assoc]; exact HL2.out.put x⟩, HN1.out.keep hk6 hne, HQ.out.then_ hk6⟩
          case measure => simp [intOf]; omega
        · obtain rfl : Y.length = k := by omega
          rw [List.take_length] at HN
          go_wp2_with fail
          have HF := HK9.out
          refine bodyPost_end (results_none (by rfl) _ _ _) (by rfl) ?_
          exact ⟨⟨_, rfl⟩, HN1.out, HN.out, (show Keeps (fun i => i = b1 ∨ i = b2) w wr from ⟨HQ.out.os.trans HF.os, HQ.out.tape.trans HF.tape, HQ.out.output.trans HF.output, Nat.le_trans HF.size HQ.out.size, fun k hk hn => (HQ.out.block k (Nat.lt_of_lt_of_le hk HF.size) (fun e => hn (.inr e))).trans (HF.block k hk (fun e => hn (.inl e)))⟩)⟩
end Go.Proofs.YthiclhbnggehoaaGreatDoor
