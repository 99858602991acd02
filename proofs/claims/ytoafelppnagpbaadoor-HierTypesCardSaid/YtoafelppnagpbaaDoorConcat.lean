/- What slices.Grow (of nil) and slices.Concat compute, at strings. -/
import Derived.Test.YtoafelppnagpbaaDoorProg
import Derived.Test.YtoafelppnagpbaaDoorApp
import Derived.Lib.Hide
namespace Go.Proofs.YtoafelppnagpbaaDoor
open Go.RowKit
set_option linter.unusedVariables false
set_option linter.unusedSimpArgs false
theorem infoStr : (Tryd.prog.info? 9).map (fun i => (i.zero, i.size, i.bytes)) = some (some (.string ⟨#[]⟩), 1, 16) := by kernel_rfl
set_option maxRecDepth 100000 in
set_option maxHeartbeats 4000000 in
theorem grow_calls (m : Nat) (w : World) (hm : m ≤ 100000) : Calls Tryd.prog 76 #[.slice none 0 0, .int .i64 m] w fun e w' => ∃ v, e = .returned v ∧ w'.ownsRow w.heap.size 9 1 v 0 [] ∧ Keeps (fun _ => False) w w' := by
  by_cases h0 : m = 0
  · subst h0
    go_enter Tryd.func76, Tryd.ntmps76
    go_wp2
    go_ret
    exact ⟨_, rfl, World.ownsRow_nil _ _ _ _, Keeps.refl _ _⟩
  · have h1 : 0 < m := by omega
    have h2 : (0 : Int) < m := by omega
    have HU := Lib.hid Tryd.underlying3
    go_enter Tryd.func76, Tryd.ntmps76
    go_wp2_with (at_builtin; refine wp_zeros_nil rfl _ _ 22 3 rfl Tryd.underlying3 9 (.string ⟨#[]⟩) 1 16 Tryd.underlying22 infoStr rfl (by decide) (by decide) rfl m h1 rfl (by omega) ?_; intro c cs w' hc1 hc2 hc3 hw')
    go_ret
    exact ⟨_, rfl, (World.ownsRow_made w cs c (Nat.le_refl _) hc2 (by simpa using hc3)).drew, ((Keeps.refl _ _).alloc _).drew⟩
/-- Cells that hold slices of strings. -/
def RowsS (ok : Nat → Prop) (w : World) (L : List (List ByteArray)) (b o : Nat) : Prop :=
  ∀ i (h : i < L.length), ∃ A c, w.cell? ⟨b, o + i, none⟩ = some (.slice A L[i].length c) ∧ L[i].length ≤ c ∧ Row1 ok w Value.string L[i] A
theorem RowsS.keep {ok S : Nat → Prop} {w w' : World} {L : List (List ByteArray)} {b o : Nat} (h : RowsS ok w L b o) (hk : Keeps S w w') (hs : ∀ k, ok k → ¬ S k) (hb : ¬ S b) : RowsS ok w' L b o := fun i hi => by
  obtain ⟨A, c, h1, h2, h3⟩ := h i hi
  exact ⟨A, c, hk.cell h1 hb, h2, h3.keep hk hs⟩
theorem take_flat {α : Type} (L : List (List α)) (k : Nat) (h : k < L.length) : (L.take (k + 1)).flatten = (L.take k).flatten ++ L[k] := by
  rw [List.take_succ_eq_append_getElem h, List.flatten_append]; simp
theorem take_flat_le {α : Type} (L : List (List α)) (k : Nat) : (L.take k).flatten.length ≤ L.flatten.length := by
  have : L.flatten.length = ((L.take k).flatten ++ (L.drop k).flatten).length := by rw [← List.flatten_append, List.take_append_drop]
  rw [this, List.length_append]; omega
/-- How many strings the first k lists hold. -/
def flatLen {α : Type} (L : List (List α)) (k : Nat) : Nat := (L.take k).flatten.length
theorem flatLen_succ {α : Type} (L : List (List α)) (k : Nat) (h : k < L.length) : flatLen L (k + 1) = flatLen L k + L[k].length := by unfold flatLen; rw [take_flat L k h, List.length_append]
theorem flatLen_le {α : Type} (L : List (List α)) (k : Nat) : flatLen L k ≤ L.flatten.length := take_flat_le L k
set_option maxRecDepth 100000 in
set_option maxHeartbeats 4000000 in
theorem concat_calls (L : List (List ByteArray)) (ok : Nat → Prop) (b c : Nat) (w : World) (hL : L.length ≤ 100000) (hn : L.flatten.length ≤ 100000) (hr : RowsS ok w L b 0) (h0 : 0 < L.length) :
    Calls Tryd.prog 62 #[.slice (some ⟨b, 0, none⟩) L.length c] w fun e w' => ∃ v, e = .returned v ∧ w'.ownsRow w.heap.size 9 1 v L.flatten.length (L.flatten.map Value.string) ∧ Keeps (fun _ => False) w w' := by
  have HR := Lib.hid hr
  clear hr
  go_enter Tryd.func62, Tryd.ntmps62
  go_wp2_with fail
  go_loop [3, 11] (fun s i => ∃ k : Nat, k ≤ L.length ∧ i = .int .i64 k ∧ s = .int .i64 (flatLen L k : Nat)) (fun _ i => L.length - (intOf i).toNat)
  case atStart => exact ⟨0, Nat.zero_le _, rfl, by simp [flatLen]⟩
  case round =>
    obtain ⟨k, hk, rfl, rfl⟩ := hrel
    by_cases hlt : k < L.length
    · obtain ⟨A, cp, e0, e1, e2⟩ := HR.out k hlt
      rw [Nat.zero_add] at e0
      have hs := Lib.hid (flatLen_succ L k hlt)
      have hle := flatLen_le L (k + 1)
      rw [flatLen_succ L k hlt] at hle
      have E2 := Lib.hid e2
      clear e2
      go_wp2_with fail
      go_round
      case rel => exact ⟨k + 1, by omega, by go_num, by rw [hs.out]; go_num⟩
      case measure => simp [intOf]; omega
    · obtain rfl : k = L.length := by omega
      clear hlt
      have hfl := flatLen_le L L.length
      go_wp2_with (go_at_call 76; refine (grow_calls _ _ (by omega)).mono ?_; rintro e w1 ⟨v, rfl, hv, hk1⟩; have HV := Lib.hid hv; clear hv)
      go_loopw [6, 27] (fun v i wr => ∃ k : Nat, k ≤ L.length ∧ i = .int .i64 k ∧ Hid (wr.ownsRow w.heap.size 9 1 v (flatLen L k) ((L.take k).flatten.map Value.string)) ∧ Keeps (fun _ => False) w wr) (fun _ i _ => L.length - (intOf i).toNat)
      case atStart => exact ⟨0, Nat.zero_le _, rfl, HV, hk1⟩
      case round =>
        obtain ⟨k, hk, rfl, HO, HK⟩ := hrel
        by_cases hlt : k < L.length
        · obtain ⟨A, cp, e0, e1, e2⟩ := (HR.out.keep HK (fun _ _ h => h) (fun h => h)) k hlt
          rw [Nat.zero_add] at e0
          have hs := Lib.hid (take_flat L k hlt)
          have hs2 := Lib.hid (flatLen_succ L k hlt)
          have hle := flatLen_le L (k + 1)
          rw [flatLen_succ L k hlt] at hle
          have E2 := Lib.hid e2
          clear e2
          have hsrc : Hid (Src Tryd.prog 1 22 (.slice A L[k].length cp) L[k].length (L[k].map Value.string) wr) := by
            by_cases hnil : L[k] = []
            · rw [hnil]
              cases A with
              | none => exact Src.ofNil wr Tryd.underlying22 cp
              | some a => exact Src.ofSlice wr Tryd.underlying22 a _ _ [] (by simp) (by simp) (by simp)
            · obtain ⟨b1, o1, rfl, _, hc⟩ := E2.out hnil
              refine Src.ofSlice wr Tryd.underlying22 _ _ _ _ (by simp) (fun j u hu => ?_) (by simp [Value.oneCell'])
              simp only [List.getElem?_map, Option.map_eq_some_iff] at hu
              obtain ⟨x, hx, rfl⟩ := hu
              obtain ⟨hj, rfl⟩ := List.getElem?_eq_some_iff.1 hx
              rw [show ((⟨b1, o1, none⟩ : Addr).add j) = ⟨b1, o1 + j, none⟩ by unfold Addr.add; split <;> simp_all]
              exact hc j hj
          have hsz := HK.size
          go_wp2_with (at_builtin; refine wp_app rfl _ _ 22 22 rfl w.heap.size 9 (.string ⟨#[]⟩) 1 16 Tryd.underlying22 infoStr rfl (by decide) (by decide) _ _ _ HO.out rfl _ _ _ hsrc.out rfl (by omega) hsz ?_; intro v' w2 hv2 hk2 _)
          go_roundw
          case rel => exact ⟨k + 1, by omega, by go_num, by unfold Hid; rw [hs.out, hs2.out, List.map_append]; exact hv2, HK.trans hk2 (fun i hi => .inr (HO.out.lt i hi).1)⟩
          case measure => simp [intOf]; omega
        · obtain rfl : k = L.length := by omega
          go_wp2_with fail
          go_ret
          exact ⟨_, rfl, by have := HO.out; unfold flatLen at this; rw [List.take_length] at this; exact this, HK⟩
end Go.Proofs.YtoafelppnagpbaaDoor
