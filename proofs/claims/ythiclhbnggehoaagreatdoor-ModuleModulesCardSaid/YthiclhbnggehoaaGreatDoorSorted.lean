/- What concept.Sorted computes: a map's keys, in order. -/
import Derived.Test.YthiclhbnggehoaaGreatDoorBase
import Derived.Test.YthiclhbnggehoaaGreatDoorRange
import Derived.Test.YthiclhbnggehoaaGreatDoorShelf2
import Derived.Sort.OwnSortedInts
import Derived.OwnWalk
import Derived.Deep.Onto
import Derived.Maps.RangeWalk
namespace Go.Proofs.YthiclhbnggehoaaGreatDoor
open Go.RowKit
set_option linter.unusedVariables false
set_option linter.unusedSimpArgs false
def sliceLen : Value → Nat | .slice _ n _ => n | _ => 0
def sortZ (l : List Int) : List Int := l.mergeSort fun x y => decide (x ≤ y)
theorem sortZ_sorted (l : List Int) : (sortZ l).Pairwise (· ≤ ·) := by
  have := List.pairwise_mergeSort (le := fun x y : Int => decide (x ≤ y)) (by intro a b c h1 h2; simp at *; omega) (by intro a b; simp; omega) l
  exact this.imp (by intro a b h; simpa using h)
theorem sortZ_perm {l m : List Int} (h : l.Perm m) : sortZ l = sortZ m :=
  List.Perm.eq_of_pairwise (le := (· ≤ ·)) (fun a b _ _ h1 h2 => Int.le_antisymm h1 h2) (sortZ_sorted l) (sortZ_sorted m) ((List.mergeSort_perm l _).trans (h.trans (List.mergeSort_perm m _).symm))
theorem sort_calls (zs : List Int) (v : Value) (base : Nat) (w : World) (h : OwnInts w base v zs) (hl : zs.length ≤ 1000000) :
    Calls Tryz.prog 104 #[v] w fun e w' => (∃ u, e = .returned u) ∧ OwnInts w' base v (sortZ zs) ∧ Keeps (fun i => v.ownBlock = some i) w w' := by
  rcases h.2 with ⟨rfl, h0⟩ | ⟨g, cap, cur, rfl, hb, hg, h1, h2, h3, h4⟩
  · have : zs = [] := List.eq_nil_of_length_eq_zero h0
    subst this
    exact (Tryz.slices_Sort_int_none none 0 w).mono fun e w' ⟨he, hw⟩ => ⟨⟨_, he⟩, by rw [hw, show sortZ [] = [] from List.mergeSort_nil ..]; exact OwnInts.nil w base, by rw [hw]; exact Keeps.refl _ _⟩
  · have hH := holds_of_blockI hg (by simpa using h4)
    refine (Tryz.slices_Sort_int g 0 cap zs w hH (blkLt hg) (by omega)).mono ?_
    rintro e w' ⟨he, n, os, rfl⟩
    have hl2 : (sortZ zs).length = zs.length := List.length_mergeSort zs
    have hgr := grownBy_sortedI (w := w) (g := g) (n := n) (os := os) (sortZ zs).toArray
    have hro := ownsRow_sortedI (n := n) (os := os) (ts := sortZ zs) hl2 hb hg h1 h2 h3
    exact ⟨⟨_, he⟩, by unfold OwnInts; rw [hl2]; exact hro, ⟨hgr.os, hgr.tape, hgr.output, hgr.size, fun k hk hn => hgr.block k hk (fun e => hn (by simpa [Value.ownBlock] using e.symm))⟩⟩
set_option maxRecDepth 100000 in
set_option maxHeartbeats 4000000 in
theorem sorted_calls (b : Nat) (l : List (Int × Bool)) (w : World) (h : MapL w b (Value.int .i64) Value.bool l) (hl : l.length ≤ 1000000) :
    Calls Tryz.prog 94 #[.map (some b)] w fun e w' => ∃ v, e = .returned v ∧ OwnInts w' w.heap.size v (sortZ (l.map (·.1))) ∧ Keeps (fun _ => False) w w' := by
  have hbl := h.lt
  have hnd : (l.map (·.1)).Nodup := by obtain ⟨es, c, _, _, _, _, h5⟩ := h; exact h5
  have HM := Lib.hid h
  clear h
  go_enter Tryz.func94, Tryz.ntmps94
  go_wp2_with (at_range; refine wp_range rfl _ 98 rfl 4 Tryz.underlying98 b l rfl HM.out ?_; intro w1 hr1 hk1)
  have HR1 := Lib.hid hr1
  clear hr1
  go_frame
  go_loopw [3] (fun v wr => ∃ done : List Int, Hid (RangeM wr b w.heap.size (Value.int .i64) Value.bool l done) ∧ Hid (OwnInts wr (w.heap.size + 1) v done) ∧ Keeps (fun _ => False) w wr) (fun v _ => l.length - sliceLen v)
  case atStart => exact ⟨[], HR1, OwnInts.nil _ _, hk1⟩
  case round =>
    obtain ⟨done, HRG, HO, HK⟩ := hrel
    have hdl := HRG.out.len
    have hsz := HK.size
    have hrl : w.heap.size < wr.heap.size := by obtain ⟨_, _, _, _, _, _, _, _, _, h5, _⟩ := HRG.out; exact blkLt h5
    have hsl : sliceLen u3 = done.length := by
      rcases HO.out.2 with ⟨rfl, h0⟩ | ⟨g, cap, cur, rfl, _⟩
      · exact h0.symm
      · rfl
    have HSL := Lib.hid hsl
    have hF : Hid (∀ x v w2, Comes Tryz.prog wr w2 b w.heap.size (Value.int .i64) Value.bool l done x v → w2.ownsRow (w.heap.size + 1) 3 1 u3 done.length (done.map (Value.int .i64)) ∧ Keeps (fun _ => False) w w2 ∧ done.length + 1 ≤ l.length ∧ w.heap.size < w2.heap.size ∧ b < w2.heap.size) := by
      intro x v w2 hcome
      have hdl2 := hcome.range.len
      rw [List.length_append, List.length_singleton] at hdl2
      have hs2 := hcome.size
      exact ⟨ownsKeep HO.out hcome.keeps (fun b hb e => by have := HO.out.lt b hb; omega), (HK.of0.then_ hcome.keeps).new (fun i hi => by omega), hdl2, by omega, by omega⟩
    clear hsl
    go_wp2_with (first
      | (at_next; refine wp_next rfl _ rfl b w.heap.size l done rfl HRG.out (fun HALL => ?_) (fun x v w2 hcome => have hen := hcome.entry; ?_))
      | (at_builtin; obtain ⟨HO2, HK2, hd1, hw2, hb2⟩ := hF.out _ _ _ hcome; refine wp_app1 rfl _ _ 31 31 rfl (w.heap.size + 1) 3 (.int .i64 0) 1 8 Tryz.underlying31 infoInt rfl (by decide) (by decide) u3 done.length _ (ownsKeep (S := fun _ => False) HO2 (by repeat (first | exact Keeps.refl _ _ | refine Keeps.drewN ?_ _ | refine Keeps.drew ?_ | refine Keeps.alloc ?_ _ | refine Keeps.set ?_ (Or.inl (by rfl)) _)) (fun _ _ h => h)) rfl _ 1 [.int .i64 x] (Src.ofBlock Tryz.underlying31 (cs := #[.int .i64 x]) (blkNew rfl) rfl (by simp [Value.oneCell'])) rfl (by decide) (by omega) (by simp; omega) ?_; intro g cap w5 ho hk5 hat hcap hlt5))
    · have hperm : done.Perm (l.map (·.1)) := by
        obtain ⟨es, clock, since, seen, c0, _, _, _, h4, _, _, _, _, h9, h10, _⟩ := HRG.out
        exact (List.perm_ext_iff_of_nodup h9 h4).2 (fun a => ⟨h10 a, HALL a⟩)
      have HP := Lib.hid (sortZ_perm hperm)
      have hdl : done.length ≤ 1000000 := by have := hperm.length_eq; simp at this; omega
      clear hperm
      go_wp2_with (go_at_call 104; refine (sort_calls done u3 _ wr HO.out hdl).mono ?_; rintro e w5 ⟨⟨u, rfl⟩, hs5, hk5⟩)
      go_ret
      exact ⟨u3, rfl, by rw [← HP.out]; exact World.ownsRow.mono hs5 (by omega), HK.trans hk5 (fun i hi => .inr (by have := HO.out.lt i hi; omega))⟩
    · have HR2 := hcome.range
      refine ⟨⟨done ++ [x], ?_, ?_, ?_⟩, ?_⟩
      · have hkk := ((Keeps.refl (fun _ => False) w2).alloc (.cells #[.int .i64 x] 3)).of0.then_ hk5
        exact HR2.keep hkk (fun e => by have := HO2.lt _ e; omega) (fun e => by have := HO2.lt _ e; omega)
      · unfold Hid OwnInts; simpa using ho
      · exact ((HK2.alloc _).of0.then_ hk5).new (fun i hi => by have := HO2.lt i hi; omega)
      · rw [HSL.out]; simp only [sliceLen]; omega
theorem sortZ_len (l : List Int) : (sortZ l).length = l.length := List.length_mergeSort l
theorem sortZ_mem {l : List Int} {y : Int} (h : y ∈ sortZ l) : y ∈ l := List.mem_mergeSort.1 h
end Go.Proofs.YthiclhbnggehoaaGreatDoor
