/- slices.IndexFunc and slices.DeleteFunc of ints. -/
import Derived.Test.YthiclhbnggehoaaGreatDoorBase
import Derived.Test.YthiclhbnggehoaaGreatDoorRising
import Derived.Test.YthiclhbnggehoaaGreatDoorJudge
import Derived.Lib.SliceRun
import Derived.Test.YthiclhbnggehoaaGreatDoorJudgeOf
import Derived.Test.YthiclhbnggehoaaGreatDoorLocal
import Derived.Test.YthiclhbnggehoaaGreatDoorUsesK
namespace Go.Proofs.YthiclhbnggehoaaGreatDoor
open Go.RowKit
set_option linter.unusedVariables false
set_option linter.unusedSimpArgs false
/-- A call that answers a Bool. -/
def SaysB (x : Bool) (w : World) (e : Ending) (w' : World) : Prop := e = .returned (.bool x) ∧ Keeps (fun _ => False) w w'
/-- Where the first element lies that p holds at. -/
def IdxPost (l : List Int) (p : Int → Bool) (w : World) (e : Ending) (w' : World) : Prop := (∃ r : Int, e = .returned (.int .i64 r) ∧ ((r = -1 ∧ ∀ x ∈ l, p x = false) ∨ ∃ k : Nat, r = k ∧ ∃ h : k < l.length, p l[k] = true ∧ ∀ x ∈ l.take k, p x = false)) ∧ Keeps (fun _ => False) w w'
set_option maxRecDepth 100000 in
set_option maxHeartbeats 4000000 in
theorem indexI_calls (l : List Int) (ok : Nat → Prop) (A : Option Addr) (cap : Nat) (w : World) (f : Nat) (lb : Array Value) (p : Int → Bool) (eg : ∀ args w, (callFunc f args).run Tryz.prog w = .ok (.enter f args) w) (hl : Row1 ok w (Value.int .i64) l A) (hlen : l.length ≤ 1000000)
    (hp : ∀ (W : World) (x : Int), Keeps (fun _ => False) w W → Calls Tryz.prog f (#[.int .i64 x] ++ lb) W (SaysB (p x) W)) :
    Calls Tryz.prog 84 #[.slice A l.length cap, .func (.func f) #[] lb] w (IdxPost l p w) := by
  have HL := Lib.hid hl
  have HP := Lib.hid hp
  clear hl hp
  go_enter Tryz.func84, Tryz.ntmps84
  go_wp2_with fail
  go_loopw [5, 8] (fun _ i wr => ∃ k : Nat, k ≤ l.length ∧ i = .int .i64 k ∧ Hid (∀ x ∈ l.take k, p x = false) ∧ Hid (Keeps (fun _ => False) w wr)) (fun _ i _ => l.length - (intOf i).toNat)
  case atStart => exact ⟨0, Nat.zero_le _, rfl, (fun x hx => by simp at hx), Keeps.refl _ _⟩
  case round =>
    obtain ⟨k, hk, rfl, HI, HK⟩ := hrel
    by_cases hlt : k < l.length
    · obtain ⟨b, o, rfl, _, hc⟩ := HL.out.keep HK.out (fun _ _ h => h) (by intro h; subst h; simp at hlt)
      have f0 := hc k hlt
      have HT := Lib.hid (List.take_succ_eq_append_getElem hlt)
      have i1 : (k : Int) < l.length := by omega
      have hpx : ∃ px, p l[k] = px := ⟨_, rfl⟩
      obtain ⟨px, hpx⟩ := hpx
      have HPX := Lib.hid hpx
      have hcall := HP.out wr l[k] HK.out
      rw [hpx] at hcall
      have HLT := Lib.hid hlt
      generalize hx : l[k] = x at *
      have HX := Lib.hid hx
      have HCALL := Lib.hid hcall
      clear hc hcall hpx hx
      go_wp2_with (go_at_fn f; refine HCALL.out.mono ?_; clear HCALL; rintro e w5 ⟨rfl, hk5⟩; have HK5 := Lib.hid hk5; clear hk5; cases px)
      · go_roundw
        case rel => exact ⟨k + 1, by omega, by go_num, (fun y hy => by rw [HT.out, List.mem_append, List.mem_singleton] at hy; rcases hy with hy | rfl; exact HI.out y hy; exact HPX.out), HK.out.then_ HK5.out⟩
        case measure => simp [intOf]; omega
      · go_ret
        exact ⟨⟨k, rfl, .inr ⟨k, rfl, HLT.out, (congrArg p HX.out).trans HPX.out, HI.out⟩⟩, HK.out.then_ HK5.out⟩
    · obtain rfl : l.length = k := by omega
      rw [List.take_length] at HI
      go_wp2_with fail
      go_ret
      exact ⟨⟨-1, rfl, .inl ⟨rfl, HI.out⟩⟩, HK.out⟩
/-- What the row holds on the way: what is kept of the first j elements, then, from j on, what was there. -/
structure DelSt (l : List Int) (p : Int → Bool) (g cap : Nat) (e : Nat) (j : Nat) (cur : Array Value) (w : World) : Prop where
  h : w.heap[g]? = some (.cells cur e (0, 0))
  s : cur.size = cap
  t : cur.toList.take ((l.take j).filter (fun x => !p x)).length = ((l.take j).filter (fun x => !p x)).map (Value.int .i64)
  r : ∀ t (h : t < l.length), j ≤ t → cur[t]? = some (.int .i64 l[t])
theorem DelSt.keepF {l : List Int} {p : Int → Bool} {g cap e j : Nat} {cur : Array Value} {w w' : World} (h : DelSt l p g cap e j cur w) (hk : Keeps (fun _ => False) w w') : DelSt l p g cap e j cur w' := ⟨hk.blk h.h (fun h => h), h.s, h.t, h.r⟩
theorem DelSt.skip {l : List Int} {p : Int → Bool} {g cap e j : Nat} {cur : Array Value} {w : World} (h : DelSt l p g cap e j cur w) (hj : j < l.length) (hp : p l[j] = true) : DelSt l p g cap e (j + 1) cur w where
  h := h.h
  s := h.s
  t := by
    have e1 : (l.take (j + 1)).filter (fun x => !p x) = (l.take j).filter (fun x => !p x) := by rw [List.take_succ_eq_append_getElem hj, List.filter_append]; simp [hp]
    rw [e1]; exact h.t
  r t ht hle := h.r t ht (by omega)
theorem keepLen {l : List Int} {p : Int → Bool} {j : Nat} (hj : j < l.length) (hp : p l[j] = false) : ((l.take (j + 1)).filter (fun x => !p x)) = (l.take j).filter (fun x => !p x) ++ [l[j]] := by
  rw [List.take_succ_eq_append_getElem hj, List.filter_append]; simp [hp]
theorem skipLen {l : List Int} {p : Int → Bool} {j : Nat} (hj : j < l.length) (hp : p l[j] = true) : ((l.take (j + 1)).filter (fun x => !p x)) = (l.take j).filter (fun x => !p x) := by
  rw [List.take_succ_eq_append_getElem hj, List.filter_append]; simp [hp]
theorem DelSt.keep {l : List Int} {p : Int → Bool} {g cap e j i : Nat} {cur : Array Value} {w : World} {x : Int} (h : DelSt l p g cap e j cur w) (hj : j < l.length) (hx : l[j] = x) (hp : p l[j] = false) (hi : i = ((l.take j).filter (fun x => !p x)).length) (hij : i < j) (hc : l.length ≤ cap) : DelSt l p g cap e (j + 1) (cur.setIfInBounds i (.int .i64 x)) (w.setCell ⟨g, i, none⟩ (.int .i64 x)) where
  h := blkSet h.h i _
  s := by rw [Array.size_setIfInBounds]; exact h.s
  t := by
    subst hx
    rw [keepLen hj hp, List.map_append, List.length_append, List.length_singleton, ← hi, Array.toList_setIfInBounds]
    have hlt : i < cur.toList.length := by rw [Array.length_toList, h.s]; omega
    rw [List.take_succ_eq_append_getElem (by simpa using hlt), List.take_set_of_le (Nat.le_refl _)]
    have ht := h.t
    rw [← hi] at ht
    rw [ht]
    simp
  r t ht hle := by
    rw [Array.getElem?_setIfInBounds, if_neg (by omega)]
    exact h.r t ht (by omega)
theorem delStart {l : List Int} {p : Int → Bool} {g cap e k : Nat} {cur : Array Value} {w : World} (hh : w.heap[g]? = some (.cells cur e (0, 0))) (hs : cur.size = cap) (ht : cur.toList.take l.length = l.map (Value.int .i64)) (hc : l.length ≤ cap) (hk : k < l.length) (hp : p l[k] = true) (ha : ∀ x ∈ l.take k, p x = false) :
    DelSt l p g cap e (k + 1) cur w ∧ ((l.take (k + 1)).filter (fun x => !p x)).length = k := by
  have e0 : (l.take k).filter (fun x => !p x) = l.take k := List.filter_eq_self.2 (fun x hx => by simp [ha x hx])
  have e1 : (l.take (k + 1)).filter (fun x => !p x) = l.take k := by rw [List.take_succ_eq_append_getElem hk, List.filter_append, e0]; simp [hp]
  have el : (l.take k).length = k := by rw [List.length_take]; omega
  have hat : ∀ t (h : t < l.length), cur[t]? = some (.int .i64 l[t]) := fun t h => by
    have h2 : (cur.toList.take l.length)[t]? = (l.map (Value.int .i64))[t]? := by rw [ht]
    rw [List.getElem?_take_of_lt h] at h2
    simpa [h] using h2
  refine ⟨⟨hh, hs, ?_, fun t h _ => hat t h⟩, by rw [e1, el]⟩
  rw [e1, el, List.map_take, ← ht, List.take_take]
  congr 1
  omega
set_option maxRecDepth 100000 in
set_option maxHeartbeats 4000000 in
theorem deleteI_calls (l : List Int) (v : Value) (base : Nat) (w : World) (f : Nat) (lb : Array Value) (p : Int → Bool) (eg : ∀ args w, (callFunc f args).run Tryz.prog w = .ok (.enter f args) w) (ho : OwnInts w base v l) (hlen : l.length ≤ 1000000)
    (hp : ∀ (W : World) (x : Int), Keeps (fun i => v.ownBlock = some i) w W → Calls Tryz.prog f (#[.int .i64 x] ++ lb) W (SaysB (p x) W)) :
    Calls Tryz.prog 68 #[v, .func (.func f) #[] lb] w fun e w' => ∃ v', e = .returned v' ∧ OwnInts w' base v' (l.filter fun x => !p x) ∧ Keeps (fun i => v.ownBlock = some i) w w' := by
  have ho' := ho
  obtain ⟨hxl, h2⟩ := ho
  obtain ⟨A, cap0, hA, hrow⟩ : ∃ A cap0, v = .slice A l.length cap0 ∧ Row1 (fun _ => True) w (Value.int .i64) l A := by
    obtain ⟨-, A, c, hv, -, hr⟩ := ownedRow1 ho'
    exact ⟨A, c, hv, hr.mono (fun _ _ => trivial)⟩
  have HIX : Hid (Calls Tryz.prog 84 #[v, .func (.func f) #[] lb] w (IdxPost l p w)) := by
    rw [hA]; exact indexI_calls l (fun _ => True) A cap0 w f lb p eg hrow hlen (fun W x h => hp W x h.of0)
  clear hA hrow
  rcases h2 with ⟨rfl, h0⟩ | ⟨g, cap, cur, rfl, hg, hh, hc, hcm, hcs, ht⟩
  · have : l = [] := List.eq_nil_of_length_eq_zero h0
    subst this
    go_enter Tryz.func68, Tryz.ntmps68
    go_wp2_with (go_at_call 84; refine HIX.out.mono ?_; clear HIX; rintro e w2 ⟨⟨r, rfl, hr⟩, hk2⟩; have hr2 : r = -1 := (by rcases hr with ⟨h, _⟩ | ⟨k, _, h, _⟩; exact h; exact absurd h (by simp)); subst hr2; have HK2 := Lib.hid hk2; clear hr hk2)
    go_ret
    exact ⟨_, rfl, by simpa using OwnInts.nil _ _, HK2.out.of0⟩
  · have hcs' : cur.size = cap := by omega
    rw [Nat.mul_one] at ht
    have HP := Lib.hid hp
    have HH := Lib.hid hh
    have HT := Lib.hid ht
    have HO := Lib.hid ho'
    have hgl := blkLt hh
    clear hp ht ho' hxl
    go_enter Tryz.func68, Tryz.ntmps68
    go_wp2_with (go_at_call 84; refine HIX.out.mono ?_; clear HIX; rintro e w2 ⟨⟨r, rfl, hr⟩, hk2⟩; rcases hr with ⟨rfl, hall⟩ | ⟨k0, rfl, hlt, hp0, hbef⟩)
    · go_ret
      have e1 : l.filter (fun x => !p x) = l := List.filter_eq_self.2 (fun x hx => by simp [hall x hx])
      refine ⟨_, rfl, ?_, hk2.of0⟩
      rw [e1]
      exact ownsKeep HO.out hk2 (fun _ _ h => h)
    · obtain ⟨hst, hsl⟩ := delStart (p := p) (hk2.blk HH.out (fun h => h)) hcs' HT.out hc hlt hp0 hbef
      have HST := Lib.hid hst
      have HSL := Lib.hid hsl
      have HK2 := Lib.hid hk2
      have hk1 : k0 + 1 ≤ l.length := by omega
      clear hst hsl hk2 hbef hp0 HT HO
      go_loopw [5, 6] (fun a c wr => ∃ (i j : Nat) (cu : Array Value), j ≤ l.length ∧ a = .int .i64 i ∧ c = .int .i64 j ∧ i < j ∧ Hid (i = ((l.take j).filter (fun x => !p x)).length) ∧ Hid (DelSt l p g cap 3 j cu wr) ∧ Hid (Keeps (fun i => i = g) w wr)) (fun _ c _ => l.length - (intOf c).toNat)
      case atStart => exact ⟨k0, k0 + 1, cur, hk1, rfl, by go_num, by omega, HSL.out.symm, HST.out, HK2.out.of0⟩
      case round =>
        obtain ⟨i, j, cu, hj, rfl, rfl, hij, HI, HD, HK⟩ := hrel
        by_cases hlt : j < l.length
        · have c0 : wr.cell? ⟨g, j, none⟩ = some (.int .i64 l[j]) := (blkCell HD.out.h j).trans (HD.out.r j hlt (Nat.le_refl _))
          have hil : i < cu.size := by rw [HD.out.s]; omega
          have ci : ∃ u, wr.cell? ⟨g, i, none⟩ = some u := ⟨cu[i], (blkCell HD.out.h i).trans (by simp [hil])⟩
          obtain ⟨u, ci⟩ := ci
          have fi := blkFree HD.out.h i
          have hgr := blkLt HD.out.h
          have i1 : (j : Int) < l.length := by omega
          have i2 : (i : Int) < l.length := by omega
          have hcall := HP.out wr l[j] (by simpa [Value.ownBlock, eq_comm] using HK.out)
          have hpx : ∃ px, p l[j] = px := ⟨_, rfl⟩
          obtain ⟨px, hpx⟩ := hpx
          rw [hpx] at hcall
          have HPX := Lib.hid hpx
          have HLT := Lib.hid hlt
          generalize hx : l[j] = x at *
          have HX := Lib.hid hx
          have HCALL := Lib.hid hcall
          clear hcall hpx hx
          go_wp2_with (go_at_fn f; refine HCALL.out.mono ?_; clear HCALL; rintro e w5 ⟨rfl, hk5⟩; have ci5 := hk5.cell ci (fun h => h); have fi5 := blkFree (hk5.blk HD.out.h (fun h => h)) i; have hg5 := blkLt (hk5.blk HD.out.h (fun h => h)); have HK5 := Lib.hid hk5; clear hk5; cases px)
          · go_roundw
            case rel =>
              have hkp := (HD.out.keepF HK5.out).keep HLT.out HX.out ((congrArg p HX.out).trans HPX.out) HI.out hij hc
              (repeat apply Exists.intro)
              refine ⟨⟨i + 1, j + 1, _, by omega, by go_num, by go_num, by omega, ?_, hkp, (HK.out.then_ HK5.out.of0).then_ (Keeps.set1 _ _ _ _)⟩, rfl⟩
              unfold Hid
              rw [keepLen HLT.out ((congrArg p HX.out).trans HPX.out), List.length_append, List.length_singleton, ← HI.out]
            case measure => simp [intOf]; omega
          · go_roundw
            case rel =>
              have hks := (HD.out.keepF HK5.out).skip HLT.out ((congrArg p HX.out).trans HPX.out)
              (repeat apply Exists.intro)
              refine ⟨⟨i, j + 1, cu, by omega, rfl, by go_num, by omega, ?_, hks, HK.out.then_ HK5.out.of0⟩, rfl⟩
              unfold Hid
              have e1 := skipLen HLT.out ((congrArg p HX.out).trans HPX.out)
              rw [e1]; exact HI.out
            case measure => simp [intOf]; omega
        · obtain rfl : j = l.length := by omega
          have hI := HI.out
          have hT := HD.out.t
          have hS := HD.out.s
          have hB := HD.out.h
          rw [List.take_length] at hI hT
          rw [← hI] at hT
          have i2 : (i : Int) < l.length := by omega
          have hcl : ∀ ty, (Builtin.clear_ #[31] ty #[.slice (some ⟨g, i, none⟩) (l.length - i) (cap - i)]).run Tryz.prog wr = .ok (.tuple #[]) (wr.setCells g i (List.replicate (l.length - i) (.int .i64 0))) :=
            fun ty => Lib.run_clear_slice wr _ 3 ty _ Tryz.underlying31 Tryz.zeroValue3 rfl rfl g i _ _ (by omega) (fun t ht => by rw [blkCell hB, Array.getElem?_eq_getElem (show i + t < cu.size by omega)]; rfl) (fun t ht => blkFree hB _)
          obtain ⟨cu2, b1, b2, b3⟩ := setMany (List.replicate (l.length - i) (.int .i64 0)) i wr cu hB (by simp; omega)
          have b4 := setMany_same g (List.replicate (l.length - i) (.int .i64 0)) i wr
          have HC := Lib.hid (And.intro b1 (And.intro b2 (And.intro b3 b4)))
          have HTT := Lib.hid hT
          clear hI hT hS hB b1 b2 b3 b4
          go_wp2_with fail
          go_ret
          obtain ⟨b1, b2, b3, b4⟩ := HC.out
          have e1 : cu2.toList.take i = (l.filter (fun x => !p x)).map (Value.int .i64) := by
            have h := congrArg (List.take i) b3
            rw [List.take_take, Nat.min_eq_left (by omega), List.take_append_of_le_length (by rw [List.length_take]; have := HD.out.s; simp; omega), List.take_take, Nat.min_self] at h
            rw [h, HTT.out]
          have hil : i = (l.filter (fun x => !p x)).length := by have h := HI.out; rw [List.take_length] at h; exact h
          refine ⟨.slice (some ⟨g, 0, none⟩) i cap, rfl, ⟨by simp, .inr ⟨g, cap, cu2, by rw [hil], hg, b1, by omega, hcm, by rw [b2, HD.out.s]; omega, by rw [← hil, Nat.mul_one]; exact e1⟩⟩, ?_⟩
          have hk4 : Keeps (fun i => i = g) wr (wr.setCells g i (List.replicate (l.length - i) (.int .i64 0))) := ⟨b4.1, b4.2.1, b4.2.2.1, by rw [b4.2.2.2.1]; exact Nat.le_refl _, fun k _ hk => b4.2.2.2.2 k hk⟩
          simpa [Value.ownBlock, eq_comm] using HK.out.then_ hk4
end Go.Proofs.YthiclhbnggehoaaGreatDoor
/- module.module: the module within some axioms, for one kind. -/
namespace Go.Proofs.YthiclhbnggehoaaGreatDoor
open Go.RowKit
set_option linter.unusedVariables false
set_option linter.unusedSimpArgs false
def zs (l : List Nat) : List Int := l.map fun k : Nat => (k : Int)
theorem zs_mem {l : List Nat} {k : Nat} : (k : Int) ∈ zs l ↔ k ∈ l := by
  unfold zs
  rw [List.mem_map]
  refine ⟨fun ⟨a, h, e⟩ => ?_, fun h => ⟨k, h, rfl⟩⟩
  obtain rfl : a = k := by omega
  exact h
set_option maxRecDepth 100000 in
set_option maxHeartbeats 4000000 in
theorem modClo_calls (gb gi : Nat) (X : List Int) (x : Int) (w : World) (hb : w.heap[gb]? = some (.cells #[.map (some gi)] 98 (0, 0))) (hm : MapS w gi X) :
    Calls Tryz.prog 70 #[.int .i64 x, .pointer (some ⟨gb, 0, none⟩)] w (SaysB (!decide (x ∈ X)) w) := by
  obtain ⟨L, m1, m2⟩ := hm
  have HM := Lib.hid m1
  have HLK : Hid (((findL L x).map Value.bool).getD (.bool false) = .bool (decide (x ∈ X))) := m2.look x
  have c0 := cells1 hb
  have hl := blkLt hb
  clear m1 m2 hb
  generalize decide (x ∈ X) = d at *
  go_enter Tryz.func70, Tryz.ntmps70
  go_wp2_with (at_lookup; refine wp_look rfl _ _ 98 false rfl 4 (keyInt Tryz.underlying3) Tryz.underlying98 gi L HM.out rfl (.bool false) (zeroBool _) x rfl ?_; rw [HLK.out]; simp only [Bool.false_eq_true, if_false])
  go_ret
  exact ⟨rfl, Keeps.refl _ _⟩
/-- How many entries a map has. -/
def mapSz (w : World) (g : Nat) : Nat := match w.heap[g]? with | some (.map es _) => es.size | _ => 0
theorem mapSz_eq {w : World} {g : Nat} {Z : List Int} (h : MapS w g Z) (hz : Z.Nodup) : mapSz w g = Z.length := by
  obtain ⟨L, ⟨es, c, h1, h2, _, _, h5⟩, hs⟩ := h
  have hmem : ∀ y, y ∈ L.map (·.1) ↔ y ∈ Z := fun y => by
    rw [← findL_isSome, hs y]
    by_cases e : y ∈ Z <;> simp [e]
  have l1 := nodup_len h5 (fun x hx => (hmem x).1 hx)
  have l2 := nodup_len hz (fun x hx => (hmem x).2 hx)
  have l3 := congrArg List.length h2
  simp only [List.length_map, Array.length_toList] at l1 l2 l3
  unfold mapSz
  rw [h1]
  show es.size = _
  omega
theorem MapS.keepS {S : Nat → Prop} {w w' : World} {b : Nat} {C : List Int} (h : ∃ L, MapL w b (Value.int .i64) Value.bool L ∧ SetM L C) (hk : Keeps S w w') (hs : ¬ S b) : MapS w' b C := MapS.keep h hk hs
/-- 1 at true. -/
def b2n : Value → Nat | .bool true => 1 | _ => 0
/-- What module's sets hold on the way. -/
structure ModSt (b : Kb) (top : Bool) (C R : List Int) (within : List Nat) (b1 b2 gj gi : Nat) (X : List Nat) (w0 w : World) : Prop where
  j : ∃ C' R', JudgeR w C' R' b1 b2 gj ∧ (∀ y, y ∈ C' ↔ y ∈ sigN (axAt b) C X) ∧ (∀ y, y ∈ R' ↔ y ∈ sigR (axAt b) R X)
  i : MapS w gi (zs X)
  m : ∀ k ∈ X, InMod (axAt b) top C R within k
  nd : X.Nodup
  k : Keeps (fun i => i = b1 ∨ i = b2 ∨ i = gi) w0 w
theorem ModSt.keepF {b : Kb} {top : Bool} {C R : List Int} {within : List Nat} {b1 b2 gj gi : Nat} {X : List Nat} {w0 w w' : World} (h : ModSt b top C R within b1 b2 gj gi X w0 w) (hk : Keeps (fun _ => False) w w') : ModSt b top C R within b1 b2 gj gi X w0 w' := by
  obtain ⟨⟨C', R', h1, h2, h3⟩, hi, hm, hn, hkk⟩ := h
  exact ⟨⟨C', R', h1.still hk, h2, h3⟩, hi.keep hk (fun h => h), hm, hn, hkk.then_ hk.of0⟩
theorem inL_congr {l m : List Int} (h : ∀ y, y ∈ l ↔ y ∈ m) : inL l = inL m := by funext n; unfold inL; exact decide_eq_decide.2 (h n)
theorem zs_nodup {l : List Nat} (h : l.Nodup) : (zs l).Nodup := by
  unfold zs
  refine (List.pairwise_map).2 (h.imp ?_)
  intro a b hab e; exact hab (by omega)
theorem zs_len (l : List Nat) : (zs l).length = l.length := List.length_map ..
theorem nodup_lenN {l m : List Nat} (h : l.Nodup) (hs : ∀ x ∈ l, x ∈ m) : l.length ≤ m.length := by
  have := nodup_len (zs_nodup h) (m := zs m) (fun x hx => by
    unfold zs at hx
    obtain ⟨a, ha, rfl⟩ := List.mem_map.1 hx
    exact zs_mem.2 (hs a ha))
  rw [zs_len, zs_len] at this; exact this
theorem ModSt.local_ {b : Kb} {top : Bool} {C R : List Int} {X : List Nat} {C' R' : List Int} (h1 : ∀ y, y ∈ C' ↔ y ∈ sigN (axAt b) C X) (h2 : ∀ y, y ∈ R' ↔ y ∈ sigR (axAt b) R X) (k : Nat) : localX top (inL C') (inL R') (axAt b k) = localAt (axAt b) top C R X k := by
  unfold localAt; rw [inL_congr h1, inL_congr h2]
theorem sigN_snoc (A : Nat → Ax) (C : List Int) (X : List Nat) (k : Nat) : sigN A C (X ++ [k]) = sigN A C X ++ namesAx (A k) := by unfold sigN; rw [flatMap_snoc, List.append_assoc]
theorem sigR_snoc (A : Nat → Ax) (C : List Int) (X : List Nat) (k : Nat) : sigR A C (X ++ [k]) = sigR A C X ++ rolesAx (A k) := by unfold sigR; rw [flatMap_snoc, List.append_assoc]
theorem zs_snoc (X : List Nat) (k : Nat) : zs (X ++ [k]) = zs X ++ [(k : Int)] := by unfold zs; rw [List.map_append]; rfl
open Classical in
theorem filter_zs {within X : List Nat} : (zs within).filter (fun x => !!decide (x ∈ zs X)) = zs (within.filter fun k => decide (k ∈ X)) := by
  unfold zs
  rw [List.filter_map]
  congr 1
  refine List.filter_congr (fun k _ => ?_)
  simp only [Function.comp_apply, Bool.not_not]
  exact decide_eq_decide.2 (zs_mem (l := X))
set_option maxRecDepth 100000 in
set_option maxHeartbeats 4000000 in
theorem module_calls (top : Bool) (b : Kb) (p : KbA) (within : List Nat) (C R : List Int) (A0 AS BS : Option Addr) (cl cS dS : Nat) (ok : Nat → Prop) (m : Int) (w : World) (hm : w.cell? ⟨1, 0, none⟩ = some (.int .i64 m)) (ht : ArgsTab w) (hb : KbR ok w b p) (hok : ∀ k, ok k → k < w.heap.size) (ho : KbOk b)
    (hw : ∀ k ∈ within, k < kbCount b) (hnd : within.Nodup) (hwl : within.length ≤ 1000000) (hl : Row1 ok w (Value.int .i64) (zs within) A0) (hs : SigR ok w C R AS BS) (hC : C.length ≤ 1000000) (hR : R.length ≤ 1000000) :
    Calls Tryz.prog 37 #[.agg #[.slice p.a0 b.cs.length p.c0, .slice p.a1 b.rs.length p.c1, .slice p.a2 b.is.length p.c2, .slice p.a3 b.incls.length p.c3, .slice p.a4 b.roles.length p.c4, .slice p.a5 b.facts.length p.c5, .slice p.a6 b.links.length p.c6], .slice A0 within.length cl, .agg #[.slice AS C.length cS, .slice BS R.length dS], .int .i64 (topI top)] w fun e w' => ∃ v, e = .returned v ∧ OwnInts w' w.heap.size v (zs (modL (axAt b) top C R within)) ∧ Keeps (fun _ => False) w w' := by
  have HJO : Hid (∀ W, Keeps (fun _ => False) w W → Calls Tryz.prog 45 #[.agg #[.slice AS C.length cS, .slice BS R.length dS], .int .i64 (topI top)] W fun e w' => ∃ b1 b2 g, e = .returned (JV top b1 b2 g) ∧ JudgeR w' C R b1 b2 g ∧ W.heap.size ≤ b1 ∧ W.heap.size ≤ b2 ∧ W.heap.size ≤ g ∧ b1 ≠ b2 ∧ Keeps (fun _ => False) W w') :=
    fun W h => judgeOf_calls top C R AS BS cS dS ok W (hs.keep h (fun _ _ h => h)) (fun k hk => Nat.lt_of_lt_of_le (hok k hk) h.size) hC hR
  obtain ⟨T, hT⟩ : ∃ T, outV top = .iface T (.agg #[]) := ⟨_, outV_eq top⟩
  have HT := Lib.hid hT
  unfold JV at HJO
  rw [hT] at HJO
  have HB := Lib.hid hb
  have HO := Lib.hid ho
  have HM := Lib.hid hm
  have HTB := Lib.hid ht
  have HL := Lib.hid hl
  have HWN := Lib.hid hw
  have HND := Lib.hid hnd
  have hzl : (zs within).length = within.length := zs_len _
  clear hs hT hb ho hm ht hl hw hnd
  obtain ⟨a0, a1, a2, a3, a4, a5, a6, c0, c1, c2, c3, c4, c5, c6⟩ := p
  have mk := mkMapS
  go_enter Tryz.func37, Tryz.ntmps37
  go_wp2_with (go_at_call 45; refine (HJO.out _ (by repeat (first | exact Keeps.refl _ _ | refine Keeps.drewN ?_ _ | refine Keeps.drew ?_ | refine Keeps.alloc ?_ _ | refine Keeps.set ?_ (Or.inl (by rfl)) _))).mono ?_; clear HJO; rintro e w2 ⟨b1, b2, gj, rfl, hj, n1, n2, n3, hne, hk2⟩; have HK2 := Lib.hid (Keeps.then_ (a := w) (by repeat (first | exact Keeps.refl _ _ | refine Keeps.drewN ?_ _ | refine Keeps.drew ?_ | refine Keeps.alloc ?_ _ | refine Keeps.set ?_ (Or.inl (by rfl)) _)) hk2); have hb2 : w2.heap[w.heap.size]? = some (.cells #[.slice a0 b.cs.length c0, .slice a1 b.rs.length c1, .slice a2 b.is.length c2, .slice a3 b.incls.length c3, .slice a4 b.roles.length c4, .slice a5 b.facts.length c5, .slice a6 b.links.length c6] 30 (0, 0)) := hk2.blk (blkAlloc (blkNew rfl) _) (fun h => h); have HB2 := Lib.hid hb2; have HJ := Lib.hid hj; have hz2 := hk2.size; clear hk2 hb2 hj)
  generalize hW3 : World.alloc _ _ = W3
  have q9 : W3.heap[w2.heap.size]? = some (.cells #[.iface T (.agg #[]), .map (some b1), .map (some b2), .pointer (some ⟨gj, 0, none⟩)] 101 (0, 0)) := by rw [← hW3]; exact blkAlloc (blkAlloc (blkNew rfl) _) _
  have qi : W3.heap[w2.heap.size + 1]? = some (.map #[] 0) := by rw [← hW3]; exact blkAlloc (blkNew (by simp)) _
  have q10 : W3.heap[w2.heap.size + 1 + 1]? = some (.cells #[.map (some (w2.heap.size + 1))] 98 (0, 0)) := by rw [← hW3]; exact blkNew (by simp)
  have hk3 : Keeps (fun _ => False) w2 W3 := by rw [← hW3]; repeat (first | exact Keeps.refl _ _ | refine Keeps.drewN ?_ _ | refine Keeps.drew ?_ | refine Keeps.alloc ?_ _ | refine Keeps.set ?_ (Or.inl (by rfl)) _)
  have hz3 : W3.heap.size = w2.heap.size + 3 := by rw [← hW3]; simp
  clear hW3
  have jl1 : b1 < w2.heap.size := by obtain ⟨L, h, _⟩ := HJ.out.c; exact h.lt
  have jl2 : b2 < w2.heap.size := by obtain ⟨L, h, _⟩ := HJ.out.r; exact h.lt
  have jl3 : gj < w2.heap.size := blkLt HJ.out.t
  have hz2' : w.heap.size + 2 ≤ w2.heap.size := by simpa using hz2
  have n1' : w.heap.size + 2 ≤ b1 := by simpa using n1
  have n2' : w.heap.size + 2 ≤ b2 := by simpa using n2
  have n3' : w.heap.size + 2 ≤ gj := by simpa using n3
  have HST : Hid (ModSt b top C R within b1 b2 gj (w2.heap.size + 1) [] W3 W3) := ⟨⟨C, R, HJ.out.still hk3, fun y => by simp [sigN], fun y => by simp [sigR]⟩, MapS.made qi, (by simp), List.nodup_nil, Keeps.refl _ _⟩
  have HB3 := Lib.hid (hk3.blk HB2.out (fun h => h))
  have HK3 := Lib.hid (HK2.out.then_ hk3)
  have H9 := Lib.hid q9
  have H10 := Lib.hid q10
  have hbj1 : b1 ≠ gj := by rintro rfl; obtain ⟨L, ⟨es, c, h, _⟩, _⟩ := HJ.out.c; rw [HJ.out.t] at h; cases h
  have hbj2 : b2 ≠ gj := by rintro rfl; obtain ⟨L, ⟨es, c, h, _⟩, _⟩ := HJ.out.r; rw [HJ.out.t] at h; cases h
  clear q9 qi q10 hk3 n1 n2 n3 hz2 HB2 HJ HK2
  generalize w2.heap.size = g at *
  go_loopw [11] (fun mo wr => ∃ (X : List Nat) (more : Bool), mo = .bool more ∧ Hid (ModSt b top C R within b1 b2 gj (g + 1) X W3 wr) ∧ Hid (more = false → ClosedM (axAt b) top C R within X)) (fun mo wr => 2 * (within.length - mapSz wr (g + 1)) + b2n mo)
  case atStart => exact ⟨[], true, rfl, HST.out, fun h => absurd h (by decide)⟩
  case round =>
    obtain ⟨X, more, rfl, HS, HC⟩ := hrel
    cases more
    · have hkr := HS.out.k
      have hzr := hkr.size
      have h10 := hkr.blk H10.out (by omega)
      have HCL : Hid (Calls Tryz.prog 69 #[.slice A0 within.length cl] wr fun e w' => ∃ v, e = .returned v ∧ w'.ownsRow wr.heap.size 3 1 v (zs within).length ((zs within).map (Value.int .i64)) ∧ Keeps (fun _ => False) wr w') := by
        have h := cloneI_calls (zs within) ok A0 cl wr ((HL.out.keep HK3.out (fun _ _ h => h)).keep hkr (fun k hk e => by have := hok k hk; omega)) (by omega)
        rw [← hzl]; exact h
      have HDE : Hid (∀ W v, Keeps (fun _ => False) wr W → OwnInts W wr.heap.size v (zs within) → Calls Tryz.prog 68 #[v, .func (.func 70) #[] #[.pointer (some ⟨g + 1 + 1, 0, none⟩)]] W fun e w' => ∃ v', e = .returned v' ∧ OwnInts w' wr.heap.size v' ((zs within).filter fun x => !!decide (x ∈ zs X)) ∧ Keeps (fun i => v.ownBlock = some i) W w') := by
        intro W v hW ho
        refine deleteI_calls (zs within) v wr.heap.size W 70 #[.pointer (some ⟨g + 1 + 1, 0, none⟩)] (fun x => !decide (x ∈ zs X)) (enters_of Tryz.func70 (by kernel_rfl) rfl) ho (by omega) (fun W2 x h2 => ?_)
        have hlt := ho.lt
        exact modClo_calls (g + 1 + 1) (g + 1) (zs X) x W2 (h2.blk (hW.blk h10 (fun h => h)) (fun e => by have := (hlt _ e).1; omega)) ((HS.out.i.keep hW (fun h => h)).keep h2 (fun e => by have := (hlt _ e).1; omega))
      have H10r := Lib.hid h10
      have HKR := Lib.hid hkr
      have H10L := blkLt h10
      clear h10 hkr
      go_wp2_with (first | (go_at_call 69; refine HCL.out.mono ?_; clear HCL; rintro e w5 ⟨v5, rfl, ho5, hk5⟩; have HO5 := Lib.hid ho5; have HK5 := Lib.hid hk5; clear ho5 hk5) | (go_at_call 68; refine (HDE.out w5 v5 HK5.out HO5.out).mono ?_; clear HDE; rintro e w6 ⟨v6, rfl, ho6, hk6⟩; have HO6 := Lib.hid ho6; have HK6 := Lib.hid hk6; clear ho6 hk6) | fail)
      go_ret
      have hw3 := HK3.out.size
      refine ⟨v6, rfl, ?_, ((HK3.out.trans HKR.out (fun i hi => .inr (by omega))).then_ HK5.out).trans HK6.out (fun i hi => .inr (by have := (HO5.out.lt i hi).1; omega))⟩
      have h := HO6.out
      rw [filter_zs, filter_modL HS.out.m (HC.out (by trivial))] at h
      exact World.ownsRow.mono h (by omega)
    · go_wp2_with fail
      go_loopw [11, 21] (fun mo i wr => ∃ (k : Nat) (Y : List Nat) (mr : Bool), k ≤ within.length ∧ i = .int .i64 k ∧ mo = .bool mr ∧ Hid (ModSt b top C R within b1 b2 gj (g + 1) Y W3 wr) ∧ Hid (mr = false → ∀ j (h : j < within.length), j < k → within[j] ∈ Y ∨ localAt (axAt b) top C R Y within[j] = true) ∧ X.length ≤ Y.length ∧ (mr = true → X.length < Y.length)) (fun _ i _ => within.length - (intOf i).toNat)
      case atStart => exact ⟨0, X, false, Nat.zero_le _, rfl, rfl, HS.out, fun _ j _ h => by omega, Nat.le_refl _, fun h => by cases h⟩
      case round =>
        obtain ⟨k, Y, mr, hk, rfl, rfl, HY, HL2, hxy, hxy2⟩ := hrel
        have hkq := HY.out.k
        have hzq := hkq.size
        by_cases hlt : k < within.length
        · have hkbr : KbR ok wr b ⟨a0, a1, a2, a3, a4, a5, a6, c0, c1, c2, c3, c4, c5, c6⟩ := (HB.out.keep HK3.out (fun _ _ h => h)).keep hkq (fun k hk e => by have := hok k hk; omega)
          obtain ⟨ba, oa, hae, hba, hca⟩ := HL.out (by intro h; rw [h] at hzl; simp at hzl; omega)
          have e0 : w.cell? ⟨ba, oa + k, none⟩ = some (.int .i64 (within[k] : Int)) := by have h := hca k (by omega); simp only [zs, List.getElem_map] at h; exact h
          have hbl := hok ba hba
          subst hae
          have e1 : wr.cell? ⟨ba, oa + k, none⟩ = some (.int .i64 (within[k] : Int)) := hkq.cell (HK3.out.cell e0 (fun h => h)) (by omega)
          have hxm : within[k] ∈ within := List.getElem_mem hlt
          have HLT := Lib.hid hlt
          have i1 : (k : Int) < within.length := by omega
          have hstep : ∀ (Y' : List Nat), (∀ y ∈ Y, y ∈ Y') → (within[k] ∈ Y' ∨ localAt (axAt b) top C R Y' within[k] = true) → (∀ j (h : j < within.length), j < k → within[j] ∈ Y' ∨ localAt (axAt b) top C R Y' within[j] = true) → ∀ j (h : j < within.length), j < k + 1 → within[j] ∈ Y' ∨ localAt (axAt b) top C R Y' within[j] = true := by
            intro Y' _ h1 h2 j hj hjk
            by_cases e : j = k
            · subst e; exact h1
            · exact h2 j hj (by omega)
          have HSTEP := Lib.hid hstep
          clear hstep e0 hca
          generalize hx : within[k] = x at *
          have hxk : x < kbCount b := HWN.out x hxm
          obtain ⟨⟨C', R', hj, hc1, hr1⟩, hi, hmm, hnd, -⟩ := HY.out
          obtain ⟨L, ml1, ml2⟩ := hi
          have z10 := cells1 (hkq.blk H10.out (by omega))
          obtain ⟨z0, z1, z2, z3⟩ := cells4 (hkq.blk H9.out (by omega))
          obtain ⟨y0, y1, y2, y3, y4, y5, y6⟩ := cells7 (hkq.blk HB3.out (by omega))
          have HML := Lib.hid ml1
          have HLK : Hid (((findL L (x : Int)).map Value.bool).getD (.bool false) = .bool (decide ((x : Int) ∈ zs Y))) := ml2.look _
          have hdec : decide ((x : Int) ∈ zs Y) = decide (x ∈ Y) := decide_eq_decide.2 zs_mem
          rw [hdec] at HLK
          have hloc : Calls Tryz.prog 46 #[.agg #[.iface T (.agg #[]), .map (some b1), .map (some b2), .pointer (some ⟨gj, 0, none⟩)], .agg #[.slice a0 b.cs.length c0, .slice a1 b.rs.length c1, .slice a2 b.is.length c2, .slice a3 b.incls.length c3, .slice a4 b.roles.length c4, .slice a5 b.facts.length c5, .slice a6 b.links.length c6], .int .i64 (x : Int)] wr (RetB (localAt (axAt b) top C R Y x) wr) := by
            have h := local_calls top C' R' b ⟨a0, a1, a2, a3, a4, a5, a6, c0, c1, c2, c3, c4, c5, c6⟩ b1 b2 gj x ok wr hkbr HO.out.fit hj hxk (by have := HO.out.l1; omega) (by have := HO.out.l2; omega) (by have := HO.out.l3; omega) (by have := HO.out.l4; omega)
            unfold JV at h
            rw [HT.out, ModSt.local_ hc1 hr1] at h
            exact h
          have HLOC := Lib.hid hloc
          have HJ := Lib.hid hj
          have HCC := Lib.hid (And.intro hc1 hr1)
          have HMS : Hid (MapS wr (g + 1) (zs Y)) := ⟨L, ml1, ml2⟩
          have HKB := Lib.hid hkbr
          have HKQ := Lib.hid hkq
          have HXM := Lib.hid hxm
          have HXK := Lib.hid hxk
          have HMM := Lib.hid hmm
          have HNY := Lib.hid hnd
          have HX := Lib.hid hx
          have gl1 : g + 1 + 1 < wr.heap.size := by omega
          have gl2 : g < wr.heap.size := by omega
          have gl3 : w.heap.size < wr.heap.size := by omega
          clear hloc hj hc1 hr1 hkbr hkq hxm hxk hmm hnd ml1 ml2 hdec hx
          by_cases hin : x ∈ Y
          · have hd : decide (x ∈ Y) = true := decide_eq_true hin
            have HIN := Lib.hid hin
            rw [hd] at HLK
            clear hin hd
            go_wp2_with (first | (at_lookup; refine wp_look rfl _ _ 98 false rfl 4 (keyInt Tryz.underlying3) Tryz.underlying98 (g + 1) L HML.out rfl (.bool false) (zeroBool _) (x : Int) rfl ?_; rw [HLK.out]; simp only [Bool.false_eq_true, if_false]) | fail)
            go_roundw
            case rel =>
              first
                | exact ⟨k + 1, Y, mr, by omega, by go_num, rfl, HY.out, fun h => HSTEP.out Y (fun _ h => h) (.inl HIN.out) (HL2.out h), hxy, hxy2⟩
                | ((repeat apply Exists.intro); exact ⟨⟨k + 1, Y, mr, by omega, by go_num, rfl, HY.out, fun h => HSTEP.out Y (fun _ h => h) (.inl HIN.out) (HL2.out h), hxy, hxy2⟩, rfl⟩)
                | fail
            case measure => simp [intOf]; omega
          · have hd : decide (x ∈ Y) = false := decide_eq_false hin
            have HIN := Lib.hid hin
            rw [hd] at HLK
            clear hin hd
            cases hlc : localAt (axAt b) top C R Y x
            · rw [hlc] at HLOC
              have HLC := Lib.hid hlc
              clear hlc
              go_wp2_with (first | (at_lookup; refine wp_look rfl _ _ 98 false rfl 4 (keyInt Tryz.underlying3) Tryz.underlying98 (g + 1) L HML.out rfl (.bool false) (zeroBool _) (x : Int) rfl ?_; rw [HLK.out]; simp only [Bool.false_eq_true, if_false]) | (go_at_call 46; refine HLOC.out.mono ?_; clear HLOC; rintro e w5 ⟨rfl, hk5⟩; have z10' := hk5.cell z10 (fun h => h); have hl10 := Nat.lt_of_lt_of_le gl1 hk5.size; obtain ⟨w6, run6, m6, k6, -⟩ := (HMS.out.keep hk5 (fun h => h)).put (x : Int); have HM6 := Lib.hid m6; have HK56 := Lib.hid (hk5.of0.then_ k6); clear hk5 m6 k6) | fail)
              have h9 := HK56.out.blk (HKQ.out.blk H9.out (by omega)) (by omega)
              have hb3 := HK56.out.blk (HKQ.out.blk HB3.out (by omega)) (by omega)
              have HH : Hid (∀ w', Keeps (fun i => i = b1 ∨ i = b2) w6 w' → (w'.cell? ⟨g, 0, none⟩ = some (.iface T (.agg #[])) ∧ w'.cell? ⟨g, 1, none⟩ = some (.map (some b1)) ∧ w'.cell? ⟨g, 2, none⟩ = some (.map (some b2)) ∧ w'.cell? ⟨g, 3, none⟩ = some (.pointer (some ⟨gj, 0, none⟩)) ∧ w'.cell? ⟨w.heap.size, 0, none⟩ = some (.slice a0 b.cs.length c0) ∧ w'.cell? ⟨w.heap.size, 1, none⟩ = some (.slice a1 b.rs.length c1) ∧ w'.cell? ⟨w.heap.size, 2, none⟩ = some (.slice a2 b.is.length c2) ∧ w'.cell? ⟨w.heap.size, 3, none⟩ = some (.slice a3 b.incls.length c3) ∧ w'.cell? ⟨w.heap.size, 4, none⟩ = some (.slice a4 b.roles.length c4) ∧ w'.cell? ⟨w.heap.size, 5, none⟩ = some (.slice a5 b.facts.length c5) ∧ w'.cell? ⟨w.heap.size, 6, none⟩ = some (.slice a6 b.links.length c6))) := fun w' hk => by
                obtain ⟨q0, q1, q2, q3⟩ := cells4 (hk.blk h9 (by omega))
                obtain ⟨r0, r1, r2, r3, r4, r5, r6⟩ := cells7 (hk.blk hb3 (by omega))
                exact ⟨q0, q1, q2, q3, r0, r1, r2, r3, r4, r5, r6⟩
              have hz6 : wr.heap.size ≤ w6.heap.size := HK56.out.size
              have HNA : Hid (∀ W gx, Keeps (fun _ => False) w6 W → W.cell? ⟨gx, 0, none⟩ = some (.int .i64 (x : Int)) → Calls Tryz.prog 53 #[.agg #[.slice a0 b.cs.length c0, .slice a1 b.rs.length c1, .slice a2 b.is.length c2, .slice a3 b.incls.length c3, .slice a4 b.roles.length c4, .slice a5 b.facts.length c5, .slice a6 b.links.length c6], .slice (some ⟨gx, 0, none⟩) 1 1] W (RetSig (fun y => y ∈ namesAx (axAt b x)) (fun y => y ∈ rolesAx (axAt b x)) W)) := by
                intro W gx hW hc
                have hsz := hW.size
                have hkall : Keeps (fun i => i = b1 ∨ i = b2 ∨ i = g + 1) w W := ((HK3.out.of0.then_ HKQ.out).trans HK56.out (fun i hi => .inl (by omega))).then_ hW.of0
                refine names1_calls b ⟨a0, a1, a2, a3, a4, a5, a6, c0, c1, c2, c3, c4, c5, c6⟩ x (some ⟨gx, 0, none⟩) 1 (fun k => k < W.heap.size) m W (hkall.cell HM.out (by have := World.block_lt_of_cell? w _ HM.out; simp only at this; omega)) (HTB.out.keep hkall (by obtain ⟨t, fz, h⟩ := HTB.out; have := blkLt h; omega)) ((HB.out.keep hkall (fun k hk e => by have := hok k hk; omega)).mono (fun k hk => by have := hok k hk; omega)) (fun k hk => hk) HO.out HXK.out ?_
                intro _
                refine ⟨gx, 0, rfl, World.block_lt_of_cell? W _ hc, fun i hi => ?_⟩
                obtain rfl : i = 0 := by simpa using hi
                simpa using hc
              have H9r := Lib.hid h9
              have hka : Keeps (fun _ => False) w6 (World.alloc w6 (.cells #[.int .i64 (x : Int)] 3)).drew := ((Keeps.refl (fun _ => False) w6).alloc (.cells #[.int .i64 (x : Int)] 3)).drew
              have hca : (World.alloc w6 (.cells #[.int .i64 (x : Int)] 3)).drew.cell? ⟨w6.heap.size, 0, none⟩ = some (.int .i64 (x : Int)) := by
                have h : (World.alloc w6 (.cells #[.int .i64 (x : Int)] 3)).cell? ⟨w6.heap.size, 0, none⟩ = some (.int .i64 (x : Int)) := (blkCell (blkNew rfl) 0).trans rfl
                exact h
              have HNB : Hid (Calls Tryz.prog 53 #[.agg #[.slice a0 b.cs.length c0, .slice a1 b.rs.length c1, .slice a2 b.is.length c2, .slice a3 b.incls.length c3, .slice a4 b.roles.length c4, .slice a5 b.facts.length c5, .slice a6 b.links.length c6], .slice (some ⟨w6.heap.size, 0, none⟩) 1 1] (World.alloc w6 (.cells #[.int .i64 (x : Int)] 3)).drew (RetSig (fun y => y ∈ namesAx (axAt b x)) (fun y => y ∈ rolesAx (axAt b x)) (World.alloc w6 (.cells #[.int .i64 (x : Int)] 3)).drew)) := HNA.out _ _ hka hca
              have HKA := Lib.hid hka
              clear HNA hka hca
              clear h9 hb3 z0 z1 z2 z3 y0 y1 y2 y3 y4 y5 y6 z10 z10'
              go_region_held3 (fun w' => (w'.cell? ⟨g, 0, none⟩ = some (.iface T (.agg #[])) ∧ w'.cell? ⟨g, 1, none⟩ = some (.map (some b1)) ∧ w'.cell? ⟨g, 2, none⟩ = some (.map (some b2)) ∧ w'.cell? ⟨g, 3, none⟩ = some (.pointer (some ⟨gj, 0, none⟩)) ∧ w'.cell? ⟨w.heap.size, 0, none⟩ = some (.slice a0 b.cs.length c0) ∧ w'.cell? ⟨w.heap.size, 1, none⟩ = some (.slice a1 b.rs.length c1) ∧ w'.cell? ⟨w.heap.size, 2, none⟩ = some (.slice a2 b.is.length c2) ∧ w'.cell? ⟨w.heap.size, 3, none⟩ = some (.slice a3 b.incls.length c3) ∧ w'.cell? ⟨w.heap.size, 4, none⟩ = some (.slice a4 b.roles.length c4) ∧ w'.cell? ⟨w.heap.size, 5, none⟩ = some (.slice a5 b.facts.length c5) ∧ w'.cell? ⟨w.heap.size, 6, none⟩ = some (.slice a6 b.links.length c6)))
                (first | (refine HH.out _ ?_; with_reducible exact Keeps.refl _ _) | (refine HH.out _ ?_; with_reducible exact (Keeps.refl _ _).drew) | (refine HH.out _ ?_; with_reducible exact ((Keeps.refl _ _).alloc _).drew) | (refine HH.out _ ?_; with_reducible exact HK8.out.of0) | (refine HH.out _ ?_; with_reducible exact HK9.out) | fail)
                (first
                  | (go_at_call 53; refine HNB.out.mono ?_; clear HNB; rintro e w8 ⟨Xs, Ys, A1, A2, e1, e2, rfl, hsig, hm1, hm2, hl1, hl2, -, -, hk8⟩; have HK8 : Hid (Keeps (fun _ => False) w6 w8) := Lib.hid (HKA.out.then_ hk8); have hz8 : w6.heap.size + 1 ≤ w8.heap.size := (by have h := hk8.size; simp at h; exact h); have HSIG := Lib.hid hsig; have HM1 := Lib.hid hm1; have HM2 := Lib.hid hm2; have HL12 := Lib.hid (And.intro hl1 hl2); clear hsig hm1 hm2 hl1 hl2 hk8)
                  | (go_at_call 67; refine (know_calls (.iface T (.agg #[])) b1 b2 gj C' R' Xs Ys A1 A2 e1 e2 _ w8 ((MapS.keepS HJ.out.c HK56.out (by omega)).keep HK8.out (fun h => h)) ((MapS.keepS HJ.out.r HK56.out (by omega)).keep HK8.out (fun h => h)) hne HSIG.out (fun k hk => by have := hk.1; simp at this; omega) HL12.out.1 HL12.out.2).mono ?_; rintro e w9 ⟨⟨v, rfl⟩, m1, m2, hk9⟩; have HM1' := Lib.hid m1; have HM2' := Lib.hid m2; have HK9 := Lib.hid (HK8.out.of0.then_ hk9); clear m1 m2 hk9)
                  | fail)
              all_goals
                go_wp2_with fail
                go_roundw
                case rel =>
                  have hnew : ModSt b top C R within b1 b2 gj (g + 1) (Y ++ [x]) W3 w9 :=
                    { j := ⟨C' ++ Xs, R' ++ Ys, ⟨HM1'.out, HM2'.out, HK9.out.blk (HK56.out.blk HJ.out.t (by omega)) (by omega)⟩, fun y => by rw [sigN_snoc, List.mem_append, List.mem_append, HCC.out.1 y, HM1.out y], fun y => by rw [sigR_snoc, List.mem_append, List.mem_append, HCC.out.2 y, HM2.out y]⟩
                      i := by rw [zs_snoc]; exact HM6.out.keep HK9.out (by omega)
                      m := fun y hy => by
                        rcases List.mem_append.1 hy with hy | hy
                        · exact HMM.out y hy
                        · rw [List.mem_singleton] at hy; subst hy; exact InMod.step HMM.out HXM.out HLC.out
                      nd := by
                        rw [List.nodup_append]
                        exact ⟨HNY.out, by simp, fun a ha c hc e => by rw [List.mem_singleton] at hc; subst hc; subst e; exact HIN.out ha⟩
                      k := (HKQ.out.trans HK56.out (fun i hi => .inl (by omega))).trans HK9.out (fun i hi => .inl (by omega)) }
                  have hlen : (Y ++ [x]).length = Y.length + 1 := by simp
                  first
                    | exact ⟨k + 1, Y ++ [x], true, by omega, by go_num, rfl, hnew, (fun h => by cases h), by omega, fun _ => by omega⟩
                    | ((repeat apply Exists.intro); exact ⟨⟨k + 1, Y ++ [x], true, by omega, by go_num, rfl, hnew, (fun h => by cases h), by omega, fun _ => by omega⟩, rfl⟩)
                    | fail
                case measure => simp [intOf]; omega
            · rw [hlc] at HLOC
              have HLC := Lib.hid hlc
              clear hlc
              go_wp2_with (first | (at_lookup; refine wp_look rfl _ _ 98 false rfl 4 (keyInt Tryz.underlying3) Tryz.underlying98 (g + 1) L HML.out rfl (.bool false) (zeroBool _) (x : Int) rfl ?_; rw [HLK.out]; simp only [Bool.false_eq_true, if_false]) | (go_at_call 46; refine HLOC.out.mono ?_; clear HLOC; rintro e w5 ⟨rfl, hk5⟩; have HK5 := Lib.hid hk5; clear hk5) | fail)
              go_roundw
              case rel =>
                have hnew := HY.out.keepF HK5.out
                first
                  | exact ⟨k + 1, Y, mr, by omega, by go_num, rfl, hnew, fun h => HSTEP.out Y (fun _ h => h) (.inr HLC.out) (HL2.out h), hxy, hxy2⟩
                  | ((repeat apply Exists.intro); exact ⟨⟨k + 1, Y, mr, by omega, by go_num, rfl, hnew, fun h => HSTEP.out Y (fun _ h => h) (.inr HLC.out) (HL2.out h), hxy, hxy2⟩, rfl⟩)
                  | fail
              case measure => simp [intOf]; omega
        · obtain rfl : within.length = k := by omega
          have HKQ := Lib.hid hkq
          clear hkq
          go_wp2_with fail
          go_roundw
          case rel =>
            refine ⟨Y, mr, rfl, HY.out, fun h k hkw hkl => ?_⟩
            obtain ⟨j, hj, rfl⟩ := List.mem_iff_getElem.1 hkw
            rcases HL2.out h j hj hj with h1 | h1
            · exact h1
            · rw [hkl] at h1; cases h1
          case measure =>
            have s1 := mapSz_eq HS.out.i (zs_nodup HS.out.nd)
            have s2 := mapSz_eq HY.out.i (zs_nodup HY.out.nd)
            rw [zs_len] at s1 s2
            have s3 := nodup_lenN HY.out.nd (m := within) (fun x hx => (HY.out.m x hx).1)
            rw [s1, s2]
            cases mr
            · simp only [b2n]; omega
            · have := hxy2 rfl; simp only [b2n]; omega
end Go.Proofs.YthiclhbnggehoaaGreatDoor
