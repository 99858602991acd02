/- slices.Clone of strings and of ints; kb.Named: a knowledge base with names alone. -/
import Derived.Test.YthiclhbnggehoaaGreatDoorBase
import Derived.Test.YthiclhbnggehoaaGreatDoorRow
import Derived.Deep.RegionHeld3
import Derived.Lib.SliceRun
namespace Go.Proofs.YthiclhbnggehoaaGreatDoor
open Go.RowKit
set_option linter.unusedVariables false
set_option linter.unusedSimpArgs false
theorem blkSet7 {w : World} {g : Nat} {t : TypeId} {z0 z1 z2 z3 z4 z5 z6 : Value} (h : w.heap[g]? = some (.cells #[z0, z1, z2, z3, z4, z5, z6] t (0, 0))) (v0 v1 v2 v3 v4 v5 v6 : Value) : (((((((w.setCell ⟨g, 0, none⟩ v0).setCell ⟨g, 1, none⟩ v1).setCell ⟨g, 2, none⟩ v2).setCell ⟨g, 3, none⟩ v3).setCell ⟨g, 4, none⟩ v4).setCell ⟨g, 5, none⟩ v5).setCell ⟨g, 6, none⟩ v6).heap[g]? = some (.cells #[v0, v1, v2, v3, v4, v5, v6] t (0, 0)) := by
  have h0 := blkSet h 0 v0
  rw [show (#[z0, z1, z2, z3, z4, z5, z6] : Array Value).setIfInBounds 0 v0 = #[v0, z1, z2, z3, z4, z5, z6] from rfl] at h0
  have h1 := blkSet h0 1 v1
  rw [show (#[v0, z1, z2, z3, z4, z5, z6] : Array Value).setIfInBounds 1 v1 = #[v0, v1, z2, z3, z4, z5, z6] from rfl] at h1
  have h2 := blkSet h1 2 v2
  rw [show (#[v0, v1, z2, z3, z4, z5, z6] : Array Value).setIfInBounds 2 v2 = #[v0, v1, v2, z3, z4, z5, z6] from rfl] at h2
  have h3 := blkSet h2 3 v3
  rw [show (#[v0, v1, v2, z3, z4, z5, z6] : Array Value).setIfInBounds 3 v3 = #[v0, v1, v2, v3, z4, z5, z6] from rfl] at h3
  have h4 := blkSet h3 4 v4
  rw [show (#[v0, v1, v2, v3, z4, z5, z6] : Array Value).setIfInBounds 4 v4 = #[v0, v1, v2, v3, v4, z5, z6] from rfl] at h4
  have h5 := blkSet h4 5 v5
  rw [show (#[v0, v1, v2, v3, v4, z5, z6] : Array Value).setIfInBounds 5 v5 = #[v0, v1, v2, v3, v4, v5, z6] from rfl] at h5
  have h6 := blkSet h5 6 v6
  rw [show (#[v0, v1, v2, v3, v4, v5, z6] : Array Value).setIfInBounds 6 v6 = #[v0, v1, v2, v3, v4, v5, v6] from rfl] at h6
  exact h6
theorem keeps7s {a w : World} {g : Nat} (h : Keeps (fun _ => False) a w) (v0 v1 v2 v3 v4 v5 v6 : Value) : Keeps (fun i => i = g) a (((((((w.setCell ⟨g, 0, none⟩ v0).setCell ⟨g, 1, none⟩ v1).setCell ⟨g, 2, none⟩ v2).setCell ⟨g, 3, none⟩ v3).setCell ⟨g, 4, none⟩ v4).setCell ⟨g, 5, none⟩ v5).setCell ⟨g, 6, none⟩ v6) :=
  ((((((h.of0.set (g := g) (Or.inl (by rfl)) v0).set (g := g) (Or.inl (by rfl)) v1).set (g := g) (Or.inl (by rfl)) v2).set (g := g) (Or.inl (by rfl)) v3).set (g := g) (Or.inl (by rfl)) v4).set (g := g) (Or.inl (by rfl)) v5).set (g := g) (Or.inl (by rfl)) v6
theorem flat_one {α : Type} (f : α → Value) (l : List α) : l.flatMap (fun x => [f x]) = l.map f := by
  induction l with
  | nil => rfl
  | cons a r ih => rw [List.flatMap_cons, ih]; rfl
theorem infoStr1 : (Tryz.prog.info? 9).map (fun i => (i.zero, i.size, i.bytes)) = some (some (.string ⟨#[]⟩), 1, 16) := by kernel_rfl
set_option maxRecDepth 100000 in
set_option maxHeartbeats 4000000 in
theorem cloneS_calls (l : List ByteArray) (ok : Nat → Prop) (A : Option Addr) (cap : Nat) (w : World) (hl : Row1 ok w Value.string l A) (hlen : l.length ≤ 1000000) :
    Calls Tryz.prog 114 #[.slice A l.length cap] w fun e w' => ∃ v, e = .returned v ∧ w'.ownsRow w.heap.size 9 1 v l.length (l.map Value.string) ∧ Keeps (fun _ => False) w w' := by
  have hat : l ≠ [] → ∃ b o, A = some ⟨b, o, none⟩ ∧ ok b ∧ ∀ i (h : i < l.length) j, j < 1 → w.cell? ⟨b, o + i * 1 + j, none⟩ = ([Value.string l[i]] : List Value)[j]? := fun hne => by
    obtain ⟨b, o, e, hb, hc⟩ := hl hne
    refine ⟨b, o, e, hb, fun i hi j hj => ?_⟩
    obtain rfl : j = 0 := by omega
    rw [Nat.mul_one, Nat.add_zero, hc i hi]
    rfl
  have HL := Lib.hid (rowSrc (k := 1) (tx := 22) (cap := cap) (enc := fun x => [Value.string x]) (fun _ => rfl) (by decide) (by intro x u hu; simp at hu; subst hu; rfl) Tryz.underlying22 hat)
  have hfm : l.flatMap (fun x => [Value.string x]) = l.map Value.string := flat_one _ _
  have hn : A = none → l = [] := fun e => by
    by_cases h : l = []
    · exact h
    · obtain ⟨b, o, e2, _⟩ := hl h; rw [e] at e2; cases e2
  have q : ∀ (w : World) (a : Option Addr) (n c n' c' : Nat), (binOp .eql 22 (.slice a n c) (.slice none n' c')).run Tryz.prog w = .ok (.bool a.isNone) w := fun w a n c n' c' => Lib.run_eql_slice_nil w _ _ a n c n' c' Tryz.underlying22
  rw [hfm] at HL
  cases A with
  | none =>
    obtain rfl := hn rfl
    clear hn HL hl hfm
    go_enter Tryz.func114, Tryz.ntmps114
    go_wp2_with fail
    go_ret
    exact ⟨_, rfl, World.ownsRow_nil _ _ _ _, Keeps.refl _ _⟩
  | some a =>
    clear hn hl hfm
    generalize l.map Value.string = vs at *
    go_enter Tryz.func114, Tryz.ntmps114
    go_wp2_with (at_builtin; refine wp_app rfl _ _ 22 22 rfl w.heap.size 9 (.string ⟨#[]⟩) 1 16 Tryz.underlying22 infoStr1 rfl (by decide) (by decide) _ 0 [] (World.ownsRow_made w #[] 0 (Nat.le_refl _) (Nat.zero_le _) (by simp)) rfl _ _ _ (HL.out _ ((Keeps.refl _ _).alloc _)) rfl (by omega) (by simp) ?_; intro v' w2 hv2 hk2 _)
    go_ret
    exact ⟨_, rfl, by simpa using hv2, ((Keeps.refl (fun _ => False) w).alloc _).trans hk2 (fun i hi => .inr (by simp [Value.ownBlock] at hi; omega))⟩
set_option maxRecDepth 100000 in
set_option maxHeartbeats 4000000 in
theorem cloneI_calls (l : List Int) (ok : Nat → Prop) (A : Option Addr) (cap : Nat) (w : World) (hl : Row1 ok w (Value.int .i64) l A) (hlen : l.length ≤ 1000000) :
    Calls Tryz.prog 69 #[.slice A l.length cap] w fun e w' => ∃ v, e = .returned v ∧ w'.ownsRow w.heap.size 3 1 v l.length (l.map (Value.int .i64)) ∧ Keeps (fun _ => False) w w' := by
  have hat : l ≠ [] → ∃ b o, A = some ⟨b, o, none⟩ ∧ ok b ∧ ∀ i (h : i < l.length) j, j < 1 → w.cell? ⟨b, o + i * 1 + j, none⟩ = ([(Value.int .i64) l[i]] : List Value)[j]? := fun hne => by
    obtain ⟨b, o, e, hb, hc⟩ := hl hne
    refine ⟨b, o, e, hb, fun i hi j hj => ?_⟩
    obtain rfl : j = 0 := by omega
    rw [Nat.mul_one, Nat.add_zero, hc i hi]
    rfl
  have HL := Lib.hid (rowSrc (k := 1) (tx := 31) (cap := cap) (enc := fun x => [(Value.int .i64) x]) (fun _ => rfl) (by decide) (by intro x u hu; simp at hu; subst hu; rfl) Tryz.underlying31 hat)
  have hfm : l.flatMap (fun x => [(Value.int .i64) x]) = l.map (Value.int .i64) := flat_one _ _
  have hn : A = none → l = [] := fun e => by
    by_cases h : l = []
    · exact h
    · obtain ⟨b, o, e2, _⟩ := hl h; rw [e] at e2; cases e2
  have q : ∀ (w : World) (a : Option Addr) (n c n' c' : Nat), (binOp .eql 31 (.slice a n c) (.slice none n' c')).run Tryz.prog w = .ok (.bool a.isNone) w := fun w a n c n' c' => Lib.run_eql_slice_nil w _ _ a n c n' c' Tryz.underlying31
  rw [hfm] at HL
  cases A with
  | none =>
    obtain rfl := hn rfl
    clear hn HL hl hfm
    go_enter Tryz.func69, Tryz.ntmps69
    go_wp2_with fail
    go_ret
    exact ⟨_, rfl, World.ownsRow_nil _ _ _ _, Keeps.refl _ _⟩
  | some a =>
    clear hn hl hfm
    generalize l.map (Value.int .i64) = vs at *
    go_enter Tryz.func69, Tryz.ntmps69
    go_wp2_with (at_builtin; refine wp_app rfl _ _ 31 31 rfl w.heap.size 3 (.int .i64 0) 1 8 Tryz.underlying31 infoInt rfl (by decide) (by decide) _ 0 [] (World.ownsRow_made w #[] 0 (Nat.le_refl _) (Nat.zero_le _) (by simp)) rfl _ _ _ (HL.out _ ((Keeps.refl _ _).alloc _)) rfl (by omega) (by simp) ?_; intro v' w2 hv2 hk2 _)
    go_ret
    exact ⟨_, rfl, by simpa using hv2, ((Keeps.refl (fun _ => False) w).alloc _).trans hk2 (fun i hi => .inr (by simp [Value.ownBlock] at hi; omega))⟩
set_option maxRecDepth 100000 in
set_option maxHeartbeats 4000000 in
theorem named_calls (cs rs is : List ByteArray) (ok : Nat → Prop) (A0 A1 A2 : Option Addr) (c0 c1 c2 : Nat) (w : World) (h0 : Row1 ok w Value.string cs A0) (h1 : Row1 ok w Value.string rs A1) (h2 : Row1 ok w Value.string is A2) (n0 : cs.length ≤ 100000) (n1 : rs.length ≤ 100000) (n2 : is.length ≤ 100000) :
    Calls Tryz.prog 105 #[.agg #[.slice A0 cs.length c0, .slice A1 rs.length c1, .slice A2 is.length c2]] w fun e w' => ∃ B0 B1 B2 d0 d1 d2, e = .returned (.agg #[.slice B0 cs.length d0, .slice B1 rs.length d1, .slice B2 is.length d2, .slice none 0 0, .slice none 0 0, .slice none 0 0, .slice none 0 0]) ∧
      (cs.length ≤ d0 ∧ rs.length ≤ d1 ∧ is.length ≤ d2) ∧ Row1 (fun k => w.heap.size ≤ k) w' Value.string cs B0 ∧ Row1 (fun k => w.heap.size ≤ k) w' Value.string rs B1 ∧ Row1 (fun k => w.heap.size ≤ k) w' Value.string is B2 ∧ Keeps (fun _ => False) w w' := by
  have HR0 := Lib.hid h0
  have HR1 := Lib.hid h1
  have HR2 := Lib.hid h2
  clear h0 h1 h2
  go_enter Tryz.func105, Tryz.ntmps105
  go_wp2_with fail
  generalize hW0 : World.alloc _ _ = W0
  have hK0 : Keeps (fun _ => False) w W0 := by rw [← hW0]; repeat (first | exact Keeps.refl _ _ | refine Keeps.drewN ?_ _ | refine Keeps.drew ?_ | refine Keeps.alloc ?_ _ | refine Keeps.set ?_ (Or.inl (by rfl)) _)
  have hb0 : W0.heap[w.heap.size]? = some (.cells #[.slice A0 cs.length c0, .slice A1 rs.length c1, .slice A2 is.length c2] 24 (0, 0)) := by rw [← hW0]; exact blkAlloc (blkNew rfl) _
  have hb1 : W0.heap[w.heap.size + 1]? = some (.cells #[.slice none 0 0, .slice none 0 0, .slice none 0 0, .slice none 0 0, .slice none 0 0, .slice none 0 0, .slice none 0 0] 30 (0, 0)) := by rw [← hW0]; exact blkNew (by simp)
  clear hW0
  have HK0 := Lib.hid hK0
  have hz0 := blkLt hb1
  have HB1 := Lib.hid hb1
  have HH : Hid (∀ w', Keeps (fun i => i = w.heap.size + 1) W0 w' → (w'.cell? ⟨w.heap.size, 0, none⟩ = some (.slice A0 cs.length c0) ∧ w'.cell? ⟨w.heap.size, 1, none⟩ = some (.slice A1 rs.length c1) ∧ w'.cell? ⟨w.heap.size, 2, none⟩ = some (.slice A2 is.length c2))) := by
    intro w' hk
    exact cells3 (hk.blk hb0 (by omega))
  clear hb0 hb1 hK0
  go_region_held3 (fun w' => (w'.cell? ⟨w.heap.size, 0, none⟩ = some (.slice A0 cs.length c0) ∧ w'.cell? ⟨w.heap.size, 1, none⟩ = some (.slice A1 rs.length c1) ∧ w'.cell? ⟨w.heap.size, 2, none⟩ = some (.slice A2 is.length c2)))
    (first | (refine HH.out _ ?_; with_reducible exact keeps7s HL7.out _ _ _ _ _ _ _) | (refine HH.out _ ?_; with_reducible exact Keeps.refl _ _) | (refine HH.out _ ?_; with_reducible exact (Keeps.refl _ _).drew) | (refine HH.out _ ?_; with_reducible exact HL7.out.of0) | (refine HH.out _ ?_; with_reducible exact HL6.out.of0) | (refine HH.out _ ?_; with_reducible exact HL5.out.of0) | fail)
    (first
    | ((with_reducible show Calls _ _ #[.slice A0 _ _] _ _); go_at_call 114; refine (cloneS_calls cs ok A0 c0 W0.drew (HR0.out.keep (HK0.out.drew) (fun _ _ h => h)) (by omega)).mono ?_; rintro e w5 ⟨v, rfl, ho, hk⟩; obtain ⟨-, B0, d0, rfl, hd0, hr⟩ := ownedRow1 ho; have HK5 := Lib.hid (Keeps.then_ (HK0.out.drew) hk); have HL5 := Lib.hid (Keeps.then_ ((Keeps.refl (fun _ => False) W0).drew) hk); have hz5 : W0.heap.size ≤ w5.heap.size := (Keeps.then_ ((Keeps.refl (fun _ => False) W0).drew) hk).size; have HQ05 : Hid (Row1 (fun k => W0.heap.size ≤ k) w5 Value.string cs B0) := Lib.hid (hr.mono (fun k h => by have h2 : W0.drew.heap.size ≤ k := h; exact h2)); clear ho hk hr)
    | ((with_reducible show Calls _ _ #[.slice A1 _ _] _ _); go_at_call 114; refine (cloneS_calls rs ok A1 c1 w5 (HR1.out.keep (HK5.out) (fun _ _ h => h)) (by omega)).mono ?_; rintro e w6 ⟨v, rfl, ho, hk⟩; obtain ⟨-, B1, d1, rfl, hd1, hr⟩ := ownedRow1 ho; have HK6 := Lib.hid (Keeps.then_ (HK5.out) hk); have HL6 := Lib.hid (Keeps.then_ (HL5.out) hk); have hz6 : W0.heap.size ≤ w6.heap.size := (Keeps.then_ (HL5.out) hk).size; have HQ16 : Hid (Row1 (fun k => W0.heap.size ≤ k) w6 Value.string rs B1) := Lib.hid (hr.mono (fun k h => by have h2 : w5.heap.size ≤ k := h; omega)); have HQ06 := Lib.hid (HQ05.out.keep hk (fun _ _ h => h)); clear ho hk hr)
    | ((with_reducible show Calls _ _ #[.slice A2 _ _] _ _); go_at_call 114; refine (cloneS_calls is ok A2 c2 w6 (HR2.out.keep (HK6.out) (fun _ _ h => h)) (by omega)).mono ?_; rintro e w7 ⟨v, rfl, ho, hk⟩; obtain ⟨-, B2, d2, rfl, hd2, hr⟩ := ownedRow1 ho; have HK7 := Lib.hid (Keeps.then_ (HK6.out) hk); have HL7 := Lib.hid (Keeps.then_ (HL6.out) hk); have hz7 : W0.heap.size ≤ w7.heap.size := (Keeps.then_ (HL6.out) hk).size; have HQ27 : Hid (Row1 (fun k => W0.heap.size ≤ k) w7 Value.string is B2) := Lib.hid (hr.mono (fun k h => by have h2 : w6.heap.size ≤ k := h; omega)); have HQ07 := Lib.hid (HQ06.out.keep hk (fun _ _ h => h)); have HQ17 := Lib.hid (HQ16.out.keep hk (fun _ _ h => h)); obtain ⟨k0, k1, k2, k3, k4, k5, k6⟩ := cells7 (HL7.out.blk HB1.out (fun h => h)); have hg := HL7.out.blk HB1.out (fun h => h); have f0 := blkFree hg 0; have f1 := blkFree hg 1; have f2 := blkFree hg 2; have f3 := blkFree hg 3; have f4 := blkFree hg 4; have f5 := blkFree hg 5; have f6 := blkFree hg 6; have hgl := blkLt hg; clear hg; clear ho hk hr)
    | fail)
  all_goals
    generalize hW8 : World.setCell _ _ _ = W8
    have hK8 : Keeps (fun i => i = w.heap.size + 1) w7 W8 := by rw [← hW8]; exact keeps7s (Keeps.refl _ _) _ _ _ _ _ _ _
    have hb : W8.heap[w.heap.size + 1]? = some (.cells #[.slice B0 cs.length d0, .slice B1 rs.length d1, .slice B2 is.length d2, .slice none 0 0, .slice none 0 0, .slice none 0 0, .slice none 0 0] 30 (0, 0)) := by rw [← hW8]; exact blkSet7 (HL7.out.blk HB1.out (fun h => h)) _ _ _ _ _ _ _
    clear hW8
    have hz7 := HK0.out.size
    have HF := Lib.hid (And.intro ((HQ07.out.keep hK8 (fun k hk he => by omega)).mono (ok' := fun k => w.heap.size ≤ k) (fun k hk => by omega)) (And.intro ((HQ17.out.keep hK8 (fun k hk he => by omega)).mono (ok' := fun k => w.heap.size ≤ k) (fun k hk => by omega)) (And.intro ((HQ27.out.keep hK8 (fun k hk he => by omega)).mono (ok' := fun k => w.heap.size ≤ k) (fun k hk => by omega)) (HK7.out.trans hK8 (fun i hi => .inr (by omega))))))
    clear k0 k1 k2 k3 k4 k5 k6
    go_wp2_with fail
    obtain ⟨t0, t1, t2, t3, t4, t5, t6⟩ := cells7 hb
    refine bodyPost_ret (v := .agg #[.slice B0 cs.length d0, .slice B1 rs.length d1, .slice B2 is.length d2, .slice none 0 0, .slice none 0 0, .slice none 0 0, .slice none 0 0]) (by simp [results, Tryz.results105, go_sem, t0, t1, t2, t3, t4, t5, t6]) rfl ?_
    exact ⟨B0, B1, B2, d0, d1, d2, rfl, ⟨hd0, hd1, hd2⟩, HF.out.1, HF.out.2.1, HF.out.2.2.1, HF.out.2.2.2⟩
end Go.Proofs.YthiclhbnggehoaaGreatDoor
