/- The reference's Insert: into an increasing list of numbers. -/
import Derived.Test.YthiclhbnggehoaaGreatDoorBase
import Derived.Test.YthiclhbnggehoaaGreatDoorReads
import Derived.Test.YthiclhbnggehoaaGreatDoorR1
namespace Go.Proofs.YthiclhbnggehoaaGreatDoor
open Go.RowKit
set_option linter.unusedVariables false
set_option linter.unusedSimpArgs false
def insZ (n : Int) : List Int → List Int
  | [] => [n]
  | x :: r => if x = n then x :: r else if x > n then n :: x :: r else x :: insZ n r
theorem insZ_at (n : Int) : ∀ (l : List Int) (k : Nat), (∀ x ∈ l.take k, x < n) → insZ n l = l.take k ++ insZ n (l.drop k)
  | l, 0, _ => by simp
  | [], k + 1, _ => by simp
  | x :: r, k + 1, h => by
    have hx : x < n := h x (by simp)
    have ih := insZ_at n r k (fun y hy => h y (by simp [hy]))
    simp only [insZ, List.take_succ_cons, List.drop_succ_cons, List.cons_append]
    rw [if_neg (by omega), if_neg (by omega), ← ih]
theorem insZ_len (n : Int) : ∀ l : List Int, (insZ n l).length ≤ l.length + 1
  | [] => by simp [insZ]
  | x :: r => by have := insZ_len n r; unfold insZ; split; simp; split <;> simp; omega
/-- A row of numbers of the call's own that has grown. -/
structure AccN (base : Nat) (v0 : Value) (w0 : World) (l : List Int) (v : Value) (w : World) : Prop where
  own : OwnInts w base v l
  keep : Keeps (fun k => v0.ownBlock = some k) w0 w
  at_ : v.ownBlock = v0.ownBlock ∨ ∃ g, v.ownBlock = some g ∧ w0.heap.size ≤ g
theorem OwnInts.keep' {S : Nat → Prop} {w w' : World} {base : Nat} {v : Value} {l : List Int} (h : OwnInts w base v l) (hk : Keeps S w w') (hs : ∀ b, v.ownBlock = some b → ¬ S b) : OwnInts w' base v l := ownsKeep h hk hs
theorem AccN.trans {base : Nat} {v0 v1 v2 : Value} {w0 w1 w2 : World} {l1 l2 : List Int} (h : AccN base v0 w0 l1 v1 w1) (k : AccN base v1 w1 l2 v2 w2) : AccN base v0 w0 l2 v2 w2 where
  own := k.own
  keep := h.keep.trans k.keep (fun i hi => by
    rcases h.at_ with e | ⟨g, e, hg⟩
    · exact .inl (by rw [← e]; exact hi)
    · rw [e] at hi; cases hi; exact .inr hg)
  at_ := by
    have := h.keep.size
    rcases k.at_ with e | ⟨g, e, hg⟩
    · rcases h.at_ with e' | ⟨g, e', hg⟩
      · exact .inl (e.trans e')
      · exact .inr ⟨g, e.trans e', hg⟩
    · exact .inr ⟨g, e, by omega⟩
theorem AccN.still {base : Nat} {v : Value} {w0 w : World} {l : List Int} (h : OwnInts w0 base v l) (hk : Keeps (fun _ => False) w0 w) : AccN base v w0 l v w := ⟨h.keep' hk (fun _ _ h => h), hk.of0, .inl rfl⟩
theorem AccN.more {base : Nat} {v0 v : Value} {w0 w w' : World} {l : List Int} (h : AccN base v0 w0 l v w) (hk : Keeps (fun _ => False) w w') : AccN base v0 w0 l v w' := h.trans (AccN.still h.own hk)
theorem own_slice {w : World} {base e size : Nat} {v : Value} {n : Nat} {xs : List Value} (h : w.ownsRow base e size v n xs) (hn : 0 < n) : ∃ g cap, v = .slice (some ⟨g, 0, none⟩) n cap ∧ base ≤ g := by
  obtain ⟨g, cap, e1, _, hg, _⟩ := ownSlice h hn
  exact ⟨g, cap, e1, hg⟩
theorem ownsBase {w : World} {b b' e size : Nat} {v : Value} {n : Nat} {xs : List Value} (h : w.ownsRow b e size v n xs) (hb : b' ≤ b) : w.ownsRow b' e size v n xs := by
  refine ⟨h.1, ?_⟩
  rcases h.2 with hn | ⟨g, cap, cur, rfl, hg, hr⟩
  · exact .inl hn
  · exact .inr ⟨g, cap, cur, rfl, by omega, hr⟩
set_option maxRecDepth 100000 in
set_option maxHeartbeats 4000000 in
theorem insert_calls (base : Nat) (n : Int) (l : List Int) (v : Value) (w : World) (hl : l.length ≤ 1000000) (hb : base ≤ w.heap.size) (ho : OwnInts w base v l) :
    Calls Tryz.prog 16 #[v, .int .i64 n] w fun e w' => ∃ v', e = .returned v' ∧ AccN base v w (insZ n l) v' w' := by
  have HO := Lib.hid ho
  obtain ⟨A, cap, rfl, hcell⟩ : ∃ A cap, v = .slice A l.length cap ∧ (l ≠ [] → ∃ g, A = some ⟨g, 0, none⟩ ∧ l.length ≤ cap ∧ g < w.heap.size ∧ ∀ k (h : k < l.length), w.cell? ⟨g, k, none⟩ = some (.int .i64 l[k])) := by
    rcases ho.2 with ⟨rfl, h0⟩ | ⟨g, cap, cur, rfl, _⟩
    · exact ⟨none, 0, by rw [h0], fun h => absurd (List.eq_nil_of_length_eq_zero h0) h⟩
    · refine ⟨_, cap, rfl, fun _ => ⟨g, rfl, ?_, ?_, fun k hk => ?_⟩⟩
      · rcases ho.2 with ⟨h, _⟩ | ⟨g', cap', cur', e, _, _, hc, _⟩
        · cases h
        · cases e; exact hc
      · exact (ho.lt g rfl).2
      · have := ho.cells (g := g) rfl k (.int .i64 l[k]) (by simp [hk])
        rwa [addPlain] at this
  have HC := Lib.hid hcell
  clear ho hcell
  have HV : Hid (∀ x ∈ l.take 0, x < n) := by unfold Hid; simp
  go_enter Tryz.func16, Tryz.ntmps16
  go_wp2_with fail
  go_loopw [9] (fun i wr => ∃ k : Nat, k ≤ l.length ∧ i = .int .i64 k ∧ wr = w ∧ Hid (∀ x ∈ l.take k, x < n)) (fun i _ => l.length - (intOf i).toNat)
  case atStart => exact ⟨0, Nat.zero_le _, rfl, rfl, HV⟩
  case round =>
    obtain ⟨k, hk, rfl, rfl, HI⟩ := hrel
    by_cases hlt : k < l.length
    · obtain ⟨g, rfl, hcap, hg, hcc⟩ := HC.out (by intro h; subst h; simp at hlt)
      have e0 := hcc k hlt
      have HTK := Lib.hid (List.take_succ_eq_append_getElem hlt)
      have HDR := Lib.hid (List.drop_eq_getElem_cons hlt)
      have i1 : (k : Int) < l.length := by omega
      generalize hx : l[k] = x at *
      have HX := Lib.hid hx
      have HCC := Lib.hid hcc
      clear hx hcc
      by_cases h1 : x = n
      · have q1 : (x == n) = true := by simpa using h1
        go_wp2_with fail
        go_ret
        refine ⟨_, rfl, ?_⟩
        rw [insZ_at n l k HI.out, HDR.out, insZ, if_pos h1, ← HDR.out, List.take_append_drop]
        exact AccN.still HO.out (Keeps.refl _ _)
      · have q1 : (x == n) = false := by simpa using h1
        by_cases h2 : n < x
        · have q2 : decide (n < x) = true := decide_eq_true h2
          have HS1 : Hid (∀ W, Keeps (fun _ => False) wr W → Src Tryz.prog 1 31 (.slice (some ⟨g, 0, none⟩) k cap) k ((l.take k).map (Value.int .i64)) W) := fun W hk => Src.ofSlice W Tryz.underlying31 _ _ _ _ (by simp; omega) (fun j u hu => by
            rw [addAny]
            have hj : j < k := by have := (List.getElem?_eq_some_iff.1 hu).1; simp at this; omega
            have hu' : u = .int .i64 (l[j]'(by omega)) := by simp [List.getElem?_take_of_lt hj, show j < l.length by omega] at hu; exact hu.symm
            rw [hu', Nat.zero_add]
            exact hk.cell (HCC.out j (by omega)) (fun h => h)) (by intro u hu; simp only [List.mem_map] at hu; obtain ⟨z, _, rfl⟩ := hu; rfl)
          have HS2 : Hid (∀ W, Keeps (fun _ => False) wr W → Src Tryz.prog 1 31 (.slice (some ⟨g, k, none⟩) (l.length - k) (cap - k)) (l.length - k) ((l.drop k).map (Value.int .i64)) W) := fun W hk => Src.ofSlice W Tryz.underlying31 _ _ _ _ (by simp) (fun j u hu => by
            rw [addAny]
            have hj : k + j < l.length := by have := (List.getElem?_eq_some_iff.1 hu).1; simp at this; omega
            have hu' : u = .int .i64 (l[k + j]'hj) := by simp [List.getElem?_drop, hj] at hu; exact hu.symm
            rw [hu']
            exact hk.cell (HCC.out (k + j) hj) (fun h => h)) (by intro u hu; simp only [List.mem_map] at hu; obtain ⟨z, _, rfl⟩ := hu; rfl)
          have hck : ¬ cap = k := by omega
          have i0 : (0 : Int) ≤ k := by omega
          have i2 : (k : Int) ≤ l.length := by omega
          have i3 : (k : Int) ≤ cap := by omega
          have i4 : (l.length : Int) ≤ cap := by omega
          go_wp2_with fail
          go_region_law
           (first
            | (refine step_appG rfl _ _ 31 31 (by rfl) wr.heap.size 3 _ 1 8 Tryz.underlying31 infoInt rfl (by decide) (by decide) (.slice none 0 0) 0 [] (World.ownsRow_nil _ _ _ _) (by rfl) (.slice (some ⟨g, 0, none⟩) k cap) k ((l.take k).map (Value.int .i64)) (HS1.out _ (by repeat (first | exact Keeps.refl _ _ | refine Keeps.drewN ?_ _ | refine Keeps.drew ?_ | refine Keeps.alloc ?_ _ | refine Keeps.set ?_ (Or.inl (by rfl)) _))) (by rfl) (by omega) (by first | (simp; done) | (simp; omega)) ?_; intro v6 w6 ho6 hk6; have hnb := hk6.blk (g := wr.heap.size) (o := .cells #[.int .i64 n] 3 (0, 0)) (by exact blkNew rfl) (fun h => by simp [Value.ownBlock] at h); have hkA := (Keeps.of0 (S := fun k => (Value.slice none 0 0).ownBlock = some k) (show Keeps (fun _ => False) wr _ from by repeat (first | exact Keeps.refl _ _ | refine Keeps.drewN ?_ _ | refine Keeps.drew ?_ | refine Keeps.alloc ?_ _ | refine Keeps.set ?_ (Or.inl (by rfl)) _))).then_ hk6 |>.new (fun i hi => by simp [Value.ownBlock] at hi); have HO6 := Lib.hid ho6; have HNB := Lib.hid hnb; clear ho6 hnb)
            | (refine step_appG rfl _ _ 31 31 (by rfl) wr.heap.size 3 _ 1 8 Tryz.underlying31 infoInt rfl (by decide) (by decide) (.slice none 0 0) 0 [] (World.ownsRow_nil _ _ _ _) (by rfl) (.slice (some ⟨g, 0, none⟩) k cap) k ((l.take k).map (Value.int .i64)) (HS1.out _ (by repeat (first | exact Keeps.refl _ _ | refine Keeps.drewN ?_ _ | refine Keeps.drew ?_ | refine Keeps.alloc ?_ _ | refine Keeps.set ?_ (Or.inl (by rfl)) _))) (by rfl) (by omega) (by first | (simp; done) | (simp; omega)) ?_; intro v6 w6 ho6 hk6; have hkA := (Keeps.of0 (S := fun k => (Value.slice none 0 0).ownBlock = some k) (show Keeps (fun _ => False) wr _ from by repeat (first | exact Keeps.refl _ _ | refine Keeps.drewN ?_ _ | refine Keeps.drew ?_ | refine Keeps.alloc ?_ _ | refine Keeps.set ?_ (Or.inl (by rfl)) _))).then_ hk6 |>.new (fun i hi => by simp [Value.ownBlock] at hi); have HO6 := Lib.hid ho6; clear ho6)
            | (refine step_appG rfl _ _ 31 31 (by rfl) wr.heap.size 3 _ 1 8 Tryz.underlying31 infoInt rfl (by decide) (by decide) v6 (0 + k) _ (ownsKeep (S := fun _ => False) HO6.out (by repeat (first | exact Keeps.refl _ _ | refine Keeps.drewN ?_ _ | refine Keeps.drew ?_ | refine Keeps.alloc ?_ _ | refine Keeps.set ?_ (Or.inl (by rfl)) _)) (fun _ _ h => h)) (by rfl) (.slice (some ⟨wr.heap.size, 0, none⟩) 1 1) 1 [.int .i64 n] (by exact Src.ofBlock Tryz.underlying31 (cs := #[.int .i64 n]) HNB.out rfl (by simp [Value.oneCell'])) (by rfl) (by omega) (by have := hkA.size; first | (simp; done) | (simp; omega)) ?_; intro v7 w7 ho7 hk7; have hkB := (Keeps.of0 (S := fun k => v6.ownBlock = some k) hkA).then_ hk7 |>.new (fun i hi => (HO6.out.lt i hi).1); have HO7 := Lib.hid ho7; clear ho7)
            | (refine step_appG rfl _ _ 31 31 (by rfl) wr.heap.size 3 _ 1 8 Tryz.underlying31 infoInt rfl (by decide) (by decide) v6 (0 + k) _ (ownsKeep (S := fun _ => False) HO6.out (by repeat (first | exact Keeps.refl _ _ | refine Keeps.drewN ?_ _ | refine Keeps.drew ?_ | refine Keeps.alloc ?_ _ | refine Keeps.set ?_ (Or.inl (by rfl)) _)) (fun _ _ h => h)) (by rfl) (.slice (some ⟨w6.heap.size, 0, none⟩) 1 1) 1 [.int .i64 n] (by exact Src.ofBlock Tryz.underlying31 (cs := #[.int .i64 n]) (blkNew (by first | rfl | simp)) rfl (by simp [Value.oneCell'])) (by rfl) (by omega) (by have := hkA.size; first | (simp; done) | (simp; omega)) ?_; intro v7 w7 ho7 hk7; have hkB := (Keeps.of0 (S := fun k => v6.ownBlock = some k) (hkA.alloc _)).then_ hk7 |>.new (fun i hi => (HO6.out.lt i hi).1); have HO7 := Lib.hid ho7; clear ho7)
            | (refine step_appG rfl _ _ 31 31 (by rfl) wr.heap.size 3 _ 1 8 Tryz.underlying31 infoInt rfl (by decide) (by decide) v7 (0 + k + 1) _ HO7.out (by rfl) (.slice (some ⟨g, k, none⟩) (l.length - k) (cap - k)) (l.length - k) ((l.drop k).map (Value.int .i64)) (HS2.out _ hkB) (by rfl) (by omega) (by exact hkB.size) ?_; intro v8 w8 ho8 hk8; have hkC := (Keeps.of0 (S := fun k => v7.ownBlock = some k) hkB).then_ hk8 |>.new (fun i hi => (HO7.out.lt i hi).1); have HO8 := Lib.hid ho8; clear ho8)
            | fail)
          all_goals
            go_wp2_with fail
            go_ret
            refine ⟨v8, rfl, ?_⟩
            have e : insZ n l = l.take k ++ n :: l.drop k := by
              rw [insZ_at n l k HI.out, HDR.out, insZ, if_neg h1, if_pos h2]
            obtain ⟨g8, cap8, rfl, hg8⟩ := own_slice HO8.out (by omega)
            rw [e]
            refine ⟨?_, hkC.of0, .inr ⟨g8, by simp [Value.ownBlock], hg8⟩⟩
            have hh := ownsBase HO8.out hb
            have hlen : 0 + k + 1 + (l.length - k) = (l.take k ++ n :: l.drop k).length := by simp; omega
            unfold OwnInts
            rw [← hlen]
            simpa using hh
        · have q2 : decide (n < x) = false := decide_eq_false h2
          go_wp2_with fail
          go_roundw
          case rel => exact ⟨k + 1, by omega, by go_num, by trivial, by unfold Hid; rw [HTK.out]; intro y hy; simp only [List.mem_append, List.mem_singleton] at hy; rcases hy with hy | rfl; exact HI.out y hy; omega⟩
          case measure => simp [intOf]; omega
    · obtain rfl : k = l.length := by omega
      go_wp2_with (at_builtin; refine wp_app1 rfl _ _ 31 31 rfl base 3 _ 1 8 Tryz.underlying31 infoInt rfl (by decide) (by decide) (.slice A l.length cap) l.length (l.map (Value.int .i64)) (ownsKeep (S := fun _ => False) HO.out (by repeat (first | exact Keeps.refl _ _ | refine Keeps.drewN ?_ _ | refine Keeps.drew ?_ | refine Keeps.alloc ?_ _ | refine Keeps.set ?_ (Or.inl (by rfl)) _)) (fun _ _ h => h)) rfl _ 1 [.int .i64 n] (Src.ofBlock Tryz.underlying31 (cs := #[.int .i64 n]) (blkNew (by simp)) rfl (by simp [Value.oneCell'])) rfl (by decide) (by omega) (by simp; omega) ?_; intro g5 cap6 w6 ho6 hk6 hat6 hcap6 hlt6)
      go_ret
      refine ⟨_, rfl, ?_⟩
      have e : insZ n l = l ++ [n] := by rw [insZ_at n l l.length HI.out]; simp [insZ]
      rw [e]
      refine ⟨by unfold OwnInts; simpa using ho6, ((Keeps.refl (fun _ => False) wr).alloc _).of0.then_ hk6, ?_⟩
      rcases hat6 with e | e
      · exact .inl (by rw [e]; simp [Value.ownBlock])
      · exact .inr ⟨g5, by simp [Value.ownBlock], by rw [e]; simp⟩
end Go.Proofs.YthiclhbnggehoaaGreatDoor
/- The reference's Uses: the names and roles of a concept, in increasing lists. -/
namespace Go.Proofs.YthiclhbnggehoaaGreatDoor
open Go.RowKit
set_option linter.unusedVariables false
set_option linter.unusedSimpArgs false
def useN (c : Con) (l : List Int) : List Int := if c.op = 0 then insZ c.n l else l
def useR (c : Con) (l : List Int) : List Int := if c.op = 6 ∨ c.op = 7 then insZ (wrap64 (c.n.tdiv 2)) l else l
mutual
def usesC : Con → List Int × List Int → List Int × List Int
  | ⟨op, n, args⟩, p => usesL args (useN ⟨op, n, args⟩ p.1, useR ⟨op, n, args⟩ p.2)
def usesL : List Con → List Int × List Int → List Int × List Int
  | [], p => p
  | c :: r, p => usesL r (usesC c p)
end
theorem usesL_drop {l : List Con} {k : Nat} (h : k < l.length) (p : List Int × List Int) : usesL (l.drop k) p = usesL (l.drop (k + 1)) (usesC l[k] p) := by
  rw [List.drop_eq_getElem_cons h]; simp only [usesL]
theorem useN_len (c : Con) (l : List Int) : (useN c l).length ≤ l.length + 1 := by
  unfold useN; split; exact insZ_len _ _; omega
theorem useR_len (c : Con) (l : List Int) : (useR c l).length ≤ l.length + 1 := by
  unfold useR; split; exact insZ_len _ _; omega
mutual
theorem usesC_len : ∀ (c : Con) (p : List Int × List Int), (usesC c p).1.length ≤ p.1.length + c.size ∧ (usesC c p).2.length ≤ p.2.length + c.size
  | ⟨op, n, args⟩, p => by
    have h := usesL_len args (useN ⟨op, n, args⟩ p.1, useR ⟨op, n, args⟩ p.2)
    have h2 := useN_len ⟨op, n, args⟩ p.1
    have h3 := useR_len ⟨op, n, args⟩ p.2
    simp only [usesC, Con.size] at h ⊢; omega
theorem usesL_len : ∀ (l : List Con) (p : List Int × List Int), (usesL l p).1.length ≤ p.1.length + Con.sizes l ∧ (usesL l p).2.length ≤ p.2.length + Con.sizes l
  | [], p => by simp [usesL]
  | c :: r, p => by
    have h1 := usesL_len r (usesC c p)
    have h2 := usesC_len c p
    simp only [usesL, Con.sizes]; omega
end
/-- Two rows of the call's own that have grown. -/
structure AccU (base : Nat) (v0 u0 : Value) (w0 : World) (p : List Int × List Int) (v u : Value) (w : World) : Prop where
  a : OwnInts w base v p.1
  b : OwnInts w base u p.2
  ne : ∀ k, v.ownBlock = some k → u.ownBlock ≠ some k
  keep : Keeps (fun k => v0.ownBlock = some k ∨ u0.ownBlock = some k) w0 w
  at1 : v.ownBlock = v0.ownBlock ∨ ∃ g, v.ownBlock = some g ∧ w0.heap.size ≤ g
  at2 : u.ownBlock = u0.ownBlock ∨ ∃ g, u.ownBlock = some g ∧ w0.heap.size ≤ g
theorem OwnInts.lt' {w : World} {base : Nat} {v : Value} {l : List Int} (h : OwnInts w base v l) {k : Nat} (e : v.ownBlock = some k) : base ≤ k ∧ k < w.heap.size := World.ownsRow.lt h k e
theorem AccU.start {base : Nat} {v u : Value} {w : World} {l m : List Int} (h1 : OwnInts w base v l) (h2 : OwnInts w base u m) (hn : ∀ k, v.ownBlock = some k → u.ownBlock ≠ some k) : AccU base v u w (l, m) v u w := ⟨h1, h2, hn, Keeps.refl _ _, .inl rfl, .inl rfl⟩
theorem AccU.more {base : Nat} {v0 u0 v u : Value} {w0 w w' : World} {p : List Int × List Int} (h : AccU base v0 u0 w0 p v u w) (hk : Keeps (fun _ => False) w w') : AccU base v0 u0 w0 p v u w' :=
  ⟨h.a.keep' hk (fun _ _ h => h), h.b.keep' hk (fun _ _ h => h), h.ne, h.keep.then_ hk.of0, h.at1, h.at2⟩
theorem AccU.ins1 {base : Nat} {v0 u0 v u v' : Value} {w0 w w' : World} {p : List Int × List Int} {l : List Int} (h : AccU base v0 u0 w0 p v u w) (k : AccN base v w l v' w') : AccU base v0 u0 w0 (l, p.2) v' u w' where
  a := k.own
  b := h.b.keep' k.keep (fun b hb e => h.ne b e hb)
  ne := fun j hj e => by
    rcases k.at_ with e' | ⟨g, e', hg⟩
    · exact h.ne j (e' ▸ hj) e
    · rw [e'] at hj; cases hj; have := (h.b.lt' e).2; omega
  keep := h.keep.trans k.keep (fun i hi => by
    rcases h.at1 with e | ⟨g, e, hg⟩
    · exact .inl (.inl (by rw [← e]; exact hi))
    · rw [e] at hi; cases hi; exact .inr hg)
  at1 := by
    have := h.keep.size
    rcases k.at_ with e | ⟨g, e, hg⟩
    · rcases h.at1 with e' | ⟨g, e', hg⟩
      · exact .inl (e.trans e')
      · exact .inr ⟨g, e.trans e', hg⟩
    · exact .inr ⟨g, e, by omega⟩
  at2 := h.at2
theorem AccU.ins2 {base : Nat} {v0 u0 v u u' : Value} {w0 w w' : World} {p : List Int × List Int} {l : List Int} (h : AccU base v0 u0 w0 p v u w) (k : AccN base u w l u' w') : AccU base v0 u0 w0 (p.1, l) v u' w' where
  b := k.own
  a := h.a.keep' k.keep (fun b hb e => h.ne b hb e)
  ne := fun j hj e => by
    rcases k.at_ with e' | ⟨g, e', hg⟩
    · exact h.ne j hj (e' ▸ e)
    · rw [e'] at e; cases e; have := (h.a.lt' hj).2; omega
  keep := h.keep.trans k.keep (fun i hi => by
    rcases h.at2 with e | ⟨g, e, hg⟩
    · exact .inl (.inr (by rw [← e]; exact hi))
    · rw [e] at hi; cases hi; exact .inr hg)
  at2 := by
    have := h.keep.size
    rcases k.at_ with e | ⟨g, e, hg⟩
    · rcases h.at2 with e' | ⟨g, e', hg⟩
      · exact .inl (e.trans e')
      · exact .inr ⟨g, e.trans e', hg⟩
    · exact .inr ⟨g, e, by omega⟩
  at1 := h.at1
theorem AccU.trans {base : Nat} {v0 u0 v1 u1 v2 u2 : Value} {w0 w1 w2 : World} {p q : List Int × List Int} (h : AccU base v0 u0 w0 p v1 u1 w1) (k : AccU base v1 u1 w1 q v2 u2 w2) : AccU base v0 u0 w0 q v2 u2 w2 where
  a := k.a
  b := k.b
  ne := k.ne
  keep := h.keep.trans k.keep (fun i hi => by
    rcases hi with hi | hi
    · rcases h.at1 with e | ⟨g, e, hg⟩
      · exact .inl (.inl (by rw [← e]; exact hi))
      · rw [e] at hi; cases hi; exact .inr hg
    · rcases h.at2 with e | ⟨g, e, hg⟩
      · exact .inl (.inr (by rw [← e]; exact hi))
      · rw [e] at hi; cases hi; exact .inr hg)
  at1 := by
    have := h.keep.size
    rcases k.at1 with e | ⟨g, e, hg⟩
    · rcases h.at1 with e' | ⟨g, e', hg⟩
      · exact .inl (e.trans e')
      · exact .inr ⟨g, e.trans e', hg⟩
    · exact .inr ⟨g, e, by omega⟩
  at2 := by
    have := h.keep.size
    rcases k.at2 with e | ⟨g, e, hg⟩
    · rcases h.at2 with e' | ⟨g, e', hg⟩
      · exact .inl (e.trans e')
      · exact .inr ⟨g, e.trans e', hg⟩
    · exact .inr ⟨g, e, by omega⟩
/-- What is read is in neither row. -/
def OffU (ok : Nat → Prop) (v u : Value) : Prop := ∀ k, ok k → v.ownBlock ≠ some k ∧ u.ownBlock ≠ some k
theorem AccU.off {base : Nat} {v0 u0 v u : Value} {w0 w : World} {p : List Int × List Int} (h : AccU base v0 u0 w0 p v u w) {ok : Nat → Prop} (ho : OffU ok v0 u0) : OffU (fun k => ok k ∧ k < w0.heap.size) v u := fun k hk =>
  ⟨fun e => by
    rcases h.at1 with e' | ⟨g, e', hg⟩
    · exact (ho k hk.1).1 (e' ▸ e)
    · rw [e'] at e; cases e; have := hk.2; omega,
   fun e => by
    rcases h.at2 with e' | ⟨g, e', hg⟩
    · exact (ho k hk.1).2 (e' ▸ e)
    · rw [e'] at e; cases e; have := hk.2; omega⟩
set_option maxRecDepth 100000 in
set_option maxHeartbeats 4000000 in
theorem uses_calls (base : Nat) (N : Nat) : ∀ (c : Con) (A : Option Addr) (cap : Nat) (ok : Nat → Prop) (v u : Value) (p : List Int × List Int) (w : World), c.size < N → p.1.length + c.size ≤ 100000 → p.2.length + c.size ≤ 100000 → base ≤ w.heap.size → ConR ok w c [.int .i64 c.op, .int .i64 c.n, .slice A c.args.length cap] →
    OffU ok v u → AccU base v u w p v u w → Calls Tryz.prog 97 #[.agg #[.int .i64 c.op, .int .i64 c.n, .slice A c.args.length cap], v, u] w fun e w' => ∃ v' u', e = .returned (.tuple #[v', u']) ∧ AccU base v u w (usesC c p) v' u' w' := by
  induction N with
  | zero => intro c _ _ _ _ _ _ _ h; exact absurd h (Nat.not_lt_zero _)
  | succ N ih =>
  intro c A cap ok v u p w hN hl1 hl2 hbw hc hoff hacc
  have IH := Lib.hid @ih
  have HC := Lib.hid hc
  have HOFF := Lib.hid hoff
  have HA0 := Lib.hid hacc
  clear ih hc hoff hacc
  obtain ⟨op, n, args⟩ := c
  have HV : Hid (usesC ⟨op, n, args⟩ p = usesL (args.drop 0) (useN ⟨op, n, args⟩ p.1, useR ⟨op, n, args⟩ p.2)) := by unfold Hid; simp only [usesC, List.drop_zero]
  have HN1 : Hid (useN ⟨op, n, args⟩ p.1 = if op = 0 then insZ n p.1 else p.1) := rfl
  have HN2 : Hid (useR ⟨op, n, args⟩ p.2 = if op = 6 ∨ op = 7 then insZ (wrap64 (n.tdiv 2)) p.2 else p.2) := rfl
  have hln := useN_len ⟨op, n, args⟩ p.1
  have hlr := useR_len ⟨op, n, args⟩ p.2
  simp only [show ∀ o n a, (Con.mk o n a).op = o from fun _ _ _ => rfl, show ∀ o n a, (Con.mk o n a).n = n from fun _ _ _ => rfl, show ∀ o n a, (Con.mk o n a).args = a from fun _ _ _ => rfl] at HC ⊢
  have hsz : (Con.mk op n args).size = Con.sizes args + 1 := by simp [Con.size]
  have HCA := Lib.hid (conArgs HC.out).lim
  rw [hsz] at hN hl1 hl2
  generalize useN ⟨op, n, args⟩ p.1 = un at *
  generalize useR ⟨op, n, args⟩ p.2 = ur at *
  generalize usesC ⟨op, n, args⟩ p = rv at *
  have hal := len_sizes args
  clear hsz
  have HINS := Lib.hid (fun (b : Nat) (n : Int) (l : List Int) (v : Value) (W : World) => @insert_calls b n l v W)
  obtain ⟨qb, hqb⟩ : ∃ qb : Bool, (decide (op = 6) || decide (op = 7)) = qb := ⟨_, rfl⟩
  have HQ : Hid (∀ W, Calls Tryz.prog 61 #[.int .i64 op] W fun e w' => e = .returned (.bool qb) ∧ w' = W) := fun W => by have := quantified_calls op W; rwa [hqb] at this
  by_cases h0 : op = 0
  case' pos =>
    subst h0
    obtain rfl : qb = false := by simpa using hqb.symm
    go_enter Tryz.func97, Tryz.ntmps97
    go_wp2_with fail
    generalize hW0 : World.alloc _ _ = W0
    have hK0 : Keeps (fun _ => False) w W0 := by rw [← hW0]; repeat (first | exact Keeps.refl _ _ | refine Keeps.drewN ?_ _ | refine Keeps.drew ?_ | refine Keeps.alloc ?_ _ | refine Keeps.set ?_ (Or.inl (by rfl)) _)
    have hb0 : W0.heap[w.heap.size]? = some (.cells #[.int .i64 0, .int .i64 n, .slice A args.length cap] 37 (0, 0)) := by rw [← hW0]; exact blkNew rfl
    clear hW0
    have HA1 := Lib.hid (HA0.out.more hK0)
    refine (HINS.out base n p.1 v W0 (by omega) (by have := hK0.size; omega) HA1.out.a).mono ?_
    rintro e w1 ⟨v1, rfl, hn⟩
    have HA2 := Lib.hid (HA1.out.ins1 hn)
    have hb1 := hn.keep.blk hb0 (fun h => by have := (HA0.out.a.lt' h).2; omega)
    obtain ⟨x0, x1, x2⟩ := cells3 hb1
    have hbl := blkLt hb1
    clear hn hb0 HINS
    go_wp2_with fail
    refine (HQ.out w1).mono ?_
    rintro e w2 ⟨rfl, hw2⟩
    subst hw2
    go_wp2_with fail
    have HACC : Hid (AccU base v u w (un, ur) v1 u w2) := by unfold Hid; rw [HN1.out, HN2.out, if_neg (show ¬ ((0 : Int) = 6 ∨ (0 : Int) = 7) by omega), if_pos trivial]; exact HA2.out
  case' neg =>
    have z0 : (op == 0) = false := by simpa using h0
    go_enter Tryz.func97, Tryz.ntmps97
    go_wp2_with fail
    generalize hW0 : World.alloc _ _ = W0
    have hK0 : Keeps (fun _ => False) w W0 := by rw [← hW0]; repeat (first | exact Keeps.refl _ _ | refine Keeps.drewN ?_ _ | refine Keeps.drew ?_ | refine Keeps.alloc ?_ _ | refine Keeps.set ?_ (Or.inl (by rfl)) _)
    have hb0 : W0.heap[w.heap.size]? = some (.cells #[.int .i64 op, .int .i64 n, .slice A args.length cap] 37 (0, 0)) := by rw [← hW0]; exact blkNew rfl
    clear hW0
    refine (HQ.out W0).mono ?_
    rintro e w1 ⟨rfl, hw1⟩
    subst hw1
    obtain ⟨x0, x1, x2⟩ := cells3 hb0
    have hbl := blkLt hb0
    have HA1 := Lib.hid (HA0.out.more hK0)
    cases qb
    case' false =>
      have h67 : ¬ (op = 6 ∨ op = 7) := by simpa using hqb
      go_wp2_with fail
      have HACC : Hid (AccU base v u w (un, ur) v u w1) := by unfold Hid; rw [HN1.out, HN2.out, if_neg h0, if_neg h67]; exact HA1.out
    case' true =>
      have h67 : op = 6 ∨ op = 7 := by simpa using hqb
      go_wp2_with fail
      refine (HINS.out base _ p.2 u w1 (by omega) (by have := hK0.size; omega) HA1.out.b).mono ?_
      rintro e w2 ⟨u2, rfl, hn⟩
      have HA2 := Lib.hid (HA1.out.ins2 hn)
      have hb2 := hn.keep.blk hb0 (fun h => by have := (HA0.out.b.lt' h).2; omega)
      clear x0 x1 x2 hbl
      obtain ⟨x0, x1, x2⟩ := cells3 hb2
      have hbl := blkLt hb2
      clear hn hb0 HINS
      go_wp2_with fail
      have HACC : Hid (AccU base v u w (un, ur) v u2 w2) := by unfold Hid; rw [HN1.out, HN2.out, if_neg h0, if_pos h67]; exact HA2.out
  all_goals
    have hs1 : un.length + Con.sizes (args.drop 0) ≤ 100000 := by rw [List.drop_zero]; omega
    have hs2 : ur.length + Con.sizes (args.drop 0) ≤ 100000 := by rw [List.drop_zero]; omega
    clear x0 x1 x2 HQ
    go_loopw [1, 2, 28] (fun v1 v2 i wr => ∃ (k : Nat) (acc : List Int × List Int), k ≤ args.length ∧ i = .int .i64 k ∧ Hid (rv = usesL (args.drop k) acc) ∧ acc.1.length + Con.sizes (args.drop k) ≤ 100000 ∧ acc.2.length + Con.sizes (args.drop k) ≤ 100000 ∧ Hid (AccU base v u w acc v1 v2 wr)) (fun _ _ i _ => args.length - (intOf i).toNat)
    case atStart => exact ⟨0, (un, ur), Nat.zero_le _, rfl, HV, hs1, hs2, HACC⟩
    case round =>
      obtain ⟨k, acc, hk, rfl, HI, hsz1, hsz2, HA⟩ := hrel
      by_cases hlt : k < args.length
      · obtain ⟨bb, o, A', cap', rfl, hob, hbl', e0, e1, e2, hd⟩ := (HCA.out.keep HA.out.keep (fun j hj e => by rcases e with e | e; exact (HOFF.out j hj.1).1 e; exact (HOFF.out j hj.1).2 e)).nth k hlt
        have HST := Lib.hid (usesL_drop hlt acc)
        have i1 : (k : Int) < args.length := by omega
        have hsn := Con.size_at k hlt
        have hsdk : Con.sizes (args.drop k) = args[k].size + Con.sizes (args.drop (k + 1)) := by rw [List.drop_eq_getElem_cons hlt]; simp only [Con.sizes]
        have hcl := usesC_len args[k] acc
        have hwr : w.heap.size ≤ wr.heap.size := HA.out.keep.size
        generalize args[k] = d at *
        have HCALL := Lib.hid (fun W (hkw : Keeps (fun _ => False) wr W) => IH.out d A' cap' (fun j => ok j ∧ j < w.heap.size) u1 u2 acc W (by omega) (by omega) (by omega) (by have := hkw.size; omega) (hd.keep hkw (fun _ _ h => h)) (HA.out.off HOFF.out) (AccU.start (HA.out.a.keep' hkw (fun _ _ h => h)) (HA.out.b.keep' hkw (fun _ _ h => h)) HA.out.ne))
        clear hd
        generalize usesC d acc = acc2 at *
        go_wp2_with fail
        generalize hW4 : World.alloc _ _ = W4
        have hK4 : Keeps (fun _ => False) wr W4 := by rw [← hW4]; repeat (first | exact Keeps.refl _ _ | refine Keeps.drewN ?_ _ | refine Keeps.drew ?_ | refine Keeps.alloc ?_ _ | refine Keeps.set ?_ (Or.inl (by rfl)) _)
        clear hW4
        refine (HCALL.out W4 hK4).mono ?_
        clear HCALL
        rintro e w5 ⟨v5, u5', rfl, hacc⟩
        have HN := Lib.hid ((HA.out.more hK4).trans hacc)
        clear hacc
        go_wp2_with fail
        go_roundw
        case rel => exact ⟨k + 1, acc2, by omega, by go_num, by unfold Hid; rw [HI.out, HST.out], by omega, by omega, HN⟩
        case measure => simp [intOf]; omega
      · obtain rfl : k = args.length := by omega
        have HO : Hid (rv = acc) := by unfold Hid; rw [HI.out, List.drop_length]; simp only [usesL]
        go_wp2_with fail
        refine bodyPost_ret (v := .tuple #[u1, u2]) (by simp [results, Tryz.results97, go_sem]) rfl ⟨u1, u2, rfl, by rw [HO.out]; exact HA.out⟩
end Go.Proofs.YthiclhbnggehoaaGreatDoor
