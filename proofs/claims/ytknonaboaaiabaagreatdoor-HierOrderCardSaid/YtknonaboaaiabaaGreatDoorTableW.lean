/- What hier.Table computes: the closure of the role inclusions. -/
import Derived.Test.YtknonaboaaiabaaGreatDoorKbValid
import Derived.Test.YtknonaboaaiabaaGreatDoorMem
import Derived.Deep.OwnRows
import Derived.ScopeJumps
import Derived.WalkMore
import Derived.RegionTactic
import Derived.StillTailTactics
import Derived.Deep.RegionWith
namespace Go.Proofs.YtknonaboaaiabaaGreatDoor
open Go.RowKit
set_option linter.unusedVariables false
set_option linter.unusedSimpArgs false
/-- A slice of n slices of n bools: the first k are made, row r is block R r and holds M r. -/
structure Mat (w : World) (base t n k : Nat) (R : Nat → Nat) (M : Nat → Nat → Bool) : Prop where
  le : base ≤ t
  top : w.rowIs t 59 n (fun r => if r < k then .slice (some ⟨R r, 0, none⟩) n n else .slice none 0 0)
  rows : ∀ r, r < k → w.rowIs (R r) 4 n (fun s => .bool (M r s))
  ge : ∀ r, r < k → base ≤ R r
  inj : ∀ r s, r < k → s < k → R r = R s → r = s
  ne : ∀ r, r < k → R r ≠ t
theorem Mat.keep {S : Nat → Prop} {w w' : World} {base t n k : Nat} {R : Nat → Nat} {M : Nat → Nat → Bool} (h : Mat w base t n k R M) (hk : Keeps S w w') (hs : ∀ i, base ≤ i → ¬ S i) : Mat w' base t n k R M :=
  { h with top := h.top.of_block (hk.block _ h.top.lt (hs _ h.le)), rows := fun r hr => (h.rows r hr).of_block (hk.block _ (h.rows r hr).lt (hs _ (h.ge r hr))) }
theorem Mat.keep' {S : Nat → Prop} {w w' : World} {base t n k : Nat} {R : Nat → Nat} {M : Nat → Nat → Bool} (h : Mat w base t n k R M) (hk : Keeps S w w') (ht : ¬ S t) (hs : ∀ r, r < k → ¬ S (R r)) : Mat w' base t n k R M :=
  { h with top := h.top.of_block (hk.block _ h.top.lt ht), rows := fun r hr => (h.rows r hr).of_block (hk.block _ (h.rows r hr).lt (hs r hr)) }
theorem Mat.topCell {w : World} {base t n k : Nat} {R : Nat → Nat} {M : Nat → Nat → Bool} (h : Mat w base t n k R M) {r : Nat} (hr : r < k) (hn : r < n) : w.cell? ⟨t, r, none⟩ = some (.slice (some ⟨R r, 0, none⟩) n n) := by
  have := h.top.cell hn; rwa [if_pos hr] at this
theorem Mat.cell {w : World} {base t n k : Nat} {R : Nat → Nat} {M : Nat → Nat → Bool} (h : Mat w base t n k R M) {r s : Nat} (hr : r < k) (hs : s < n) : w.cell? ⟨R r, s, none⟩ = some (.bool (M r s)) := (h.rows r hr).cell hs
theorem Mat.set {w : World} {base t n k : Nat} {R : Nat → Nat} {M : Nat → Nat → Bool} (h : Mat w base t n k R M) {i : Nat} (hi : i < k) (j : Nat) (b : Bool) : Mat (w.setCell ⟨R i, j, none⟩ (.bool b)) base t n k R (updM M i j b) where
  le := h.le
  top := h.top.setOther (fun e => h.ne i hi e.symm) _
  rows r hr := by
    by_cases e : r = i
    · subst e
      exact ((h.rows r hr).set j _).congr (fun s _ => by unfold updM; split <;> simp_all)
    · exact ((h.rows r hr).setOther (a := ⟨R i, j, none⟩) (fun e' => e (h.inj r i hr hi e')) _).congr (fun s _ => by unfold updM; simp [e])
  ge := h.ge
  inj := h.inj
  ne := h.ne
theorem Mat.new {w : World} {base t n k : Nat} {R : Nat → Nat} {M : Nat → Nat → Bool} (h : Mat w base t n k R M) (hk : k < n) (hb : base ≤ w.heap.size) :
    Mat ((w.setCell ⟨t, k, none⟩ (.slice (some ⟨w.heap.size, 0, none⟩) n n)).alloc (.cells ((madeCells #[.bool false] n).setIfInBounds k (.bool true)) 4)) base t n (k + 1) (fun r => if r = k then w.heap.size else R r) (fun r s => if r = k then decide (s = k) else M r s) where
  le := h.le
  top := ((h.top.set k _).alloc _).congr (fun r _ => by
    by_cases e : r = k
    · subst e; simp
    · simp only [e, if_false]
      by_cases hlt : r < k
      · rw [if_pos hlt, if_pos (by omega)]
      · rw [if_neg hlt, if_neg (by omega)])
  rows r hr := by
    by_cases e : r = k
    · subst e
      simp only [if_true]
      have hs : (w.setCell ⟨t, r, none⟩ (.slice (some ⟨w.heap.size, 0, none⟩) n n)).heap.size = w.heap.size := by simp
      have := World.rowIs_alloc (w.setCell ⟨t, r, none⟩ (.slice (some ⟨w.heap.size, 0, none⟩) n n)) ((madeCells #[.bool false] n).setIfInBounds r (.bool true)) 4 (fun s => .bool (decide (s = r))) (fun i hi => by
        simp only [Array.size_setIfInBounds, size_madeCells] at hi
        rw [Array.getElem?_setIfInBounds]
        by_cases e : r = i
        · subst e; simp [size_madeCells, hi]
        · have : ¬ i = r := fun h => e h.symm
          simp [e, this, madeCells, hi, Nat.mod_one])
      rw [hs] at this
      simpa [size_madeCells] using this
    · have hlt : r < k := by omega
      have hne : R r ≠ w.heap.size := by have := (h.rows r hlt).lt; omega
      simp only [e, if_false]
      exact ((h.rows r hlt).setOther (a := ⟨t, k, none⟩) (h.ne r hlt) _).alloc _
  ge r hr := by split; exact hb; exact h.ge r (by omega)
  inj r s hr hs e := by
    by_cases h1 : r = k <;> by_cases h2 : s = k
    · omega
    · have := (h.rows s (by omega)).lt; simp [h1, h2] at e; omega
    · have := (h.rows r (by omega)).lt; simp [h1, h2] at e; omega
    · simp [h1, h2] at e; exact h.inj r s (by omega) (by omega) e
  ne r hr := by
    have := h.top.lt
    split
    · omega
    · exact h.ne r (by omega)
/-- A scope whose label is jumped to from behind it: what stands behind the label is walked once. -/
theorem scope_skip {P : Program} {a : Act} {w : World} {Q : Exit → Act → World → Prop} {c rest : Code} (l : Nat) (J : Act → World → Prop) (μ : Act → World → Nat) (hf : findLabel c l = some (Code.skip.seq rest))
    (pass : ∀ a w, J a w → rest.wp P (Exit.jump l (fun a' w' => J a' w' ∧ μ a' w' < μ a w) Q) a w) (first : (∀ a w, J a w → rest.wp P (Exit.jump l J Q) a w) → c.wp P (Exit.jump l J Q) a w) : (Code.scope c).wp P Q a w := by
  refine wp_scope_jumps l J μ hf (first fun a w h => ?_) (fun a w h => wp_seq (wp_skip (pass a w h)))
  refine wp_mono (pass a w h) fun e a' w' q => ?_
  cases e with
  | goto l' => exact ⟨q.1, q.2.1⟩
  | normal => exact q
  | exit id => exact q
  | ret => exact q
  | panic c => exact q
  | outgrown => exact q
/-- The inverse of a role. -/
def inv (r : Nat) : Nat := if r % 2 = 0 then r + 1 else r - 1
theorem inv_xor : ∀ r : Nat, r < 100 → bits .xor .i64 (r : Int) 1 = (inv r : Int) := by decide +kernel
theorem inverse_calls (r : Nat) (hr : r < 100) (w : World) : Calls Tryz.prog 133 #[.int .i64 r] w fun e w' => e = .returned (.int .i64 (inv r)) ∧ w = w' := by
  have HI := Lib.hid (inv_xor r hr)
  go_enter Tryz.func133, Tryz.ntmps133
  go_wp2
  go_ret
  exact ⟨by rw [← HI.out]; rfl, rfl⟩
end Go.Proofs.YtknonaboaaiabaaGreatDoor
/- The walk of hier.Table. -/
namespace Go.Proofs.YtknonaboaaiabaaGreatDoor
open Go.RowKit
set_option linter.unusedVariables false
set_option linter.unusedSimpArgs false
def edgeN (l : List (Int × Int)) (r s : Nat) : Prop := ∃ p ∈ l, (p.1 = r ∧ p.2 = s) ∨ (inv p.1.toNat = r ∧ inv p.2.toNat = s)
def rolesOk (nr : Nat) (l : List (Int × Int)) : Prop := ∀ p ∈ l, 0 ≤ p.1 ∧ p.1 < 2 * nr ∧ 0 ≤ p.2 ∧ p.2 < 2 * nr
theorem infoRow : (Tryz.prog.info? 59).map (fun i => (i.zero, i.size, i.bytes)) = some (some (.slice none 0 0), 1, 24) := by kernel_rfl
theorem infoBool : (Tryz.prog.info? 4).map (fun i => (i.zero, i.size, i.bytes)) = some (some (.bool false), 1, 1) := by kernel_rfl
/-- What the frame's fourth slot leads to. -/
def rowAt (w : World) (v : Value) (r : Nat) : Option Addr := match v with
  | .slice (some a) _ _ => match w.cell? ⟨a.block, r, none⟩ with
    | some (.slice (some x) _ _) => some x
    | _ => none
  | _ => none
def bitAt (w : World) (v : Value) (r s : Nat) : Bool := match rowAt w v r with
  | some x => match w.cell? ⟨x.block, s, none⟩ with
    | some (.bool b) => b
    | _ => false
  | none => false
theorem bitAt_eq {w : World} {base t n c : Nat} {R : Nat → Nat} {M : Nat → Nat → Bool} (h : Mat w base t n n R M) {r s : Nat} (hr : r < n) (hs : s < n) : bitAt w (.slice (some ⟨t, 0, none⟩) n c) r s = M r s := by
  simp only [bitAt, rowAt, h.topCell hr hr, h.cell hr hs]
theorem empty_eq {w : World} {base t n c : Nat} {R : Nat → Nat} {M : Nat → Nat → Bool} (h : Mat w base t n n R M) : emptyM n (bitAt w (.slice (some ⟨t, 0, none⟩) n c)) = emptyM n M := by
  unfold emptyM
  congr 1
  apply List.map_congr_left
  intro r hr
  congr 1
  apply List.filter_congr
  intro s hs
  rw [bitAt_eq h (List.mem_range.1 hr) (List.mem_range.1 hs)]
theorem inverse_calls' (r v : Nat) (h : Hid (bits .xor .i64 (r : Int) 1 = (v : Int))) (w : World) : Calls Tryz.prog 133 #[.int .i64 r] w fun e w' => e = .returned (.int .i64 v) ∧ w = w' := by
  go_enter Tryz.func133, Tryz.ntmps133
  go_wp2
  go_ret
  exact ⟨by rw [← h.out]; rfl, rfl⟩
theorem inv_lt {r n : Nat} (h : r < 2 * n) : inv r < 2 * n := by unfold inv; split <;> omega
theorem edgeN_lt {nr : Nat} {l : List (Int × Int)} (h : rolesOk nr l) {r s : Nat} (he : edgeN l r s) : r < 2 * nr ∧ s < 2 * nr := by
  obtain ⟨p, hp, h1⟩ := he
  obtain ⟨g1, g2, g3, g4⟩ := h p hp
  rcases h1 with ⟨h1, h2⟩ | ⟨rfl, rfl⟩
  · omega
  · exact ⟨inv_lt (by omega), inv_lt (by omega)⟩
theorem Keeps.setNew {w w' : World} (h : Keeps (fun _ => False) w w') {g o : Nat} (hg : w.heap.size ≤ g) (u : Value) : Keeps (fun _ => False) w (w'.setCell ⟨g, o, none⟩ u) := h.set (.inr hg) u
set_option maxRecDepth 100000 in
set_option maxHeartbeats 4000000 in
theorem table_calls (b : Kb) (p : KbA) (ok : Nat → Prop) (w : World) (hb : KbR ok w b p) (hn : b.rs.length ≤ 10) (hr : rolesOk b.rs.length b.roles) (hrl : b.roles.length ≤ 1000) :
    Calls Tryz.prog 77 #[.agg #[.slice p.a0 b.cs.length p.c0, .slice p.a1 b.rs.length p.c1, .slice p.a2 b.is.length p.c2, .slice p.a3 b.incls.length p.c3, .slice p.a4 b.roles.length p.c4, .slice p.a5 b.facts.length p.c5, .slice p.a6 b.links.length p.c6]] w fun e w' => ∃ t R M, e = .returned (.slice (some ⟨t, 0, none⟩) (2 * b.rs.length) (2 * b.rs.length)) ∧ Mat w' (w.heap.size + 1) t (2 * b.rs.length) (2 * b.rs.length) R M ∧
      (∀ r s, r < 2 * b.rs.length → s < 2 * b.rs.length → (M r s = true ↔ Reach (edgeN b.roles) r s)) ∧ Keeps (fun _ => False) w w' := by
  obtain ⟨a0, a1, a2, a3, a4, a5, a6, c0, c1, c2, c3, c4, c5, c6⟩ := p
  dsimp only
  have HB := Lib.hid hb.lim
  have HR := Lib.hid hr
  clear hb hr
  obtain ⟨n, hnn⟩ : ∃ n, n = 2 * b.rs.length := ⟨_, rfl⟩
  rw [← hnn]
  have hn20 : n ≤ 20 := by omega
  have HN := Lib.hid hnn
  have hmk1 := run_make_row' (P := Tryz.prog) 56 59 _ 24 Tryz.underlying56 infoRow rfl .i64 .i64 n (by omega) (by omega)
  have hmk2 := run_make_row' (P := Tryz.prog) 59 4 _ 1 Tryz.underlying59 infoBool rfl .i64 .i64 n (by omega) (by omega)
  have hn2 : 2 * (b.rs.length : Int) = n := by omega
  have HN2 := Lib.hid hn2
  clear hnn
  go_enter Tryz.func77, Tryz.ntmps77
  go_wp2_with fail
  refine scope_skip (P := Tryz.prog) 0 (fun a' w' => ∃ t R M, (∃ u5 u6 u7 u8 u9 u10 u11 u12 u13 u14 u15 u16 u17 u18 u19 u20 u21 u22 u23 u24 u25 u26 u27 u28 u29 u30 u31 u32 u33 u34 u35 u36 u37 u38 u39 u40 u41 u42 u43 u44 u45 u46 u47 u48 u49 u50 u51 u52 u53 u54 u55 u56 u57 u58 u59 u60 u61 u62 u63 u64 u65 u66 u67 u68 u69 u70 u71 u72 u73 u74 u75 u76 u77 u78 u79 u80 u81 u82 u83 u84 u85 u86 u87 u88 u89 u90 u91 u92 u93 u94 u95 u96 u97 u98 u99 u100 u101 u102 u103 u104 u105 u106 u107 u108 u109 u110 u111 : Value, a' = { tmps := #[.agg #[.slice a0 b.cs.length c0, .slice a1 b.rs.length c1, .slice a2 b.is.length c2, .slice a3 b.incls.length c3, .slice a4 b.roles.length c4, .slice a5 b.facts.length c5, .slice a6 b.links.length c6], .pointer (some ⟨w.heap.size, 0, none⟩), .slice none 0 0, .int .i64 n, .slice (some ⟨t, 0, none⟩) n n, u5, u6, u7, u8, u9, u10, u11, u12, u13, u14, u15, u16, u17, u18, u19, u20, u21, u22, u23, u24, u25, u26, u27, u28, u29, u30, u31, u32, u33, u34, u35, u36, u37, u38, u39, u40, u41, u42, u43, u44, u45, u46, u47, u48, u49, u50, u51, u52, u53, u54, u55, u56, u57, u58, u59, u60, u61, u62, u63, u64, u65, u66, u67, u68, u69, u70, u71, u72, u73, u74, u75, u76, u77, u78, u79, u80, u81, u82, u83, u84, u85, u86, u87, u88, u89, u90, u91, u92, u93, u94, u95, u96, u97, u98, u99, u100, u101, u102, u103, u104, u105, u106, u107, u108, u109, u110, u111], defers := [] }) ∧ Mat w' (w.heap.size + 1) t n n R M ∧ Toward (edgeN b.roles) n M ∧ Keeps (fun _ => False) w w')
    (fun a' w' => emptyM n (bitAt w' (a'.tmps.getD 4 undef))) rfl ?pass ?first
  case first =>
    intro pass
    go_wp2_with fail
    generalize hW1 : World.alloc _ _ = W1
    have hK1 : Keeps (fun _ => False) w W1 := by rw [← hW1]; repeat (first | exact Keeps.refl _ _ | refine Keeps.drewN ?_ _ | refine Keeps.drew ?_ | refine Keeps.alloc ?_ _ | refine Keeps.set ?_ (Or.inl (by rfl)) _)
    have hbx : W1.heap[w.heap.size]? = some (.cells #[.slice a0 b.cs.length c0, .slice a1 b.rs.length c1, .slice a2 b.is.length c2, .slice a3 b.incls.length c3, .slice a4 b.roles.length c4, .slice a5 b.facts.length c5, .slice a6 b.links.length c6] 30 (0, 0)) := by rw [← hW1]; exact blkAlloc (blkNew rfl) _
    have hM1 : Mat W1 (w.heap.size + 1) (w.heap.size + 1) n 0 (fun _ => 0) (fun r s => decide (s = r)) :=
      { le := Nat.le_refl _, rows := fun r hr => absurd hr (Nat.not_lt_zero _), ge := fun r hr => absurd hr (Nat.not_lt_zero _), inj := fun r s hr => absurd hr (Nat.not_lt_zero _), ne := fun r hr => absurd hr (Nat.not_lt_zero _)
        top := by
          rw [← hW1]
          have := World.rowIs_made (w.alloc (.cells #[.slice a0 b.cs.length c0, .slice a1 b.rs.length c1, .slice a2 b.is.length c2, .slice a3 b.incls.length c3, .slice a4 b.roles.length c4, .slice a5 b.facts.length c5, .slice a6 b.links.length c6] 30)) (.slice none 0 0) n 59
          simpa using this }
    have hsz1 : W1.heap.size = w.heap.size + 2 := by rw [← hW1]; simp
    clear hW1
    have HBX := Lib.hid hbx
    have HM1 := Lib.hid hM1
    clear hbx hM1
    generalize ht : w.heap.size + 1 = t at *
    have HT := Lib.hid ht
    clear ht
    go_loopw [20] (fun i wr => ∃ (k : Nat) (R : Nat → Nat), k ≤ n ∧ i = .int .i64 k ∧ Hid (Mat wr t t n k R (fun r s => decide (s = r))) ∧ Keeps (fun i => t ≤ i) W1 wr) (fun i _ => n - (intOf i).toNat)
    case atStart => exact ⟨0, _, Nat.zero_le _, rfl, HM1, Keeps.refl _ _⟩
    case round =>
      obtain ⟨k, R, hk, rfl, HM, HK⟩ := hrel
      have htw := HM.out.top.lt
      by_cases hlt : k < n
      · have e0 := HM.out.top.cell hlt
        simp only [Nat.lt_irrefl, if_false] at e0
        have f0 := HM.out.top.frozen k
        have hts : t < wr.heap.size := htw
        have hne : t ≠ wr.heap.size := by omega
        have hnew := Lib.hid (HM.out.new hlt (Nat.le_of_lt htw))
        have hmc : (madeCells #[.bool false] n)[k]? = some (.bool false) := by simp [madeCells, hlt, Nat.mod_one]
        go_wp2_with fail
        go_roundw
        case rel => exact ⟨k + 1, _, by omega, by go_num, by unfold Hid; have h := hnew.out; rw [show (fun r s => if r = k then decide (s = k) else decide (s = r)) = (fun r s : Nat => decide (s = r)) by funext r s; split; (rename_i e; rw [e]); rfl] at h; exact h, ((HK.set (g := t) (.inl (Nat.le_refl t)) _).alloc _)⟩
        case measure => simp [intOf]; omega
      · obtain rfl : n = k := by omega
        have hbx := HK.blk HBX.out (by have := HT.out; omega)
        obtain ⟨x0, x1, x2, x3, x4, x5, x6⟩ := cells7 hbx
        clear hbx hlt hmk1 hmk2
        go_wp2_with fail
        have hKa := hK1.of0.then_ HK
        clear HK hK1 HM1 hk htw x0 x1 x2 x3 x4 x5 x6
        obtain ⟨wa, rfl⟩ : ∃ wa : World, wa = wr := ⟨_, rfl⟩
        go_loopw [38] (fun i wr => ∃ (k : Nat) (M : Nat → Nat → Bool), k ≤ b.roles.length ∧ i = .int .i64 k ∧ Hid (Mat wr t t n n R M) ∧ Hid (Toward (edgeN (b.roles.take k)) n M) ∧ Keeps (fun i => t ≤ i) w wr) (fun i _ => b.roles.length - (intOf i).toNat)
        case atStart =>
          exact ⟨0, _, Nat.zero_le _, rfl, HM, ⟨fun r _ => by simp, fun r s _ _ h => by obtain ⟨p, hp, _⟩ := h; simp at hp, fun r s _ _ h => by simp at h; rw [h]; exact .refl _⟩, hKa⟩
        case round =>
          clear HM
          obtain ⟨k, M, hk, rfl, HM, HTW, HK⟩ := hrel
          by_cases hlt : k < b.roles.length
          · have hne : b.roles ≠ [] := by intro h; rw [h] at hlt; simp at hlt
            obtain ⟨bb, oo, hA, hob, hc⟩ := (HB.out.roles.keep HK (fun i hi => by have := HT.out; omega)) hne
            dsimp only at hA
            subst hA
            obtain ⟨e0, e1⟩ := hc k hlt
            have hro := HR.out b.roles[k] (List.getElem_mem hlt)
            have htk := Lib.hid (List.take_succ_eq_append_getElem hlt)
            generalize b.roles[k] = pr at *
            obtain ⟨s1, s2⟩ := pr
            dsimp only at e0 e1 hro
            obtain ⟨g1, g2, g3, g4⟩ := hro
            obtain ⟨r1, rfl⟩ := Int.eq_ofNat_of_zero_le g1
            obtain ⟨r2, rfl⟩ := Int.eq_ofNat_of_zero_le g3
            have q1 : r1 < n := by have := HN.out; omega
            have q2 : r2 < n := by have := HN.out; omega
            have i1 : inv r1 < n := by have := HN.out; unfold inv; split <;> omega
            have i2 : inv r2 < n := by have := HN.out; unfold inv; split <;> omega
            have m1 := HM.out.topCell q1 q1
            have m2 := HM.out.cell q1 q2
            have m3 := (HM.out.rows r1 q1).frozen r2
            have hsz := HM.out.top.lt
            have hrz := (HM.out.rows r1 q1).lt
            clear hc g1 g2 g3 g4
            go_wp2_with fail
            go_region
            go_wp2_with fail
            generalize hW4 : World.drew _ = W4
            have hK4 : Keeps (fun i => t ≤ i) wr W4 := by rw [← hW4]; exact ((((Keeps.refl _ _).set (.inl (HM.out.ge r1 q1)) _).alloc _).drew)
            have hM4 : Mat W4 t t n n R (updM M r1 r2 true) := by rw [← hW4]; exact (HM.out.set q1 r2 true).keep (S := fun _ => False) (((Keeps.refl _ _).alloc _).drew) (fun _ _ h => h)
            have hb4 : W4.heap[wr.heap.size]? = some (.cells #[.int .i64 r1, .int .i64 r2] 139 (0, 0)) := by
              rw [← hW4]; exact blkNew (by simp)
            clear hW4
            obtain ⟨j0, j1⟩ := cells2 hb4
            have HM4 := Lib.hid hM4
            clear hb4 m1 m2 m3 hsz hrz hM4
            have m1 := HM4.out.topCell i1 i1
            have m2 := HM4.out.cell i1 i2
            have m3 := (HM4.out.rows _ i1).frozen (inv r2)
            have hv1 := Lib.hid (inv_xor r1 (by omega))
            have hv2 := Lib.hid (inv_xor r2 (by omega))
            generalize hi1 : inv r1 = v1 at *
            generalize hi2 : inv r2 = v2 at *
            have HI1 := Lib.hid hi1
            have HI2 := Lib.hid hi2
            clear hi1 hi2
            go_region_with (go_at_call 133; first | (refine (inverse_calls' r1 v1 hv1 _).mono ?_; rintro e w' ⟨rfl, rfl⟩) | (refine (inverse_calls' r2 v2 hv2 _).mono ?_; rintro e w' ⟨rfl, rfl⟩))
            all_goals
              go_wp2_with fail
              go_roundw
              case rel =>
                refine ⟨k + 1, updM (updM M r1 r2 true) v1 v2 true, by omega, by go_num, (HM4.out.set i1 v2 true).keep (S := fun _ => False) ((Keeps.refl _ _).drew) (fun _ _ h => h), HTW.out.add (fun r s => ?_), (HK.then_ hK4).then_ (((Keeps.refl _ _).set (.inl (HM4.out.ge v1 i1)) _).drew)⟩
                rw [htk.out]
                simp only [edgeN, List.mem_append, List.mem_singleton]
                constructor
                · rintro ⟨p, hp | rfl, h⟩
                  · exact .inl ⟨p, hp, h⟩
                  · simp only [Int.toNat_natCast, HI1.out, HI2.out] at h; right; omega
                · rintro (⟨p, hp, h⟩ | ⟨rfl, rfl⟩ | ⟨rfl, rfl⟩)
                  · exact ⟨p, .inl hp, h⟩
                  · exact ⟨_, .inr rfl, .inl ⟨rfl, rfl⟩⟩
                  · exact ⟨_, .inr rfl, .inr ⟨by simp only [Int.toNat_natCast, HI1.out], by simp only [Int.toNat_natCast, HI2.out]⟩⟩
              case measure => simp [intOf]; omega
          · obtain rfl : k = b.roles.length := by omega
            have htw := HTW.out
            rw [List.take_length] at htw
            have HTW2 := Lib.hid htw
            clear htw hlt hk
            go_wp2_with fail
            go_step3
            go_step
            rename_i aK
            refine aK _ _ ?_
            obtain rfl := HT.out
            refine pass _ _ ⟨w.heap.size + 1, R, M, ⟨_, _, _, _, _, _, _, _, _, _, _, _, _, _, _, _, _, _, _, _, _, _, _, _, _, _, _, _, _, _, _, _, _, _, _, _, _, _, _, _, _, _, _, _, _, _, _, _, _, _, _, _, _, _, _, _, _, _, _, _, _, _, _, _, _, _, _, _, _, _, _, _, _, _, _, _, _, _, _, _, _, _, _, _, _, _, _, _, _, _, _, _, _, _, _, _, _, _, _, _, _, _, _, _, _, _, _, rfl⟩, HM.out, HTW2.out, HK.new (fun i hi => by omega)⟩
  case pass =>
    clear hmk1 hmk2
    rintro a' w0 ⟨t, R, M, ⟨u5, u6, u7, u8, u9, u10, u11, u12, u13, u14, u15, u16, u17, u18, u19, u20, u21, u22, u23, u24, u25, u26, u27, u28, u29, u30, u31, u32, u33, u34, u35, u36, u37, u38, u39, u40, u41, u42, u43, u44, u45, u46, u47, u48, u49, u50, u51, u52, u53, u54, u55, u56, u57, u58, u59, u60, u61, u62, u63, u64, u65, u66, u67, u68, u69, u70, u71, u72, u73, u74, u75, u76, u77, u78, u79, u80, u81, u82, u83, u84, u85, u86, u87, u88, u89, u90, u91, u92, u93, u94, u95, u96, u97, u98, u99, u100, u101, u102, u103, u104, u105, u106, u107, u108, u109, u110, u111, rfl⟩, hM, hT, hK⟩
    have HM := Lib.hid hM
    have HTW := Lib.hid hT
    clear hM hT
    go_wp2_with fail
    go_loop [63] (fun i => ∃ i0 : Nat, i0 ≤ n ∧ i = .int .i64 i0 ∧ Hid (∀ r, r < i0 → ∀ s q, s < n → q < n → M r s = true → M s q = true → M r q = true)) (fun i => n - (intOf i).toNat)
    case atStart => exact ⟨0, Nat.zero_le _, rfl, fun r hr => absurd hr (Nat.not_lt_zero _)⟩
    case round =>
      obtain ⟨i0, hi0, rfl, HC⟩ := hrel
      by_cases hi : i0 < n
      · go_wp2_with fail
        go_loop [68] (fun i => ∃ j0 : Nat, j0 ≤ n ∧ i = .int .i64 j0 ∧ Hid (∀ s, s < j0 → ∀ q, q < n → M i0 s = true → M s q = true → M i0 q = true)) (fun i => n - (intOf i).toNat)
        case atStart => exact ⟨0, Nat.zero_le _, rfl, fun r hr => absurd hr (Nat.not_lt_zero _)⟩
        case round =>
          obtain ⟨j0, hj0, rfl, HD⟩ := hrel
          by_cases hj : j0 < n
          · go_wp2_with fail
            go_loop [73] (fun i => ∃ k0 : Nat, k0 ≤ n ∧ i = .int .i64 k0 ∧ Hid (∀ q, q < k0 → M i0 j0 = true → M j0 q = true → M i0 q = true)) (fun i => n - (intOf i).toNat)
            case atStart => exact ⟨0, Nat.zero_le _, rfl, fun r hr => absurd hr (Nat.not_lt_zero _)⟩
            case round =>
              obtain ⟨k0, hk0, rfl, HE⟩ := hrel
              by_cases hk : k0 < n
              · have t1 := HM.out.topCell hi hi
                have t2 := HM.out.topCell hj hj
                have d1 := HM.out.cell hi hj
                have d2 := HM.out.cell hj hk
                have d3 := HM.out.cell hi hk
                have f3 := (HM.out.rows _ hi).frozen k0
                obtain ⟨x1, hm1⟩ : ∃ x, M i0 j0 = x := ⟨_, rfl⟩
                obtain ⟨x2, hm2⟩ : ∃ x, M j0 k0 = x := ⟨_, rfl⟩
                obtain ⟨x3, hm3⟩ : ∃ x, M i0 k0 = x := ⟨_, rfl⟩
                rw [hm1] at d1
                rw [hm2] at d2
                rw [hm3] at d3
                have H1 := Lib.hid hm1
                have H2 := Lib.hid hm2
                have H3 := Lib.hid hm3
                clear hm1 hm2 hm3
                have close : Hid (∀ k1 : Nat, k1 = k0 + 1 → (M i0 j0 = true → M j0 k0 = true → M i0 k0 = true) → ∀ q, q < k1 → M i0 j0 = true → M j0 q = true → M i0 q = true) := fun k1 hk1 h q hq => by
                  by_cases e : q = k0
                  · rw [e]; exact h
                  · exact HE.out q (by omega)
                cases x1
                · clear d2 d3 t2
                  go_wp2_with fail
                  go_round
                  case rel => exact ⟨k0 + 1, by omega, by go_num, close.out _ rfl (fun h => by rw [H1.out] at h; cases h)⟩
                  case measure => simp [intOf]; omega
                · cases x2
                  · clear d3
                    go_wp2_with fail
                    go_round
                    case rel => exact ⟨k0 + 1, by omega, by go_num, close.out _ rfl (fun _ h => by rw [H2.out] at h; cases h)⟩
                    case measure => simp [intOf]; omega
                  · cases x3
                    · go_wp2_with fail
                      go_step3
                      refine ⟨rfl, ⟨t, R, updM M i0 k0 true, ⟨_, _, _, _, _, _, _, _, _, _, _, _, _, _, _, _, _, _, _, _, _, _, _, _, _, _, _, _, _, _, _, _, _, _, _, _, _, _, _, _, _, _, _, _, _, _, _, _, _, _, _, _, _, _, _, _, _, _, _, _, _, _, _, _, _, _, _, _, _, _, _, _, _, _, _, _, _, _, _, _, _, _, _, _, _, _, _, _, _, _, _, _, _, _, _, _, _, _, _, _, _, _, _, _, _, _, _, rfl⟩, HM.out.set hi k0 true, HTW.out.set ((HTW.out.sound i0 j0 hi hj H1.out).trans (HTW.out.sound j0 k0 hj hk H2.out)), hK.setNew (by have := HM.out.ge i0 hi; omega) _⟩, ?_⟩
                      have e1 := empty_eq (c := n) HM.out
                      have e2 := empty_eq (c := n) (HM.out.set hi k0 true)
                      have e3 := emptyM_set (M := M) hi hk H3.out
                      rw [← e1, ← e2] at e3
                      exact e3
                    · go_wp2_with fail
                      go_round
                      case rel => exact ⟨k0 + 1, by omega, by go_num, close.out _ rfl (fun _ _ => H3.out)⟩
                      case measure => simp [intOf]; omega
              · obtain rfl : n = k0 := by omega
                go_wp2_with fail
                go_round
                case rel => exact ⟨j0 + 1, by omega, by go_num, fun s hs => by by_cases e : s = j0; (rw [e]; exact HE.out); exact HD.out s (by omega)⟩
                case measure => simp [intOf]; omega
          · obtain rfl : n = j0 := by omega
            go_wp2_with fail
            go_round
            case rel => exact ⟨i0 + 1, by omega, by go_num, fun r hr s q hs hq => by by_cases e : r = i0; (rw [e]; exact HD.out s hs q hq); exact HC.out r (by omega) s q hs hq⟩
            case measure => simp [intOf]; omega
      · obtain rfl : n = i0 := by omega
        go_wp2_with fail
        simp only [Exit.jump]
        go_ret
        rw [HN.out] at *
        exact ⟨t, R, M, rfl, HM.out, fun r s hr hs => HTW.out.closed (fun r s h => edgeN_lt HR.out h) (fun r s q h1 h2 h3 => HC.out r h1 s q h2 h3) hr hs, hK⟩
end Go.Proofs.YtknonaboaaiabaaGreatDoor
