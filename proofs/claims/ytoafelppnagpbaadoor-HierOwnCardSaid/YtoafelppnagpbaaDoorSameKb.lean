/- isagogeref02.Same of two knowledge bases that read as the same data. -/
import Derived.Test.YtoafelppnagpbaaDoorR2
import Derived.Deep.RegionHeld3
namespace Go.Proofs.YtoafelppnagpbaaDoor
open Go.RowKit
set_option linter.unusedVariables false
set_option linter.unusedSimpArgs false
set_option maxRecDepth 100000 in
set_option maxHeartbeats 4000000 in
theorem sameStr_calls (l : List ByteArray) (ok : Nat → Prop) (A B : Option Addr) (c d : Nat) (w : World) (ha : Row1 ok w Value.string l A) (hb : Row1 ok w Value.string l B) (hl : l.length ≤ 1000000) :
    Calls Tryd.prog 61 #[.slice A l.length c, .slice B l.length d] w fun e w' => e = .returned (.bool true) ∧ Keeps (fun _ => False) w w' := by
  have HA := Lib.hid ha
  have HB := Lib.hid hb
  clear ha hb
  go_enter Tryd.func61, Tryd.ntmps61
  go_wp2_with fail
  go_loopw [13] (fun i wr => ∃ k : Nat, k ≤ l.length ∧ i = .int .i64 k ∧ Keeps (fun _ => False) w wr) (fun i _ => l.length - (intOf i).toNat)
  case atStart => exact ⟨0, Nat.zero_le _, rfl, Keeps.refl _ _⟩
  case round =>
    obtain ⟨k, hk, rfl, HK⟩ := hrel
    by_cases hlt : k < l.length
    · obtain ⟨ba, oa, rfl, _, hca⟩ := (HA.out.keep HK (fun _ _ h => h)) (by intro h; subst h; simp at hlt)
      obtain ⟨bb, ob, rfl, _, hcb⟩ := (HB.out.keep HK (fun _ _ h => h)) (by intro h; subst h; simp at hlt)
      have ea := hca k hlt
      have eb := hcb k hlt
      have i1 : (k : Int) < l.length := by omega
      generalize l[k] = x at *
      clear hca hcb
      go_wp2_with fail
      go_quiet (fail)
      go_wp2_with fail
      go_roundw
      case rel => exact ⟨k + 1, by omega, by go_num, HK.drewN _⟩
      case measure => simp [intOf]; omega
    · obtain rfl : l.length = k := by omega
      go_wp2_with fail
      go_ret
      exact ⟨rfl, HK⟩
set_option maxRecDepth 100000 in
set_option maxHeartbeats 4000000 in
theorem sameNames_calls (cs rs is : List ByteArray) (ok : Nat → Prop) (A0 A1 A2 B0 B1 B2 : Option Addr) (c0 c1 c2 d0 d1 d2 : Nat) (w : World) (h0 : Row1 ok w Value.string cs A0) (h1 : Row1 ok w Value.string rs A1) (h2 : Row1 ok w Value.string is A2)
    (k0 : Row1 ok w Value.string cs B0) (k1 : Row1 ok w Value.string rs B1) (k2 : Row1 ok w Value.string is B2) (n0 : cs.length ≤ 1000000) (n1 : rs.length ≤ 1000000) (n2 : is.length ≤ 1000000) :
    Calls Tryd.prog 39 #[.agg #[.slice A0 cs.length c0, .slice A1 rs.length c1, .slice A2 is.length c2], .agg #[.slice B0 cs.length d0, .slice B1 rs.length d1, .slice B2 is.length d2]] w fun e w' => e = .returned (.bool true) ∧ Keeps (fun _ => False) w w' := by
  have HS0 := Lib.hid (fun W (hk : Keeps (fun _ => False) w W) => sameStr_calls cs ok A0 B0 c0 d0 W (h0.keep hk (fun _ _ h => h)) (k0.keep hk (fun _ _ h => h)) n0)
  have HS1 := Lib.hid (fun W (hk : Keeps (fun _ => False) w W) => sameStr_calls rs ok A1 B1 c1 d1 W (h1.keep hk (fun _ _ h => h)) (k1.keep hk (fun _ _ h => h)) n1)
  have HS2 := Lib.hid (fun W (hk : Keeps (fun _ => False) w W) => sameStr_calls is ok A2 B2 c2 d2 W (h2.keep hk (fun _ _ h => h)) (k2.keep hk (fun _ _ h => h)) n2)
  clear h0 h1 h2 k0 k1 k2
  go_enter Tryd.func39, Tryd.ntmps39
  go_wp2_with fail
  generalize hW0 : World.alloc _ _ = W0
  have hK0 : Keeps (fun _ => False) w W0 := by rw [← hW0]; repeat (first | exact Keeps.refl _ _ | refine Keeps.drewN ?_ _ | refine Keeps.drew ?_ | refine Keeps.alloc ?_ _ | refine Keeps.set ?_ (Or.inl (by rfl)) _)
  have hb0 : W0.heap[w.heap.size]? = some (.cells #[.slice A0 cs.length c0, .slice A1 rs.length c1, .slice A2 is.length c2] 24 (0, 0)) := by rw [← hW0]; exact blkAlloc (blkNew rfl) _
  have hb1 : W0.heap[w.heap.size + 1]? = some (.cells #[.slice B0 cs.length d0, .slice B1 rs.length d1, .slice B2 is.length d2] 24 (0, 0)) := by rw [← hW0]; exact blkNew (by simp)
  clear hW0
  refine (HS0.out W0 hK0).mono ?_
  clear HS0
  rintro e w1 ⟨rfl, hk1⟩
  have hK1 := hK0.then_ hk1
  have hd0 := hk1.blk hb0 (fun h => h)
  have hd1 := hk1.blk hb1 (fun h => h)
  obtain ⟨x0, x1, x2⟩ := cells3 hd0
  obtain ⟨y0, y1, y2⟩ := cells3 hd1
  have HD0 := Lib.hid hd0
  have HD1 := Lib.hid hd1
  have HK1 := Lib.hid hK1
  clear hb0 hb1 hk1 hK0 hK1 hd0 hd1
  go_wp2_with fail
  refine (HS1.out w1 HK1.out).mono ?_
  clear HS1
  rintro e w2 ⟨rfl, hk2⟩
  have hd0 := hk2.blk HD0.out (fun h => h)
  have hd1 := hk2.blk HD1.out (fun h => h)
  have HK2 := Lib.hid (HK1.out.then_ hk2)
  clear x0 x1 x2 y0 y1 y2
  obtain ⟨x0, x1, x2⟩ := cells3 hd0
  obtain ⟨y0, y1, y2⟩ := cells3 hd1
  clear hk2 HD0 HD1 HK1 hd0 hd1
  go_wp2_with fail
  refine (HS2.out w2 HK2.out).mono ?_
  clear HS2
  rintro e w3 ⟨rfl, hk3⟩
  go_wp2_with fail
  go_ret
  exact ⟨rfl, HK2.out.then_ hk3⟩
mutual
theorem sameC_refl : ∀ c : Con, sameC c c = true
  | ⟨op, n, args⟩ => by simp only [sameC, decide_true, Bool.true_and]; exact sameL_refl args
theorem sameL_refl : ∀ l : List Con, sameL l l = true
  | [] => by simp only [sameL]
  | c :: r => by simp only [sameL, sameC_refl c, sameL_refl r, Bool.and_self]
end
theorem same_self (c : Con) (A B : Option Addr) (ca cb : Nat) (ok : Nat → Prop) (w : World) (hs : c.size ≤ 1000) (ha : ConR ok w c [.int .i64 c.op, .int .i64 c.n, .slice A c.args.length ca]) (hb : ConR ok w c [.int .i64 c.op, .int .i64 c.n, .slice B c.args.length cb]) :
    Calls Tryd.prog 19 #[.agg #[.int .i64 c.op, .int .i64 c.n, .slice A c.args.length ca], .agg #[.int .i64 c.op, .int .i64 c.n, .slice B c.args.length cb]] w fun e w' => e = .returned (.bool true) ∧ Keeps (fun _ => False) w w' := by
  have h := same_calls (c.size + 1) c c A B ca cb ok w (Nat.lt_succ_self _) (by omega) ha hb
  rw [sameC_refl c] at h
  exact h
/-- A cell of a box, six cells of another, six cells of a row. -/
abbrev Hold13 (w : World) (gq gt bb o : Nat) (v u0 u1 u2 u3 u4 u5 z0 z1 z2 z3 z4 z5 : Value) : Prop :=
  w.cell? ⟨gq, 3, none⟩ = some v ∧ w.cell? ⟨gt, 0, none⟩ = some u0 ∧ w.cell? ⟨gt, 1, none⟩ = some u1 ∧ w.cell? ⟨gt, 2, none⟩ = some u2 ∧ w.cell? ⟨gt, 3, none⟩ = some u3 ∧ w.cell? ⟨gt, 4, none⟩ = some u4 ∧ w.cell? ⟨gt, 5, none⟩ = some u5 ∧
    w.cell? ⟨bb, o, none⟩ = some z0 ∧ w.cell? ⟨bb, o + 1, none⟩ = some z1 ∧ w.cell? ⟨bb, o + 2, none⟩ = some z2 ∧ w.cell? ⟨bb, o + 3, none⟩ = some z3 ∧ w.cell? ⟨bb, o + 3 + 1, none⟩ = some z4 ∧ w.cell? ⟨bb, o + 3 + 2, none⟩ = some z5
theorem hold13_keep {w w' : World} {gq gt bb o : Nat} {v u0 u1 u2 u3 u4 u5 z0 z1 z2 z3 z4 z5 : Value} (h : Hold13 w gq gt bb o v u0 u1 u2 u3 u4 u5 z0 z1 z2 z3 z4 z5) (hk : Keeps (fun _ => False) w w') : Hold13 w' gq gt bb o v u0 u1 u2 u3 u4 u5 z0 z1 z2 z3 z4 z5 := by
  obtain ⟨h1, h2, h3, h4, h5, h6, h7, h8, h9, h10, h11, h12, h13⟩ := h
  exact ⟨hk.cell h1 (fun h => h), hk.cell h2 (fun h => h), hk.cell h3 (fun h => h), hk.cell h4 (fun h => h), hk.cell h5 (fun h => h), hk.cell h6 (fun h => h), hk.cell h7 (fun h => h), hk.cell h8 (fun h => h), hk.cell h9 (fun h => h), hk.cell h10 (fun h => h), hk.cell h11 (fun h => h), hk.cell h12 (fun h => h), hk.cell h13 (fun h => h)⟩
/-- A cell of a box, four cells of another, four cells of a row. -/
abbrev Hold11 (w : World) (gq gt bb o : Nat) (v u0 u1 u2 u3 z0 z1 z2 z3 : Value) : Prop :=
  w.cell? ⟨gq, 5, none⟩ = some v ∧ w.cell? ⟨gt, 0, none⟩ = some u0 ∧ w.cell? ⟨gt, 1, none⟩ = some u1 ∧ w.cell? ⟨gt, 2, none⟩ = some u2 ∧ w.cell? ⟨gt, 3, none⟩ = some u3 ∧
    w.cell? ⟨bb, o, none⟩ = some z0 ∧ w.cell? ⟨bb, o + 1, none⟩ = some z1 ∧ w.cell? ⟨bb, o + 1 + 1, none⟩ = some z2 ∧ w.cell? ⟨bb, o + 1 + 2, none⟩ = some z3
theorem hold11_keep {w w' : World} {gq gt bb o : Nat} {v u0 u1 u2 u3 z0 z1 z2 z3 : Value} (h : Hold11 w gq gt bb o v u0 u1 u2 u3 z0 z1 z2 z3) (hk : Keeps (fun _ => False) w w') : Hold11 w' gq gt bb o v u0 u1 u2 u3 z0 z1 z2 z3 := by
  obtain ⟨h1, h2, h3, h4, h5, h6, h7, h8, h9⟩ := h
  exact ⟨hk.cell h1 (fun h => h), hk.cell h2 (fun h => h), hk.cell h3 (fun h => h), hk.cell h4 (fun h => h), hk.cell h5 (fun h => h), hk.cell h6 (fun h => h), hk.cell h7 (fun h => h), hk.cell h8 (fun h => h), hk.cell h9 (fun h => h)⟩
set_option maxRecDepth 100000 in
set_option maxHeartbeats 4000000 in
theorem sameKb_calls (b : Kb) (p q : KbA) (w : World) (hp : KbR (fun _ => True) w b p) (hq : KbR (fun _ => True) w b q) (n0 : b.cs.length ≤ 1000000) (n1 : b.rs.length ≤ 1000000) (n2 : b.is.length ≤ 1000000) (n3 : b.incls.length ≤ 1000000) (n4 : b.roles.length ≤ 1000000) (n5 : b.facts.length ≤ 1000000) (n6 : b.links.length ≤ 1000000)
    (hz3 : ∀ x ∈ b.incls, x.1.size ≤ 1000 ∧ x.2.size ≤ 1000) (hz5 : ∀ x ∈ b.facts, x.2.size ≤ 1000) :
    Calls Tryd.prog 20 #[.agg #[.slice p.a0 b.cs.length p.c0, .slice p.a1 b.rs.length p.c1, .slice p.a2 b.is.length p.c2, .slice p.a3 b.incls.length p.c3, .slice p.a4 b.roles.length p.c4, .slice p.a5 b.facts.length p.c5, .slice p.a6 b.links.length p.c6], .agg #[.slice q.a0 b.cs.length q.c0, .slice q.a1 b.rs.length q.c1, .slice q.a2 b.is.length q.c2, .slice q.a3 b.incls.length q.c3, .slice q.a4 b.roles.length q.c4, .slice q.a5 b.facts.length q.c5, .slice q.a6 b.links.length q.c6]] w fun e w' => e = .returned (.bool true) ∧ Keeps (fun _ => False) w w' := by
  have HN := Lib.hid (fun W (hk : Keeps (fun _ => False) w W) => sameNames_calls b.cs b.rs b.is (fun _ => True) p.a0 p.a1 p.a2 q.a0 q.a1 q.a2 p.c0 p.c1 p.c2 q.c0 q.c1 q.c2 W (hp.cs.keep hk (fun _ _ h => h)) (hp.rs.keep hk (fun _ _ h => h)) (hp.is.keep hk (fun _ _ h => h)) (hq.cs.keep hk (fun _ _ h => h)) (hq.rs.keep hk (fun _ _ h => h)) (hq.is.keep hk (fun _ _ h => h)) n0 n1 n2)
  have HP := Lib.hid hp
  have HQ := Lib.hid hq
  have HZ3 := Lib.hid hz3
  have HZ5 := Lib.hid hz5
  obtain ⟨a0, a1, a2, a3, a4, a5, a6, c0, c1, c2, c3, c4, c5, c6⟩ := p
  obtain ⟨b0, b1, b2, b3, b4, b5, b6, d0, d1, d2, d3, d4, d5, d6⟩ := q
  dsimp only at HN ⊢
  clear hp hq hz3 hz5
  go_enter Tryd.func20, Tryd.ntmps20
  go_wp2_with fail
  generalize hW0 : World.alloc _ _ = W0
  have hK0 : Keeps (fun _ => False) w W0 := by rw [← hW0]; repeat (first | exact Keeps.refl _ _ | refine Keeps.drewN ?_ _ | refine Keeps.drew ?_ | refine Keeps.alloc ?_ _ | refine Keeps.set ?_ (Or.inl (by rfl)) _)
  have hx0 : W0.heap[w.heap.size]? = some (.cells #[.slice a0 b.cs.length c0, .slice a1 b.rs.length c1, .slice a2 b.is.length c2, .slice a3 b.incls.length c3, .slice a4 b.roles.length c4, .slice a5 b.facts.length c5, .slice a6 b.links.length c6] 30 (0, 0)) := by rw [← hW0]; exact blkAlloc (blkNew rfl) _
  have hy0 : W0.heap[w.heap.size + 1]? = some (.cells #[.slice b0 b.cs.length d0, .slice b1 b.rs.length d1, .slice b2 b.is.length d2, .slice b3 b.incls.length d3, .slice b4 b.roles.length d4, .slice b5 b.facts.length d5, .slice b6 b.links.length d6] 30 (0, 0)) := by rw [← hW0]; exact blkNew (by simp)
  clear hW0
  refine (HN.out W0 hK0).mono ?_
  clear HN
  rintro e w1 ⟨rfl, hk1⟩
  have HK1 := Lib.hid (hK0.then_ hk1)
  have HX1 := Lib.hid (hk1.blk hx0 (fun h => h))
  have HY1 := Lib.hid (hk1.blk hy0 (fun h => h))
  clear hx0 hy0 hk1 hK0
  generalize hgx : w.heap.size = gx at *
  generalize hgy : gx + 1 = gy at *
  clear hgx hgy
  obtain ⟨x0, x1, x2, x3, x4, x5, x6⟩ := cells7 HX1.out
  obtain ⟨y0, y1, y2, y3, y4, y5, y6⟩ := cells7 HY1.out
  go_wp2_with fail
  clear x0 x1 x2 x3 x4 x5 x6 y0 y1 y2 y3 y4 y5 y6
  go_loopw [58] (fun i wr => ∃ k : Nat, k ≤ b.incls.length ∧ i = .int .i64 k ∧ Hid (Keeps (fun _ => False) w1 wr)) (fun i _ => b.incls.length - (intOf i).toNat)
  case atStart => exact ⟨0, Nat.zero_le _, rfl, Keeps.refl _ _⟩
  case round =>
    obtain ⟨k, hk, rfl, HK⟩ := hrel
    by_cases hlt : k < b.incls.length
    · have hne : b.incls ≠ [] := by intro h; rw [h] at hlt; simp at hlt
      obtain ⟨ba, oa, hA, _, hca⟩ := (HP.out.incls.keep (HK1.out.then_ HK.out) (fun _ _ h => h)) hne
      obtain ⟨bb, ob, hB, _, hcb⟩ := (HQ.out.incls.keep (HK1.out.then_ HK.out) (fun _ _ h => h)) hne
      dsimp only at hA hB
      subst hA hB
      obtain ⟨A1, e1, A2, e2, p0, p1, p2, p3, p4, p5, hp1, hp2⟩ := hca k hlt
      obtain ⟨B1, f1, B2, f2, q0, q1, q2, q3, q4, q5, hq1, hq2⟩ := hcb k hlt
      have hzk := HZ3.out b.incls[k] (List.getElem_mem hlt)
      generalize b.incls[k] = pr at *
      obtain ⟨c, d⟩ := pr
      dsimp only at p0 p1 p2 p3 p4 p5 hp1 hp2 q0 q1 q2 q3 q4 q5 hq1 hq2 hzk
      have HS1 := Lib.hid (fun W (hk : Keeps (fun _ => False) wr W) => same_self c A1 B1 e1 f1 (fun _ => True) W hzk.1 (hp1.keep hk (fun _ _ h => h)) (hq1.keep hk (fun _ _ h => h)))
      have HS2 := Lib.hid (fun W (hk : Keeps (fun _ => False) wr W) => same_self d A2 B2 e2 f2 (fun _ => True) W hzk.2 (hp2.keep hk (fun _ _ h => h)) (hq2.keep hk (fun _ _ h => h)))
      have HYR := Lib.hid (HK.out.blk HY1.out (fun h => h))
      have hqb := World.block_lt_of_cell? wr _ q0
      simp only at hqb
      have HQC := Lib.hid (And.intro q0 (And.intro q1 (And.intro q2 (And.intro q3 (And.intro q4 q5)))))
      have i1 : (k : Int) < b.incls.length := by omega
      clear hca hcb hp1 hp2 hq1 hq2 hzk q0 q1 q2 q3 q4 q5 hne
      go_wp2_with fail
      generalize hW4 : World.alloc _ _ = W4
      have hK4 : Keeps (fun _ => False) wr W4 := by rw [← hW4]; repeat (first | exact Keeps.refl _ _ | refine Keeps.drewN ?_ _ | refine Keeps.drew ?_ | refine Keeps.alloc ?_ _ | refine Keeps.set ?_ (Or.inl (by rfl)) _)
      have hg4 : W4.heap[wr.heap.size]? = some (.cells #[.int .i64 c.op, .int .i64 c.n, .slice A1 c.args.length e1, .int .i64 d.op, .int .i64 d.n, .slice A2 d.args.length e2] 66 (0, 0)) := by rw [← hW4]; exact blkNew rfl
      clear hW4 p0 p1 p2 p3 p4 p5
      have HH : Hid (Hold13 W4 gy wr.heap.size bb (ob + k * 6) (.slice (some ⟨bb, ob, none⟩) b.incls.length d3) (.int .i64 c.op) (.int .i64 c.n) (.slice A1 c.args.length e1) (.int .i64 d.op) (.int .i64 d.n) (.slice A2 d.args.length e2) (.int .i64 c.op) (.int .i64 c.n) (.slice B1 c.args.length f1) (.int .i64 d.op) (.int .i64 d.n) (.slice B2 d.args.length f2)) := Lib.hid (by
        obtain ⟨t0, t1, t2, t3, t4, t5⟩ := cells6 hg4
        obtain ⟨y0, y1, y2, y3, y4, y5, y6⟩ := cells7 (hK4.blk HYR.out (fun h => h))
        obtain ⟨q0, q1, q2, q3, q4, q5⟩ := HQC.out
        exact ⟨y3, t0, t1, t2, t3, t4, t5, hK4.cell q0 (fun h => h), hK4.cell q1 (fun h => h), hK4.cell q2 (fun h => h), hK4.cell q3 (fun h => h), hK4.cell q4 (fun h => h), hK4.cell q5 (fun h => h)⟩)
      have HK4 := Lib.hid hK4
      clear hg4 hK4
      go_region_held3 (fun w' => Hold13 w' gy wr.heap.size bb (ob + k * 6) (.slice (some ⟨bb, ob, none⟩) b.incls.length d3) (.int .i64 c.op) (.int .i64 c.n) (.slice A1 c.args.length e1) (.int .i64 d.op) (.int .i64 d.n) (.slice A2 d.args.length e2) (.int .i64 c.op) (.int .i64 c.n) (.slice B1 c.args.length f1) (.int .i64 d.op) (.int .i64 d.n) (.slice B2 d.args.length f2))
        (first
          | exact HH.out
          | with_reducible exact HH5.out
          | with_reducible exact HH6.out
          | fail)
        (first
          | (go_at_call 19; refine (HS1.out _ HK4.out.drew).mono ?_; clear HS1; rintro e w5 ⟨rfl, hk5⟩; have HK5 := Lib.hid (HK4.out.drew.then_ hk5); have HH5 := Lib.hid (hold13_keep HH.out ((Keeps.refl (fun _ => False) W4).drew.then_ hk5)); clear hk5)
          | (go_at_call 19; refine (HS2.out _ HK5.out).mono ?_; clear HS2; rintro e w6 ⟨rfl, hk6⟩; have HK6 := Lib.hid (HK5.out.then_ hk6); have HH6 := Lib.hid (hold13_keep HH5.out hk6); clear hk6))
      rename_i hHeld
      clear hHeld
      go_wp2_with fail
      go_roundw
      case rel => exact ⟨k + 1, by omega, by go_num, HK.out.then_ HK6.out⟩
      case measure => simp [intOf]; omega
    · obtain rfl : b.incls.length = k := by omega
      have HK2 := Lib.hid (HK1.out.then_ HK.out)
      have HX2 := Lib.hid (HK.out.blk HX1.out (fun h => h))
      have HY2 := Lib.hid (HK.out.blk HY1.out (fun h => h))
      obtain ⟨w2, rfl⟩ : ∃ wa : World, wa = wr := ⟨_, rfl⟩
      obtain ⟨x0, x1, x2, x3, x4, x5, x6⟩ := cells7 HX2.out
      clear HK HK1 HX1 HY1 hk hlt
      go_wp2_with fail
      clear x0 x1 x2 x3 x4 x5 x6
      go_loopw [89] (fun i wr => ∃ k : Nat, k ≤ b.roles.length ∧ i = .int .i64 k ∧ Hid (Keeps (fun _ => False) w2 wr)) (fun i _ => b.roles.length - (intOf i).toNat)
      case atStart => exact ⟨0, Nat.zero_le _, rfl, Keeps.refl _ _⟩
      case round =>
        obtain ⟨k, hk, rfl, HK⟩ := hrel
        by_cases hlt : k < b.roles.length
        · have hne : b.roles ≠ [] := by intro h; rw [h] at hlt; simp at hlt
          obtain ⟨ba, oa, hA, _, hca⟩ := (HP.out.roles.keep (HK2.out.then_ HK.out) (fun _ _ h => h)) hne
          obtain ⟨bb, ob, hB, _, hcb⟩ := (HQ.out.roles.keep (HK2.out.then_ HK.out) (fun _ _ h => h)) hne
          dsimp only at hA hB
          subst hA hB
          obtain ⟨p0, p1⟩ := hca k hlt
          obtain ⟨q0, q1⟩ := hcb k hlt
          obtain ⟨y0, y1, y2, y3, y4, y5, y6⟩ := cells7 (HK.out.blk HY2.out (fun h => h))
          have hgl := blkLt (HK.out.blk HY2.out (fun h => h))
          generalize b.roles[k] = pr at *
          obtain ⟨c, d⟩ := pr
          dsimp only at p0 p1 q0 q1
          have hqb := World.block_lt_of_cell? wr _ q0
          simp only at hqb
          have i1 : (k : Int) < b.roles.length := by omega
          clear hca hcb hne
          go_wp2_with fail
          go_quiet (fail)
          go_wp2_with fail
          go_roundw
          case rel => exact ⟨k + 1, by omega, by go_num, (HK.out.alloc _).drewN _⟩
          case measure => simp [intOf]; omega
        · obtain rfl : b.roles.length = k := by omega
          have HK3 := Lib.hid (HK2.out.then_ HK.out)
          have HX3 := Lib.hid (HK.out.blk HX2.out (fun h => h))
          have HY3 := Lib.hid (HK.out.blk HY2.out (fun h => h))
          obtain ⟨w3, rfl⟩ : ∃ wa : World, wa = wr := ⟨_, rfl⟩
          obtain ⟨x0, x1, x2, x3, x4, x5, x6⟩ := cells7 HX3.out
          clear HK HK2 HX2 HY2 hk hlt
          go_wp2_with fail
          clear x0 x1 x2 x3 x4 x5 x6
          go_loopw [105] (fun i wr => ∃ k : Nat, k ≤ b.facts.length ∧ i = .int .i64 k ∧ Hid (Keeps (fun _ => False) w3 wr)) (fun i _ => b.facts.length - (intOf i).toNat)
          case atStart => exact ⟨0, Nat.zero_le _, rfl, Keeps.refl _ _⟩
          case round =>
            obtain ⟨k, hk, rfl, HK⟩ := hrel
            by_cases hlt : k < b.facts.length
            · have hne : b.facts ≠ [] := by intro h; rw [h] at hlt; simp at hlt
              obtain ⟨ba, oa, hA, _, hca⟩ := (HP.out.facts.keep (HK3.out.then_ HK.out) (fun _ _ h => h)) hne
              obtain ⟨bb, ob, hB, _, hcb⟩ := (HQ.out.facts.keep (HK3.out.then_ HK.out) (fun _ _ h => h)) hne
              dsimp only at hA hB
              subst hA hB
              obtain ⟨A1, e1, p0, p1, p2, p3, hp1⟩ := hca k hlt
              obtain ⟨B1, f1, q0, q1, q2, q3, hq1⟩ := hcb k hlt
              have hzk := HZ5.out b.facts[k] (List.getElem_mem hlt)
              generalize b.facts[k] = pr at *
              obtain ⟨c, d⟩ := pr
              dsimp only at p0 p1 p2 p3 hp1 q0 q1 q2 q3 hq1 hzk
              have HS1 := Lib.hid (fun W (hk : Keeps (fun _ => False) wr W) => same_self d A1 B1 e1 f1 (fun _ => True) W hzk (hp1.keep hk (fun _ _ h => h)) (hq1.keep hk (fun _ _ h => h)))
              have HYR := Lib.hid (HK.out.blk HY3.out (fun h => h))
              have HQC := Lib.hid (And.intro q0 (And.intro q1 (And.intro q2 q3)))
              have i1 : (k : Int) < b.facts.length := by omega
              clear hca hcb hp1 hq1 hzk q0 q1 q2 q3 hne
              go_wp2_with fail
              generalize hW4 : World.alloc _ _ = W4
              have hK4 : Keeps (fun _ => False) wr W4 := by rw [← hW4]; repeat (first | exact Keeps.refl _ _ | refine Keeps.drewN ?_ _ | refine Keeps.drew ?_ | refine Keeps.alloc ?_ _ | refine Keeps.set ?_ (Or.inl (by rfl)) _)
              have hg4 : W4.heap[wr.heap.size]? = some (.cells #[.int .i64 c, .int .i64 d.op, .int .i64 d.n, .slice A1 d.args.length e1] 74 (0, 0)) := by rw [← hW4]; exact blkNew rfl
              clear hW4 p0 p1 p2 p3
              have HH : Hid (Hold11 W4 gy wr.heap.size bb (ob + k * 4) (.slice (some ⟨bb, ob, none⟩) b.facts.length d5) (.int .i64 c) (.int .i64 d.op) (.int .i64 d.n) (.slice A1 d.args.length e1) (.int .i64 c) (.int .i64 d.op) (.int .i64 d.n) (.slice B1 d.args.length f1)) := Lib.hid (by
                obtain ⟨t0, t1, t2, t3⟩ := cells4 hg4
                obtain ⟨y0, y1, y2, y3, y4, y5, y6⟩ := cells7 (hK4.blk HYR.out (fun h => h))
                obtain ⟨q0, q1, q2, q3⟩ := HQC.out
                exact ⟨y5, t0, t1, t2, t3, hK4.cell q0 (fun h => h), hK4.cell q1 (fun h => h), hK4.cell q2 (fun h => h), hK4.cell q3 (fun h => h)⟩)
              have HK4 := Lib.hid hK4
              clear hg4 hK4
              go_region_held3 (fun w' => Hold11 w' gy wr.heap.size bb (ob + k * 4) (.slice (some ⟨bb, ob, none⟩) b.facts.length d5) (.int .i64 c) (.int .i64 d.op) (.int .i64 d.n) (.slice A1 d.args.length e1) (.int .i64 c) (.int .i64 d.op) (.int .i64 d.n) (.slice B1 d.args.length f1))
                (first
                  | exact HH.out
                  | with_reducible exact HH5.out
                  | fail)
                ((go_at_call 19; refine (HS1.out _ HK4.out.drew).mono ?_; clear HS1; rintro e w5 ⟨rfl, hk5⟩; have HK5 := Lib.hid (HK4.out.drew.then_ hk5); have HH5 := Lib.hid (hold11_keep HH.out ((Keeps.refl (fun _ => False) W4).drew.then_ hk5)); clear hk5))
              rename_i hHeld
              clear hHeld
              go_wp2_with fail
              go_roundw
              case rel => exact ⟨k + 1, by omega, by go_num, HK.out.then_ HK5.out⟩
              case measure => simp [intOf]; omega
            · obtain rfl : b.facts.length = k := by omega
              have HK4 := Lib.hid (HK3.out.then_ HK.out)
              have HX4 := Lib.hid (HK.out.blk HX3.out (fun h => h))
              have HY4 := Lib.hid (HK.out.blk HY3.out (fun h => h))
              obtain ⟨w4, rfl⟩ : ∃ wa : World, wa = wr := ⟨_, rfl⟩
              obtain ⟨x0, x1, x2, x3, x4, x5, x6⟩ := cells7 HX4.out
              clear HK HK3 HX3 HY3 hk hlt
              go_wp2_with fail
              clear x0 x1 x2 x3 x4 x5 x6
              go_loopw [135] (fun i wr => ∃ k : Nat, k ≤ b.links.length ∧ i = .int .i64 k ∧ Hid (Keeps (fun _ => False) w4 wr)) (fun i _ => b.links.length - (intOf i).toNat)
              case atStart => exact ⟨0, Nat.zero_le _, rfl, Keeps.refl _ _⟩
              case round =>
                obtain ⟨k, hk, rfl, HK⟩ := hrel
                by_cases hlt : k < b.links.length
                · have hne : b.links ≠ [] := by intro h; rw [h] at hlt; simp at hlt
                  obtain ⟨ba, oa, hA, _, hca⟩ := (HP.out.links.keep (HK4.out.then_ HK.out) (fun _ _ h => h)) hne
                  obtain ⟨bb, ob, hB, _, hcb⟩ := (HQ.out.links.keep (HK4.out.then_ HK.out) (fun _ _ h => h)) hne
                  dsimp only at hA hB
                  subst hA hB
                  obtain ⟨p0, p1, p2⟩ := hca k hlt
                  obtain ⟨q0, q1, q2⟩ := hcb k hlt
                  obtain ⟨y0, y1, y2, y3, y4, y5, y6⟩ := cells7 (HK.out.blk HY4.out (fun h => h))
                  have hgl := blkLt (HK.out.blk HY4.out (fun h => h))
                  generalize b.links[k] = pr at *
                  obtain ⟨c, d, e⟩ := pr
                  dsimp only at p0 p1 p2 q0 q1 q2
                  have hqb := World.block_lt_of_cell? wr _ q0
                  simp only at hqb
                  have i1 : (k : Int) < b.links.length := by omega
                  clear hca hcb hne
                  go_wp2_with fail
                  go_quiet (fail)
                  go_wp2_with fail
                  go_roundw
                  case rel => exact ⟨k + 1, by omega, by go_num, (HK.out.alloc _).drewN _⟩
                  case measure => simp [intOf]; omega
                · obtain rfl : b.links.length = k := by omega
                  go_wp2_with fail
                  go_ret
                  exact ⟨rfl, HK4.out.then_ HK.out⟩
end Go.Proofs.YtoafelppnagpbaaDoor
