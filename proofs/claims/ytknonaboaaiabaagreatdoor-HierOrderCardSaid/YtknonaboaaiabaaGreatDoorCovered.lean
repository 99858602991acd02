/- What (*hier.Space).covered computes. -/
import Derived.Test.YtknonaboaaiabaaGreatDoorTrue
import Derived.Test.YtknonaboaaiabaaGreatDoorMark
namespace Go.Proofs.YtknonaboaaiabaaGreatDoor
open Go.RowKit Go.Shelf
set_option linter.unusedVariables false
set_option linter.unusedSimpArgs false
attribute [local go_sem] Oper.semAt_some
/-- A part of a concept is known as a mark, or needs none. -/
def covP (cs rs : List ByteArray) (pl : List (ByteArray × Int)) (d : Con) : Bool :=
  if d.op = 0 then seenP pl (textC cs rs d) else if d.op = 6 ∨ d.op = 7 then seenP pl (textC cs rs (quantC d)) else true
def covC (cs rs : List ByteArray) (pl : List (ByteArray × Int)) (c : Con) : Bool := (preC c).all (covP cs rs pl)
def CovAll (cs rs : List ByteArray) (pl : List (ByteArray × Int)) (l : List Con) : Prop := ∀ d ∈ l, covP cs rs pl d = true
def CovNo (cs rs : List ByteArray) (pl : List (ByteArray × Int)) (l : List Con) : Prop := ∃ d ∈ l, covP cs rs pl d = false
theorem cov_all {cs rs : List ByteArray} {pl : List (ByteArray × Int)} {c : Con} (h : ∀ d ∈ preC c, covP cs rs pl d = true) : covC cs rs pl c = true := List.all_eq_true.2 h
theorem cov_no {cs rs : List ByteArray} {pl : List (ByteArray × Int)} {c d : Con} (h : d ∈ preC c) (h2 : covP cs rs pl d = false) : covC cs rs pl c = false := by
  cases hc : covC cs rs pl c
  · rfl
  · have := List.all_eq_true.1 hc d h; rw [h2] at this; cases this
set_option maxRecDepth 100000 in
set_option maxHeartbeats 4000000 in
theorem covered_calls (b : Kb) (p : KbA) (mv : Value) (m g : Nat) (pl : List (ByteArray × Int)) (ok2 : Nat → Prop) (hcs : ∀ s ∈ b.cs, s.size ≤ 12) (hrs : ∀ s ∈ b.rs, s.size ≤ 12) (hcl : b.cs.length ≤ 1000000) (hrl : b.rs.length ≤ 1000000)
    (c : Con) (A : Option Addr) (cap : Nat) (ok : Nat → Prop) (w : World) (hz : c.size ≤ 100000) (hsp : SpaceR w g b p mv m pl) (h0 : Row1 ok2 w Value.string b.cs p.a0) (h1 : Row1 ok2 w Value.string b.rs p.a1) (hd : DualsTab w)
    (hf : fitC b.cs.length b.rs.length c = true) (hc : ConR ok w c [.int .i64 c.op, .int .i64 c.n, .slice A c.args.length cap]) :
    Calls Tryz.prog 128 #[.pointer (some ⟨g, 0, none⟩), .agg #[.int .i64 c.op, .int .i64 c.n, .slice A c.args.length cap]] w fun e w' => e = .returned (.bool (covC b.cs b.rs pl c)) ∧ Keeps (fun _ => False) w w' := by
  have hplace : ∀ (ok' : Nat → Prop) (d : Con) (A' : Option Addr) (cap' : Nat) (W : World), Keeps (fun _ => False) w W → d.size ≤ 1000000 → fitC b.cs.length b.rs.length d = true → ConR ok' W d [.int .i64 d.op, .int .i64 d.n, .slice A' d.args.length cap'] →
      Calls Tryz.prog 184 #[.pointer (some ⟨g, 0, none⟩), .agg #[.int .i64 d.op, .int .i64 d.n, .slice A' d.args.length cap']] W fun e w' => e = .returned (.tuple #[.int .i64 (numP pl (textC b.cs b.rs d)), .bool (seenP pl (textC b.cs b.rs d))]) ∧ Keeps (fun _ => False) W w' :=
    fun ok' d A' cap' W hk hs hfd hcd => place_calls b p mv m g pl d A' cap' ok' ok2 W (hsp.keep hk (fun h => h) (fun h => h)) (h0.keep hk (fun _ _ h => h)) (h1.keep hk (fun _ _ h => h)) hcs hrs hcl hrl hs hfd hcd
  have HPLACE := Lib.hid hplace
  have HD := Lib.hid hd
  clear hplace hd hsp h0 h1 hcs hrs
  refine (callsIn_wide (n := 3)).1 ?_
  refine callsIn_of_wp_marks Tryz.func128 rfl trivial ?_ rfl
  simp only [Tryz.ntmps128, List.size_toArray, List.length_cons, List.length_nil, Nat.reduceAdd, Nat.reduceSub, Array.replicate_succ, Array.replicate_zero, List.push_toArray, List.append_toArray, List.nil_append, List.cons_append]
  gi_wp2_with ((try refine ⟨trivial, ?_⟩); gi_at_call 183; refine (all_in Fence.wide (3 - 1) trivial rfl _ _ _ _).mono ?_; rintro e w' ⟨rfl, rfl⟩)
  generalize hW0 : World.alloc _ _ = W0
  have hK0 : Keeps (fun _ => False) w W0 := by rw [← hW0]; repeat (first | exact Keeps.refl _ _ | refine Keeps.drewN ?_ _ | refine Keeps.drew ?_ | refine Keeps.alloc ?_ _ | refine Keeps.set ?_ (Or.inl (by rfl)) _)
  have hx1 : W0.heap[w.heap.size]? = some (.cells #[.pointer (some ⟨g, 0, none⟩)] 191 (0, 0)) := by rw [← hW0]; exact blkAlloc (blkAlloc (blkAlloc (blkNew rfl) _) _) _
  have hx2 : W0.heap[w.heap.size + 1 + 1]? = some (.cells #[.bool false] 4 (0, 0)) := by rw [← hW0]; exact blkAlloc (blkNew (by simp)) _
  have hx3 : W0.heap[w.heap.size + 1 + 1 + 1]? = some (.cells #[.int .i64 c.op, .int .i64 c.n, .slice A c.args.length cap] 94 (0, 0)) := by rw [← hW0]; exact blkNew (by simp)
  have hsz0 : W0.heap.size = w.heap.size + 4 := by rw [← hW0]; simp
  clear hW0
  refine wpIn_rangeFunc_ownH rfl (by decide) (gf := 226) (lb := #[.pointer (some ⟨w.heap.size + 1 + 1 + 1, 0, none⟩)]) rfl trivial (enters_of Tryz.func226 (by kernel_rfl) rfl)
    (all_stops Fence.wide rfl (3 - 1) trivial trivial rfl W0.heap.size (w.heap.size + 1 + 1 + 1) ok w W0 (fun c => fitC b.cs.length b.rs.length c = true ∧ c.size ≤ 100000) (fun c h i hi => ⟨fit_args c h.1 i hi, by have := Con.size_at i hi; have : c.size = Con.sizes c.args + 1 := (by cases c; simp [Con.size, Con.args]); omega⟩) (fun c h => fit_le c h.1) (Still ok w) (fun _ _ => False) (Foot.still ok w _ (by omega)) (fun W h => h.2) (fun W hb => (Still.refl ok w).keeps (hK0.then_ (Keeps.of_below hb)) (fun _ _ _ h => h)) ⟨(c, A, cap), hc, hf, hz⟩ hx3)
    KpI.trans (fun W l o o' hl hlo ho hw hI => ⟨(Foot.still ok w W0.heap.size (by omega)).pinv W l o o' hl hlo ho hw hI, KpR.ofKeeps (putKeeps W l o') (fun k o2 hk hk2 ho2 => by subst hk; rw [hlo] at hk2; cases hk2; rw [ho] at ho2; cases ho2) (fun k h => .inl h)⟩) (Below.refl _ _) (fun _ => rfl)
    (fun pre W => CovAll b.cs b.rs pl (pre.map Part.con) ∧ W.heap[w.heap.size]? = some (.cells #[.pointer (some ⟨g, 0, none⟩)] 191 (0, 0)) ∧ W.heap[w.heap.size + 1 + 1]? = some (.cells #[.bool false] 4 (0, 0)) ∧ W0.heap.size ≤ W.heap.size ∧ Keeps (fun _ => False) w W)
    (fun cd pre W => cd = .ret ∧ CovNo b.cs b.rs pl (pre.map Part.con) ∧ W.heap[w.heap.size + 1 + 1]? = some (.cells #[.bool false] 4 (0, 0)) ∧ Keeps (fun _ => False) w W)
    (fun s X Y row hs hg hr => by
      have hk := keepsGrown hg hr
      exact ⟨hs.1, hk.blk hs.2.1 (by omega), hk.blk hs.2.2.1 (by omega), Nat.le_trans hs.2.2.2.1 hk.size, hs.2.2.2.2.trans hk (fun i hi => .inr (by omega))⟩)
    (fun cd s X Y row hs hg hr => by
      have hk := keepsGrown hg hr
      exact ⟨hs.1, hs.2.1, hk.blk hs.2.2.1 (by omega), hs.2.2.2.trans hk (fun i hi => .inr (by omega))⟩)
    ⟨by simp [CovAll], hx1, hx2, Nat.le_refl _, hK0⟩
    (fun x a' W => ∃ Bx, W0.heap.size ≤ Bx ∧ W.heap[Bx]? = some (.cells #[.int .i64 x.con.op, .int .i64 x.con.n, .slice x.1.2.1 x.con.args.length x.1.2.2] 94 (0, 0)) ∧ a' = { tmps := #[.pointer (some ⟨g, 0, none⟩), .agg #[.int .i64 c.op, .int .i64 c.n, .slice A c.args.length cap], .pointer (some ⟨w.heap.size, 0, none⟩), .pointer (some ⟨w.heap.size + 1, 0, none⟩), .pointer (some ⟨w.heap.size + 1 + 1, 0, none⟩), .pointer (some ⟨Bx, 0, none⟩), undef, undef, undef, undef, undef, undef, .agg #[.int .i64 c.op, .int .i64 c.n, .slice A c.args.length cap], .func (.func 226) #[] #[.pointer (some ⟨w.heap.size + 1 + 1 + 1, 0, none⟩)], x.val, undef, undef, undef, undef, undef, undef, undef, undef, undef, undef, undef, undef, undef, undef, undef, undef, undef, undef, undef, undef, undef, undef, undef, undef, undef, undef, undef, undef], defers := [] })
    (fun x a' _ X Y row hs hg hr => by
      obtain ⟨Bx, g1, g2, g3⟩ := hs
      exact ⟨Bx, g1, (hg.block Bx (blkLt g2) (fun e => by obtain ⟨_, o, ho, hn⟩ := hr Bx e.symm; rw [g2] at ho; cases ho; cases hn)).trans g2, g3⟩)
    ?assign ?body ?done ?stop
  case assign =>
    rintro l pre ⟨⟨d, A', cap'⟩, hd, hfd⟩ W K ⟨hcov, e1, e2, hs, hkw⟩ hK
    simp only [Part.val] at hK ⊢
    gi_wp2
    have hkk := (Keeps.refl (fun _ => False) W).alloc (.cells #[.int .i64 d.op, .int .i64 d.n, .slice A' d.args.length cap'] 94)
    exact hK _ _ ((KeepsOthers.alloc _ _).from _) (fun hI => ⟨hI.keeps hkk (fun _ _ _ h => h), KpR.ofKeeps hkk (fun _ _ h _ _ => h.elim) (fun k h => .inl h)⟩) ⟨hcov, hkk.blk e1 (fun h => h), hkk.blk e2 (fun h => h), Nat.le_trans hs hkk.size, hkw.then_ hkk⟩ ⟨W.heap.size, hs, blkNew rfl, rfl⟩
  case body =>
    rintro l pre x a' W hl hr ⟨hcov, e1, e2, hs, hkw⟩ ⟨Bx, hBx, hB, rfl⟩ hlt
    rw [show x.val = .agg #[.int .i64 x.con.op, .int .i64 x.con.n, .slice x.1.2.1 x.con.args.length x.1.2.2] from rfl]
    have HI : ∀ W', Keeps (fun _ => False) W W' → covP b.cs b.rs pl x.con = true →
        KeepsFrom W0.heap.size W W' ∧ KpI (Still ok w) (fun _ _ => False) W W' ∧ (CovAll b.cs b.rs pl ((pre ++ [x]).map Part.con) ∧ W'.heap[w.heap.size]? = some (.cells #[.pointer (some ⟨g, 0, none⟩)] 191 (0, 0)) ∧ W'.heap[w.heap.size + 1 + 1]? = some (.cells #[.bool false] 4 (0, 0)) ∧ W0.heap.size ≤ W'.heap.size ∧ Keeps (fun _ => False) w W') := fun W' hk hcp =>
      ⟨KeepsFrom.ofKeeps hk (fun k o hS _ _ => hS.elim), fun hI => ⟨hI.keeps hk (fun _ _ _ h => h), KpR.ofKeeps hk (fun _ _ h _ _ => h.elim) (fun k h => .inl h)⟩,
        fun d hd => by
          simp only [List.map_append, List.map_cons, List.map_nil, List.mem_append, List.mem_singleton] at hd
          rcases hd with h | rfl
          · exact hcov d h
          · exact hcp, hk.blk e1 (fun h => h), hk.blk e2 (fun h => h), Nat.le_trans hs hk.size, hkw.then_ hk⟩
    have HX : ∀ W', Keeps (fun i => i = w.heap.size + 1 + 1) W W' → W'.heap[w.heap.size + 1 + 1]? = some (.cells #[.bool false] 4 (0, 0)) → covP b.cs b.rs pl x.con = false →
        KeepsFrom W0.heap.size W W' ∧ (CovNo b.cs b.rs pl ((pre ++ [x]).map Part.con) ∧ W'.heap[w.heap.size + 1 + 1]? = some (.cells #[.bool false] 4 (0, 0)) ∧ Keeps (fun _ => False) w W') := fun W' hk hb hcp =>
      ⟨KeepsFrom.ofKeeps hk (fun k o hS _ _ => by subst hS; omega), ⟨x.con, by simp, hcp⟩, hb, hkw.trans hk (fun i hi => .inr (by omega))⟩
    have hxc : ConR ok w x.con [.int .i64 x.con.op, .int .i64 x.con.n, .slice x.1.2.1 x.con.args.length x.1.2.2] := x.2.1
    have hxf : fitC b.cs.length b.rs.length x.con = true := x.2.2.1
    have hxz : x.con.size ≤ 100000 := x.2.2.2
    generalize x.con = d at *
    generalize x.1.2.1 = A' at *
    generalize x.1.2.2 = cap' at *
    have HXC := Lib.hid (hxc.keep hkw (fun _ _ h => h))
    have HXF := Lib.hid hxf
    have HII := Lib.hid HI
    have HXX := Lib.hid HX
    have HKW := Lib.hid hkw
    have z1 := cells1 e1
    have z2 := cells1 e2
    have zf := blkFree e2 0
    have HE2 := Lib.hid e2
    have HE1 := Lib.hid e1
    obtain ⟨y0, y1, y2⟩ := cells3 hB
    have hwl := blkLt e1
    have hrl2 := blkLt e2
    have hBl := blkLt hB
    have HSZ := Lib.hid hsz0
    clear HI HX hcov e1 e2 hxc hxf hkw hB hlt hsz0 hs
    obtain ⟨op, n, args⟩ := d
    simp only [Con.op, Con.n, Con.args] at HXC y0 y1 y2 ⊢
    by_cases h0 : op = 0
    · subst h0
      have hcp : covP b.cs b.rs pl ⟨0, n, args⟩ = seenP pl (textC b.cs b.rs ⟨0, n, args⟩) := rfl
      have HPL := Lib.hid (fun W' (hk : Keeps (fun _ => False) W W') => (callsIn_wide (n := 3 - 1 - 1 - 1)).2 (HPLACE.out ok ⟨0, n, args⟩ A' cap' W' (HKW.out.then_ hk) (by omega) HXF.out (HXC.out.keep hk (fun _ _ h => h))))
      simp only [Con.op, Con.n, Con.args] at HPL
      rw [hcp] at HII HXX
      generalize seenP pl (textC b.cs b.rs ⟨0, n, args⟩) = s at *
      generalize numP pl (textC b.cs b.rs ⟨0, n, args⟩) = z at *
      cases s
      · gi_wp2_with ((try refine ⟨trivial, ?_⟩); gi_at_call 184; refine (CallsIn.inRound l (HPL.out _ (Keeps.refl _ _))).mono ?_; rintro e w5 ⟨rfl, hk5⟩; have hf5 := blkFree (hk5.blk HE2.out (fun h => h)) 0; have hc5 := cells1 (hk5.blk HE2.out (fun h => h)))
        obtain ⟨r1, r2, r3, r4⟩ := HXX.out _ (hk5.of0.then_ (Keeps.set1 w5 _ 0 _)) (blkSet (hk5.blk HE2.out (fun h => h)) 0 _) (by simp)
        exact ⟨r1, rfl, r2, r3, r4⟩
      · gi_wp2_with ((try refine ⟨trivial, ?_⟩); gi_at_call 184; refine (CallsIn.inRound l (HPL.out _ (Keeps.refl _ _))).mono ?_; rintro e w5 ⟨rfl, hk5⟩)
        exact HII.out _ hk5 (by simp)
    · by_cases h67 : op = 6 ∨ op = 7
      · have hcp : covP b.cs b.rs pl ⟨op, n, args⟩ = seenP pl (textC b.cs b.rs (quantC ⟨op, n, args⟩)) := by unfold covP; rw [if_neg (by exact h0), if_pos (by exact h67)]
        have HQ : Hid (∀ W', Keeps (fun _ => False) W W' → CallsIn Fence.wide (3 - 1 - 1 - 1) Tryz.prog 185 #[.agg #[.int .i64 op, .int .i64 n, .slice A' args.length cap']] W' (fun e w' => ∃ A9 cap9, e = .returned (.tuple #[.agg #[.int .i64 (quantC ⟨op, n, args⟩).op, .int .i64 (quantC ⟨op, n, args⟩).n, .slice A9 (quantC ⟨op, n, args⟩).args.length cap9], .bool (decide (op = 6))]) ∧ ConR (fun b => ok b ∨ W'.heap.size ≤ b) w' (quantC ⟨op, n, args⟩) [.int .i64 (quantC ⟨op, n, args⟩).op, .int .i64 (quantC ⟨op, n, args⟩).n, .slice A9 (quantC ⟨op, n, args⟩).args.length cap9] ∧ Keeps (fun _ => False) W' w')) := fun W' hk => (callsIn_wide (n := 3 - 1 - 1 - 1)).2 ((quant_calls ⟨op, n, args⟩ A' cap' ok W' (shape_of_fit HXF.out) h67 (HXC.out.keep hk (fun _ _ h => h)) (HD.out.keep (HKW.out.then_ hk) (fun h => h))).mono fun e w' ⟨A', cap', h1, h2, h3⟩ => ⟨A', cap', h1, h2, h3⟩)
        have hsq := size_quant ⟨op, n, args⟩
        have hfq := fit_quant HXF.out h67
        rw [hcp] at HII HXX
        clear hcp
        generalize quantC ⟨op, n, args⟩ = q at *
        have HPL := Lib.hid (fun (ok' : Nat → Prop) (A9 : Option Addr) (cap9 : Nat) W' (hk : Keeps (fun _ => False) W W') hcq => (callsIn_wide (n := 3 - 1 - 1 - 1)).2 (HPLACE.out ok' q A9 cap9 W' (HKW.out.then_ hk) (by omega) hfq hcq))
        generalize seenP pl (textC b.cs b.rs q) = s at *
        generalize numP pl (textC b.cs b.rs q) = z at *
        clear hsq hfq
        rcases h67 with rfl | rfl
        all_goals
          cases s
          · gi_wp2_with ((try refine ⟨trivial, ?_⟩); gi_at_call 185; refine (CallsIn.inRound l (HQ.out _ (Keeps.refl _ _))).mono ?_; clear HQ; rintro e w5 ⟨A9, cap9, rfl, hcq, hk5⟩; have hs5 := hk5.size; have hz5 := cells1 (hk5.blk HE1.out (fun h => h)); have hw5 : w.heap.size < w5.heap.size := (by omega))
            gi_wp2_with ((try refine ⟨trivial, ?_⟩); gi_at_call 184; refine (CallsIn.inRound l (HPL.out _ A9 cap9 _ (hk5.alloc _) (hcq.keep ((Keeps.refl (fun _ => False) _).alloc _) (fun _ _ h => h)))).mono ?_; rintro e w6 ⟨rfl, hk6⟩; have hk56 := (hk5.alloc (.cells #[.int .i64 q.op, .int .i64 q.n, .slice A9 q.args.length cap9] 94)).then_ hk6; have hf6 := blkFree (hk56.blk HE2.out (fun h => h)) 0; have hc6 := cells1 (hk56.blk HE2.out (fun h => h)))
            obtain ⟨r1, r2, r3, r4⟩ := HXX.out _ (hk56.of0.then_ (Keeps.set1 w6 _ 0 _)) (blkSet (hk56.blk HE2.out (fun h => h)) 0 _) (by simp)
            exact ⟨r1, rfl, r2, r3, r4⟩
          · gi_wp2_with ((try refine ⟨trivial, ?_⟩); gi_at_call 185; refine (CallsIn.inRound l (HQ.out _ (Keeps.refl _ _))).mono ?_; clear HQ; rintro e w5 ⟨A9, cap9, rfl, hcq, hk5⟩; have hs5 := hk5.size; have hz5 := cells1 (hk5.blk HE1.out (fun h => h)); have hw5 : w.heap.size < w5.heap.size := (by omega))
            gi_wp2_with ((try refine ⟨trivial, ?_⟩); gi_at_call 184; refine (CallsIn.inRound l (HPL.out _ A9 cap9 _ (hk5.alloc _) (hcq.keep ((Keeps.refl (fun _ => False) _).alloc _) (fun _ _ h => h)))).mono ?_; rintro e w6 ⟨rfl, hk6⟩; have hk56 := (hk5.alloc (.cells #[.int .i64 q.op, .int .i64 q.n, .slice A9 q.args.length cap9] 94)).then_ hk6; have hf6 := blkFree (hk56.blk HE2.out (fun h => h)) 0; have hc6 := cells1 (hk56.blk HE2.out (fun h => h)))
            exact HII.out _ hk56 (by simp)
      · have h6 : (op == 6) = false := by simp; omega
        have h7 : (op == 7) = false := by simp; omega
        have h00 : (op == 0) = false := by simpa using h0
        gi_wp2
        exact HII.out _ (Keeps.refl _ _) (by unfold covP; rw [if_neg (by exact h0), if_neg (by exact h67)])
  case done =>
    rintro D xs W hD hxs ⟨hcov, e1, e2, hs, hkw⟩ hK
    have hxs' : xs.map Part.con = preC c := hxs
    rw [hxs'] at hcov
    have zf := blkFree e2 0
    have zc := cells1 e2
    gi_wp2
    have hk2 := Keeps.set1 W (w.heap.size + 1 + 1) 0 (.bool true)
    have hK2 := hk2.blk hK (by omega)
    have hr2 := blkSet e2 0 (.bool true)
    refine ⟨by simp, .inl ⟨_, _, rfl, run_takeDeferred hK2, ?_⟩⟩
    have hr3 := cells1 ((putKeeps _ D (.deferred none)).blk hr2 (by omega))
    refine ⟨.bool true, ?_, by rw [cov_all hcov], (hkw.trans hk2 (fun i hi => .inr (by omega))).trans (putKeeps _ D _) (fun i hi => .inr (by omega))⟩
    simp [results, Tryz.f128, go_sem, hr3]
  case stop =>
    rintro D cd pre W hD hpre ⟨rfl, ⟨d, hd, hcd⟩, e2, hkw⟩ hK
    gi_wp2
    refine ⟨by simp, .inl ⟨_, _, rfl, run_takeDeferred hK, ?_⟩⟩
    have hr3 := cells1 ((putKeeps _ D (.deferred none)).blk e2 (by omega))
    refine ⟨.bool false, ?_, by rw [cov_no (c := c) (List.IsPrefix.mem hd hpre) hcd], hkw.trans (putKeeps _ D _) (fun i hi => .inr (by omega))⟩
    simp [results, Tryz.f128, go_sem, hr3]
end Go.Proofs.YtknonaboaaiabaaGreatDoor
