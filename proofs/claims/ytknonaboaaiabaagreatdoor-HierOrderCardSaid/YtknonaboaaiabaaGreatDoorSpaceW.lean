/- What hier.NewSpace computes: the walk. -/
import Derived.Test.YtknonaboaaiabaaGreatDoorSpaceC
import Derived.Laws.EntriesVeiled
namespace Go.Proofs.YtknonaboaaiabaaGreatDoor
open Go.RowKit Go.Shelf
set_option linter.unusedVariables false
set_option linter.unusedSimpArgs false
attribute [local go_sem] Oper.semAt_some
theorem map_take_succ {α β : Type} (f : α → β) (l : List α) (k : Nat) (h : k < l.length) : (l.take (k + 1)).map f = (l.take k).map f ++ [f l[k]] := by rw [List.take_succ_eq_append_getElem h, List.map_append]; rfl
theorem len_sizes (l : List Con) : l.length ≤ Con.sizes l := by
  induction l with
  | nil => simp [Con.sizes]
  | cons c r ih => obtain ⟨op, n, args⟩ := c; simp only [List.length_cons, Con.sizes, Con.size]; omega
theorem sizes_at (l : List Con) (k : Nat) (h : k < l.length) : Con.sizes (l.take k) + l[k].size ≤ Con.sizes l := by
  induction l generalizing k with
  | nil => simp at h
  | cons c r ih =>
    cases k with
    | zero => simp [Con.sizes]
    | succ k => have := ih k (by simpa using h); simp only [List.take_succ_cons, List.getElem_cons_succ, Con.sizes]; omega
theorem OwnCons.lower {w : World} {base base' : Nat} {v : Value} {l : List Con} (h : OwnCons w base v l) (hb : base' ≤ base) : OwnCons w base' v l := by
  obtain ⟨cells, h1, h2⟩ := h
  exact ⟨cells, World.ownsRow.mono h1 hb, fun i hi => by obtain ⟨v0, v1, v2, e0, e1, e2, hc⟩ := h2 i hi; exact ⟨v0, v1, v2, e0, e1, e2, hc.mono (fun k hk => ⟨by omega, hk.2⟩)⟩⟩
def RetSpace (b : Kb) (p : KbA) (ms : List Con) (w : World) (e : Ending) (w' : World) : Prop :=
  ∃ g m mv, e = .returned (.tuple #[.pointer (some ⟨g, 0, none⟩), .bool (decide (ms.length ≤ 8))]) ∧ w.heap.size ≤ g ∧ SpaceR w' g b p mv m (plOf b.cs b.rs ms) ∧ OwnCons w' w.heap.size mv ms ∧ Keeps (fun _ => False) w w'
set_option maxRecDepth 100000 in
set_option maxHeartbeats 4000000 in
theorem space_calls (b : Kb) (p : KbA) (more : List Con) (ok : Nat → Prop) (A : Option Addr) (cap : Nat) (w : World) (hb : KbR ok w b p) (hd : DualsTab w) (hm : ConsAt ok w more A) (hcap : more.length ≤ cap)
    (hcs : ∀ s ∈ b.cs, s.size ≤ 12) (hrs : ∀ s ∈ b.rs, s.size ≤ 12) (hcl : b.cs.length ≤ 1000) (hrl : b.rs.length ≤ 1000)
    (hfi : ∀ x ∈ b.incls, fitC b.cs.length b.rs.length x.1 = true ∧ fitC b.cs.length b.rs.length x.2 = true) (hff : ∀ x ∈ b.facts, fitC b.cs.length b.rs.length x.2 = true) (hfm : ∀ x ∈ more, fitC b.cs.length b.rs.length x = true)
    (hli : b.incls.length ≤ 1000) (hlf : b.facts.length ≤ 1000) (hlm : more.length ≤ 1000) (htot : Con.sizes (allC b more) ≤ 100000) :
    Calls Tryz.prog 181 #[.agg #[.slice p.a0 b.cs.length p.c0, .slice p.a1 b.rs.length p.c1, .slice p.a2 b.is.length p.c2, .slice p.a3 b.incls.length p.c3, .slice p.a4 b.roles.length p.c4, .slice p.a5 b.facts.length p.c5, .slice p.a6 b.links.length p.c6], .slice A more.length cap] w (RetSpace b p (marksC b more) w) := by
  have hfall : ∀ c ∈ allC b more, fitC b.cs.length b.rs.length c = true := by
    intro c hc
    simp only [allC, List.mem_append, List.mem_map] at hc
    rcases hc with (⟨x, hx, rfl⟩ | ⟨x, hx, rfl⟩) | ⟨x, hx, rfl⟩
    · exact fit_mk (by omega) rfl rfl (by simp only [fitL, fit_nnf true (hfi x hx).1, fit_nnf false (hfi x hx).2, Bool.and_self])
    · exact fit_nnf false (hff x hx)
    · exact fit_nnf false (hfm x hx)
  have HFALL := Lib.hid hfall
  clear hfall
  rw [show marksC b more = marksL b.cs b.rs (allC b more) from rfl]
  have HALLC : Hid (allC b more = b.incls.map eitherC ++ b.facts.map (fun x => nnfC x.2 false) ++ more.map (nnfC · false)) := rfl
  generalize allC b more = all at *
  obtain ⟨a0, a1, a2, a3, a4, a5, a6, c0, c1, c2, c3, c4, c5, c6⟩ := p
  have hI : ∀ wr, Keeps (fun _ => False) w wr → ∀ k (h : k < b.incls.length), ∃ bb o A1 d1 A2 d2, a3 = some ⟨bb, o, none⟩ ∧ bb < wr.heap.size ∧ wr.cell? ⟨bb, o + k * 6, none⟩ = some (.int .i64 b.incls[k].1.op) ∧ wr.cell? ⟨bb, o + k * 6 + 1, none⟩ = some (.int .i64 b.incls[k].1.n) ∧ wr.cell? ⟨bb, o + k * 6 + 2, none⟩ = some (.slice A1 b.incls[k].1.args.length d1) ∧
      wr.cell? ⟨bb, o + k * 6 + 3, none⟩ = some (.int .i64 b.incls[k].2.op) ∧ wr.cell? ⟨bb, o + k * 6 + 4, none⟩ = some (.int .i64 b.incls[k].2.n) ∧ wr.cell? ⟨bb, o + k * 6 + 5, none⟩ = some (.slice A2 b.incls[k].2.args.length d2) ∧
      ∀ W, Keeps (fun _ => False) wr W → CallsIn Fence.wide (3 - 1) Tryz.prog 220 #[.agg #[.int .i64 b.incls[k].1.op, .int .i64 b.incls[k].1.n, .slice A1 b.incls[k].1.args.length d1, .int .i64 b.incls[k].2.op, .int .i64 b.incls[k].2.n, .slice A2 b.incls[k].2.args.length d2]] W (RetCon (eitherC b.incls[k]) W) := by
    intro wr hk k h
    obtain ⟨bb, o, e, hob, hc⟩ := (hb.incls.keep hk (fun _ _ h => h)) (by intro e; rw [e] at h; simp at h)
    obtain ⟨A1, d1, A2, d2, e0, e1, e2, e3, e4, e5, h1, h2⟩ := hc k h
    have hf := hfi _ (List.getElem_mem h)
    exact ⟨bb, o, A1, d1, A2, d2, e, World.block_lt_of_cell? wr _ e0, e0, e1, e2, e3, e4, e5, fun W hW => (callsIn_wide (n := 3 - 1)).2 (either_calls b.incls[k] A1 A2 d1 d2 ok W (shape_of_fit hf.1) (shape_of_fit hf.2) (h1.keep hW (fun _ _ h => h)) (h2.keep hW (fun _ _ h => h)) (hd.keep (hk.then_ hW) (fun h => h)))⟩
  have HI := Lib.hid hI
  clear hI
  have hF : ∀ wr, Keeps (fun _ => False) w wr → ∀ k (h : k < b.facts.length), ∃ bb o A1 d1, a5 = some ⟨bb, o, none⟩ ∧ bb < wr.heap.size ∧ wr.cell? ⟨bb, o + k * 4, none⟩ = some (.int .i64 b.facts[k].1) ∧ wr.cell? ⟨bb, o + k * 4 + 1, none⟩ = some (.int .i64 b.facts[k].2.op) ∧ wr.cell? ⟨bb, o + k * 4 + 2, none⟩ = some (.int .i64 b.facts[k].2.n) ∧ wr.cell? ⟨bb, o + k * 4 + 3, none⟩ = some (.slice A1 b.facts[k].2.args.length d1) ∧
      ∀ W, Keeps (fun _ => False) wr W → CallsIn Fence.wide (3 - 1) Tryz.prog 127 #[.agg #[.int .i64 b.facts[k].2.op, .int .i64 b.facts[k].2.n, .slice A1 b.facts[k].2.args.length d1], .bool false] W (RetCon (nnfC b.facts[k].2 false) W) := by
    intro wr hk k h
    obtain ⟨bb, o, e, hob, hc⟩ := (hb.facts.keep hk (fun _ _ h => h)) (by intro e; rw [e] at h; simp at h)
    obtain ⟨A1, d1, e0, e1, e2, e3, h1⟩ := hc k h
    have hf := hff _ (List.getElem_mem h)
    exact ⟨bb, o, A1, d1, e, World.block_lt_of_cell? wr _ e0, e0, e1, e2, e3, fun W hW => (callsIn_wide (n := 3 - 1)).2 (nnf_calls (b.facts[k].2.size + 1) b.facts[k].2 false A1 d1 ok W (by omega) (shape_of_fit hf) (h1.keep hW (fun _ _ h => h)) (hd.keep (hk.then_ hW) (fun h => h)))⟩
  have HF := Lib.hid hF
  clear hF
  have hM : ∀ wr, Keeps (fun _ => False) w wr → ∀ k (h : k < more.length), ∃ bb o A1 d1, A = some ⟨bb, o, none⟩ ∧ bb < wr.heap.size ∧ wr.cell? ⟨bb, o + k * 3, none⟩ = some (.int .i64 more[k].op) ∧ wr.cell? ⟨bb, o + k * 3 + 1, none⟩ = some (.int .i64 more[k].n) ∧ wr.cell? ⟨bb, o + k * 3 + 2, none⟩ = some (.slice A1 more[k].args.length d1) ∧
      ∀ W, Keeps (fun _ => False) wr W → CallsIn Fence.wide (3 - 1) Tryz.prog 127 #[.agg #[.int .i64 more[k].op, .int .i64 more[k].n, .slice A1 more[k].args.length d1], .bool false] W (RetCon (nnfC more[k] false) W) := by
    intro wr hk k h
    obtain ⟨bb, o, A1, d1, e, hob, hlt, e0, e1, e2, hc⟩ := (hm.keep hk (fun _ _ h => h)).get k h
    exact ⟨bb, o, A1, d1, e, hlt, e0, e1, e2, fun W hW => (callsIn_wide (n := 3 - 1)).2 (nnf_calls (more[k].size + 1) more[k] false A1 d1 ok W (by omega) (shape_of_fit (hfm _ (List.getElem_mem h))) (hc.keep hW (fun _ _ h => h)) (hd.keep (hk.then_ hW) (fun h => h)))⟩
  have HMO := Lib.hid hM
  clear hM
  have HKB := Lib.hid hb
  have HDT := Lib.hid hd
  clear hb hd hm
  refine (callsIn_wide (n := 3)).1 ?_
  refine callsIn_of_wp_marks Tryz.func181 rfl trivial ?_ rfl
  simp only [Tryz.ntmps181, List.size_toArray, List.length_cons, List.length_nil, Nat.reduceAdd, Nat.reduceSub, Array.replicate_succ, Array.replicate_zero, List.push_toArray, List.append_toArray, List.nil_append, List.cons_append]
  have hmm := @run_makeMap Tryz.prog
  have hum1 := Tryz.underlying194
  have hum2 := Tryz.underlying116
  gi_wp2
  generalize hW0 : World.alloc _ _ = W0
  have hK0 : Keeps (fun _ => False) w W0 := by rw [← hW0]; repeat (first | exact Keeps.refl _ _ | refine Keeps.drewN ?_ _ | refine Keeps.drew ?_ | refine Keeps.alloc ?_ _ | refine Keeps.set ?_ (Or.inl (by rfl)) _)
  have hB0 : W0.heap[w.heap.size]? = some (.cells #[.slice a0 b.cs.length c0, .slice a1 b.rs.length c1, .slice a2 b.is.length c2, .slice a3 b.incls.length c3, .slice a4 b.roles.length c4, .slice a5 b.facts.length c5, .slice a6 b.links.length c6] 30 (0, 0)) := by rw [← hW0]; exact blkAlloc (blkAlloc (blkAlloc (blkNew rfl) _) _) _
  have hm0 : W0.heap[w.heap.size + 1]? = some (.map #[] 0) := by rw [← hW0]; exact blkAlloc (blkAlloc (blkNew (by simp)) _) _
  have hg0 : W0.heap[w.heap.size + 1 + 1]? = some (.cells #[.slice a0 b.cs.length c0, .slice a1 b.rs.length c1, .slice a2 b.is.length c2, .slice a3 b.incls.length c3, .slice a4 b.roles.length c4, .slice a5 b.facts.length c5, .slice a6 b.links.length c6, .slice none 0 0, .map (some (w.heap.size + 1))] 196 (0, 0)) := by rw [← hW0]; exact blkAlloc (blkNew (by simp)) _
  have hS0 : W0.heap[w.heap.size + 1 + 1 + 1]? = some (.cells #[.pointer (some ⟨w.heap.size + 1 + 1, 0, none⟩)] 191 (0, 0)) := by rw [← hW0]; exact blkNew (by simp)
  have hsz0 : W0.heap.size = w.heap.size + 4 := by rw [← hW0]; simp
  clear hW0
  have HB0 := Lib.hid hB0
  have HM0 := Lib.hid hm0
  have HG0 := Lib.hid hg0
  have HS0 := Lib.hid hS0
  have HSZ := Lib.hid hsz0
  clear hB0 hm0 hg0 hS0 hsz0
  gi_loopw [7, 32] (fun v i wr => ∃ k : Nat, k ≤ b.incls.length ∧ i = .int .i64 k ∧ Hid (OwnCons wr W0.heap.size v ((b.incls.take k).map eitherC)) ∧ Keeps (fun _ => False) W0 wr) (fun _ i _ => b.incls.length - (intOf i).toNat)
  case atStart => exact ⟨0, Nat.zero_le _, rfl, OwnCons.nil _ _, Keeps.refl _ _⟩
  case round =>
    obtain ⟨k, hk, rfl, HO, HK⟩ := hrel
    have hszr := HK.size
    have hbx := HK.blk HB0.out (fun h => h)
    obtain ⟨x0, x1, x2, x3, x4, x5, x6⟩ := cells7 hbx
    clear hbx
    by_cases hlt : k < b.incls.length
    · obtain ⟨bb, o, A1, d1, A2, d2, rfl, hbl, e0, e1, e2, e3, e4, e5, hcall⟩ := HI.out wr (hK0.then_ HK) k hlt
      have HMAP : Hid ((b.incls.take (k + 1)).map eitherC = ((b.incls.take k).map eitherC) ++ [eitherC b.incls[k]]) := by unfold Hid; rw [map_take_succ _ _ _ hlt]
      obtain ⟨lq, hlq⟩ : ∃ lq, lq = ((b.incls.take k).map eitherC) := ⟨_, rfl⟩
      have HLEN : Hid (lq.length ≤ 5000) := by unfold Hid; rw [hlq]; simp; omega
      rw [← hlq] at HO HMAP
      have HLQ := Lib.hid hlq
      clear hlq
      generalize eitherC b.incls[k] = r at *
      generalize b.incls[k] = pr at *
      have HCALL := Lib.hid hcall
      obtain ⟨cells, ho⟩ := HO.out.row
      have HOW := Lib.hid ho
      clear hcall ho
      gi_wp2_with (first
        | ((try refine ⟨trivial, ?_⟩); gi_at_call 220; refine (HCALL.out _ (by repeat (first | exact Keeps.refl _ _ | refine Keeps.drewN ?_ _ | refine Keeps.drew ?_ | refine Keeps.alloc ?_ _ | refine Keeps.set ?_ (Or.inl (by rfl)) _))).mono ?_; clear HCALL; rintro e w5 ⟨A5, cap5, rfl, hc5, hk5⟩; have hs5 := hk5.size; have HC5 := Lib.hid hc5; clear hc5)
        | (gi_at_builtin; refine wpIn_app1 rfl _ _ 91 91 rfl W0.heap.size 94 _ 3 40 Tryz.underlying91 infoCon rfl (by decide) (by decide) u7 lq.length cells (ownsKeep (S := fun _ => False) HOW.out (by repeat (first | exact ((Keeps.refl _ _).alloc _).then_ (hk5.alloc _))) (fun _ _ h => h)) rfl _ 1 [.int .i64 r.op, .int .i64 r.n, .slice A5 r.args.length cap5] (Src.ofBlock Tryz.underlying91 (cs := #[.int .i64 r.op, .int .i64 r.n, .slice A5 r.args.length cap5]) (blkNew rfl) rfl (by simp [Value.oneCell'])) rfl (by decide) (by have := HLEN.out; omega) (by simp at hs5 ⊢; omega) ?_; intro g5 cap6 w6 ho6 hk6 hat hcap6 hlt6))
      have hka := ((Keeps.refl (fun _ => False) wr).alloc _).then_ (hk5.alloc (.cells #[.int .i64 r.op, .int .i64 r.n, .slice A5 r.args.length cap5] 94))
      have hoc := cons_step (W0 := W0) HO.out (by omega) hka ((HC5.out.keep ((Keeps.refl (fun _ => False) _).alloc _) (fun _ _ h => h)).mono (fun k hk => by simp at hk; omega)) (ownsKeep HOW.out hka (fun _ _ h => h)) ho6 hk6 hat HK (Nat.le_refl _)
      have HOC := Lib.hid hoc
      clear hoc hka ho6 hk6 hat
      go_roundw
      case rel => exact ⟨k + 1, by omega, by go_num, by unfold Hid; rw [HMAP.out]; exact HOC.out.1, HOC.out.2⟩
      case measure => simp [intOf]; omega
    · obtain rfl : b.incls.length = k := by omega
      clear hlt hk
      gi_wp2
      gi_loopw [7, 45] (fun v i wr => ∃ k : Nat, k ≤ b.facts.length ∧ i = .int .i64 k ∧ Hid (OwnCons wr W0.heap.size v (b.incls.map eitherC ++ (b.facts.take k).map (fun x => nnfC x.2 false))) ∧ Keeps (fun _ => False) W0 wr) (fun _ i _ => b.facts.length - (intOf i).toNat)
      case atStart => exact ⟨0, Nat.zero_le _, rfl, (by have h := HO.out; rw [List.take_length] at h; unfold Hid; simpa using h), HK⟩
      case round =>
        obtain ⟨k, hk, rfl, HO, HK⟩ := hrel
        have hszr := HK.size
        have hbx := HK.blk HB0.out (fun h => h)
        obtain ⟨x0, x1, x2, x3, x4, x5, x6⟩ := cells7 hbx
        clear hbx
        by_cases hlt : k < b.facts.length
        · obtain ⟨bb, o, A1, d1, rfl, hbl, e0, e1, e2, e3, hcall⟩ := HF.out wr (hK0.then_ HK) k hlt
          have HMAP : Hid (b.incls.map eitherC ++ (b.facts.take (k + 1)).map (fun x => nnfC x.2 false) = (b.incls.map eitherC ++ (b.facts.take k).map (fun x => nnfC x.2 false)) ++ [nnfC b.facts[k].2 false]) := by unfold Hid; rw [map_take_succ _ _ _ hlt]; simp only [List.append_assoc]
          obtain ⟨lq, hlq⟩ : ∃ lq, lq = (b.incls.map eitherC ++ (b.facts.take k).map (fun x => nnfC x.2 false)) := ⟨_, rfl⟩
          have HLEN : Hid (lq.length ≤ 5000) := by unfold Hid; rw [hlq]; simp; omega
          rw [← hlq] at HO HMAP
          have HLQ := Lib.hid hlq
          clear hlq
          generalize nnfC b.facts[k].2 false = r at *
          generalize b.facts[k] = pr at *
          have HCALL := Lib.hid hcall
          obtain ⟨cells, ho⟩ := HO.out.row
          have HOW := Lib.hid ho
          clear hcall ho
          gi_wp2_with (first
            | ((try refine ⟨trivial, ?_⟩); gi_at_call 127; refine (HCALL.out _ (by repeat (first | exact Keeps.refl _ _ | refine Keeps.drewN ?_ _ | refine Keeps.drew ?_ | refine Keeps.alloc ?_ _ | refine Keeps.set ?_ (Or.inl (by rfl)) _))).mono ?_; clear HCALL; rintro e w5 ⟨A5, cap5, rfl, hc5, hk5⟩; have hs5 := hk5.size; have HC5 := Lib.hid hc5; clear hc5)
            | (gi_at_builtin; refine wpIn_app1 rfl _ _ 91 91 rfl W0.heap.size 94 _ 3 40 Tryz.underlying91 infoCon rfl (by decide) (by decide) u7 lq.length cells (ownsKeep (S := fun _ => False) HOW.out (by repeat (first | exact ((Keeps.refl _ _).alloc _).then_ (hk5.alloc _))) (fun _ _ h => h)) rfl _ 1 [.int .i64 r.op, .int .i64 r.n, .slice A5 r.args.length cap5] (Src.ofBlock Tryz.underlying91 (cs := #[.int .i64 r.op, .int .i64 r.n, .slice A5 r.args.length cap5]) (blkNew rfl) rfl (by simp [Value.oneCell'])) rfl (by decide) (by have := HLEN.out; omega) (by simp at hs5 ⊢; omega) ?_; intro g5 cap6 w6 ho6 hk6 hat hcap6 hlt6))
          have hka := ((Keeps.refl (fun _ => False) wr).alloc _).then_ (hk5.alloc (.cells #[.int .i64 r.op, .int .i64 r.n, .slice A5 r.args.length cap5] 94))
          have hoc := cons_step (W0 := W0) HO.out (by omega) hka ((HC5.out.keep ((Keeps.refl (fun _ => False) _).alloc _) (fun _ _ h => h)).mono (fun k hk => by simp at hk; omega)) (ownsKeep HOW.out hka (fun _ _ h => h)) ho6 hk6 hat HK (Nat.le_refl _)
          have HOC := Lib.hid hoc
          clear hoc hka ho6 hk6 hat
          go_roundw
          case rel => exact ⟨k + 1, by omega, by go_num, by unfold Hid; rw [HMAP.out]; exact HOC.out.1, HOC.out.2⟩
          case measure => simp [intOf]; omega
        · obtain rfl : b.facts.length = k := by omega
          clear hlt hk
          gi_wp2
          gi_loopw [7, 58] (fun v i wr => ∃ k : Nat, k ≤ more.length ∧ i = .int .i64 k ∧ Hid (OwnCons wr W0.heap.size v (b.incls.map eitherC ++ b.facts.map (fun x => nnfC x.2 false) ++ (more.take k).map (nnfC · false))) ∧ Keeps (fun _ => False) W0 wr) (fun _ i _ => more.length - (intOf i).toNat)
          case atStart => exact ⟨0, Nat.zero_le _, rfl, (by have h := HO.out; rw [List.take_length] at h; unfold Hid; simpa using h), HK⟩
          case round =>
            obtain ⟨k, hk, rfl, HO, HK⟩ := hrel
            have hszr := HK.size
            have hbx := HK.blk HB0.out (fun h => h)
            obtain ⟨x0, x1, x2, x3, x4, x5, x6⟩ := cells7 hbx
            clear hbx
            by_cases hlt : k < more.length
            · obtain ⟨bb, o, A1, d1, rfl, hbl, e0, e1, e2, hcall⟩ := HMO.out wr (hK0.then_ HK) k hlt
              have HMAP : Hid (b.incls.map eitherC ++ b.facts.map (fun x => nnfC x.2 false) ++ (more.take (k + 1)).map (nnfC · false) = (b.incls.map eitherC ++ b.facts.map (fun x => nnfC x.2 false) ++ (more.take k).map (nnfC · false)) ++ [nnfC more[k] false]) := by unfold Hid; rw [map_take_succ _ _ _ hlt]; simp only [List.append_assoc]
              obtain ⟨lq, hlq⟩ : ∃ lq, lq = (b.incls.map eitherC ++ b.facts.map (fun x => nnfC x.2 false) ++ (more.take k).map (nnfC · false)) := ⟨_, rfl⟩
              have HLEN : Hid (lq.length ≤ 5000) := by unfold Hid; rw [hlq]; simp; omega
              rw [← hlq] at HO HMAP
              have HLQ := Lib.hid hlq
              clear hlq
              generalize nnfC more[k] false = r at *
              generalize more[k] = pr at *
              have HCALL := Lib.hid hcall
              obtain ⟨cells, ho⟩ := HO.out.row
              have HOW := Lib.hid ho
              clear hcall ho
              gi_wp2_with (first
                | ((try refine ⟨trivial, ?_⟩); gi_at_call 127; refine (HCALL.out _ (by repeat (first | exact Keeps.refl _ _ | refine Keeps.drewN ?_ _ | refine Keeps.drew ?_ | refine Keeps.alloc ?_ _ | refine Keeps.set ?_ (Or.inl (by rfl)) _))).mono ?_; clear HCALL; rintro e w5 ⟨A5, cap5, rfl, hc5, hk5⟩; have hs5 := hk5.size; have HC5 := Lib.hid hc5; clear hc5)
                | (gi_at_builtin; refine wpIn_app1 rfl _ _ 91 91 rfl W0.heap.size 94 _ 3 40 Tryz.underlying91 infoCon rfl (by decide) (by decide) u7 lq.length cells (ownsKeep (S := fun _ => False) HOW.out (by repeat (first | exact ((Keeps.refl _ _).alloc _).then_ (hk5.alloc _))) (fun _ _ h => h)) rfl _ 1 [.int .i64 r.op, .int .i64 r.n, .slice A5 r.args.length cap5] (Src.ofBlock Tryz.underlying91 (cs := #[.int .i64 r.op, .int .i64 r.n, .slice A5 r.args.length cap5]) (blkNew rfl) rfl (by simp [Value.oneCell'])) rfl (by decide) (by have := HLEN.out; omega) (by simp at hs5 ⊢; omega) ?_; intro g5 cap6 w6 ho6 hk6 hat hcap6 hlt6))
              have hka := ((Keeps.refl (fun _ => False) wr).alloc _).then_ (hk5.alloc (.cells #[.int .i64 r.op, .int .i64 r.n, .slice A5 r.args.length cap5] 94))
              have hoc := cons_step (W0 := W0) HO.out (by omega) hka ((HC5.out.keep ((Keeps.refl (fun _ => False) _).alloc _) (fun _ _ h => h)).mono (fun k hk => by simp at hk; omega)) (ownsKeep HOW.out hka (fun _ _ h => h)) ho6 hk6 hat HK (Nat.le_refl _)
              have HOC := Lib.hid hoc
              clear hoc hka ho6 hk6 hat
              go_roundw
              case rel => exact ⟨k + 1, by omega, by go_num, by unfold Hid; rw [HMAP.out]; exact HOC.out.1, HOC.out.2⟩
              case measure => simp [intOf]; omega
            · obtain rfl : more.length = k := by omega
              clear hlt hk
              have HALL0 : Hid (OwnCons wr W0.heap.size u7 all) := by have h := HO.out; rw [List.take_length] at h; unfold Hid; rw [HALLC.out]; exact h
              obtain ⟨AA, capA, rfl, hcapA, hca⟩ := HALL0.out.consAt
              have HCA := Lib.hid hca.lim
              have hz3 : W0.heap.size ≤ wr.heap.size := hszr
              have hal : all.length ≤ 100000 := by have := len_sizes all; omega
              clear HO HALL0 hca x0 x1 x2 x3 x4 x5 x6
              have HK3 := Lib.hid HK
              clear HK hszr
              gi_wp2
              generalize hW4 : World.alloc _ _ = W4
              have hK4 : Keeps (fun _ => False) wr W4 := by rw [← hW4]; repeat (first | exact Keeps.refl _ _ | refine Keeps.drewN ?_ _ | refine Keeps.drew ?_ | refine Keeps.alloc ?_ _ | refine Keeps.set ?_ (Or.inl (by rfl)) _)
              have hC4 : W4.heap[wr.heap.size]? = some (.cells #[.func (.func 221) #[] #[.pointer (some ⟨w.heap.size, 0, none⟩), .pointer (some ⟨w.heap.size + 1 + 1 + 1, 0, none⟩)]] 288 (0, 0)) := by rw [← hW4]; exact blkAlloc (blkNew rfl) _
              have hN4 : MapL W4 (wr.heap.size + 1) (Value.int .i64) Value.bool ([] : List (Int × Bool)) := by
                rw [← hW4]
                have h := MapL.made (κ := Int) (ek := Value.int .i64) (ev := Value.bool) (wr.alloc (.cells #[.func (.func 221) #[] #[.pointer (some ⟨w.heap.size, 0, none⟩), .pointer (some ⟨w.heap.size + 1 + 1 + 1, 0, none⟩)]] 288))
                rw [World.size_alloc] at h
                exact h
              have hsz4 : W4.heap.size = wr.heap.size + 2 := by rw [← hW4]; simp
              clear hW4
              obtain ⟨w3, hw3⟩ : ∃ w3, w3 = wr := ⟨_, rfl⟩
              rw [← hw3] at hC4 hN4 hsz4 hK4 HK3 HCA hz3
              rw [show wr.heap.size = w3.heap.size by rw [hw3]]
              clear hw3
              have HC4 := Lib.hid hC4
              have HN4 := Lib.hid hN4
              have HSZ4 := Lib.hid hsz4
              clear hC4 hN4 hsz4
              gi_loopw [72] (fun i wr => ∃ k : Nat, k ≤ all.length ∧ i = .int .i64 k ∧ Hid (MapL wr (w3.heap.size + 1) (Value.int .i64) Value.bool (namesC (all.take k))) ∧ Keeps (fun x => x = w3.heap.size + 1) W4 wr) (fun i _ => all.length - (intOf i).toNat)
              case atStart => exact ⟨0, Nat.zero_le _, rfl, HN4, Keeps.refl _ _⟩
              case round =>
                obtain ⟨k, hk, rfl, HN, HK⟩ := hrel
                have hszr := HK.size
                by_cases hlt : k < all.length
                · have hkw3 : Keeps (fun _ => False) w3 wr := hK4.trans HK (fun i hi => .inr (by omega))
                  obtain ⟨bb, o, A', cap', rfl, hob, hbl, e0, e1, e2, hc⟩ := (HCA.out.keep hkw3 (fun _ _ h => h)).get k hlt
                  have HF1 := Lib.hid (HFALL.out _ (List.getElem_mem hlt))
                  have HNM : Hid (namesC (all.take (k + 1)) = markN (namesC (all.take k)) (preC all[k])) := foldl_take _ _ _ _ hlt
                  generalize all[k] = d at *
                  have HC := Lib.hid hc
                  have hsz4 := HSZ4.out
                  clear hc
                  gi_wp2_with ((try refine ⟨trivial, ?_⟩); gi_at_call 223; refine ((callsIn_wide (n := 3 - 1)).2 (mark_calls b.cs.length b.rs.length d A' cap' (fun x => W0.heap.size ≤ x ∧ x < w3.heap.size) (w3.heap.size + 1) (wr.heap.size + 1) (namesC (all.take k)) [] _ (HC.out.keep (S := fun _ => False) (by repeat (first | exact Keeps.refl _ _ | refine Keeps.drewN ?_ _ | refine Keeps.drew ?_ | refine Keeps.alloc ?_ _ | refine Keeps.set ?_ (Or.inl (by rfl)) _)) (fun _ _ h => h)) HF1.out (HN.out.keep (S := fun _ => False) (by repeat (first | exact Keeps.refl _ _ | refine Keeps.drewN ?_ _ | refine Keeps.drew ?_ | refine Keeps.alloc ?_ _ | refine Keeps.set ?_ (Or.inl (by rfl)) _)) (fun h => h)) (by have h := MapL.made (κ := Int) (ek := Value.int .i64) (ev := Value.bool) (wr.alloc (.cells #[.int .i64 d.op, .int .i64 d.n, .slice A' d.args.length cap'] 94)); rw [World.size_alloc] at h; exact h) (by omega) (fun x hx => ⟨by omega, by omega⟩))).mono ?_; rintro e w5 ⟨⟨ve, rfl⟩, hm5, _, hk5⟩)
                  go_roundw
                  case rel => exact ⟨k + 1, by omega, by go_num, by unfold Hid; rw [HNM.out]; exact hm5, (((HK.alloc _).alloc _).trans hk5 (fun i hi => by rcases hi with h | h; exact .inl h; exact .inr (by omega)))⟩
                  case measure => simp [intOf]; omega
                · obtain rfl : all.length = k := by omega
                  clear hlt hk
                  have HNF : Hid (MapL wr (w3.heap.size + 1) (Value.int .i64) Value.bool (namesC all)) := by have h := HN.out; rw [List.take_length] at h; exact h
                  have hnl : (namesC all).length ≤ 100000 := by have := namesF_len all []; simp only [List.length_nil] at this; unfold namesC; omega
                  have hsz4 := HSZ4.out
                  have hkw3 : Keeps (fun _ => False) w3 wr := hK4.trans HK (fun i hi => .inr (by omega))
                  have hkC := HK.blk HC4.out (by omega)
                  have hkm5 : ∀ w5, Keeps (fun _ => False) wr w5 → MapL w5 (w.heap.size + 1) Value.string (Value.int .i64) ([] : List (ByteArray × Int)) := fun w5 hk5 => ⟨#[], 0, hk5.blk (hkw3.blk (HK3.out.blk HM0.out (fun h => h)) (fun h => h)) (fun h => h), by simp, by simp, by simp, by simp⟩
                  clear HN HK
                  gi_wp2_with ((try refine ⟨trivial, ?_⟩); gi_at_call 224; refine ((callsIn_wide (n := 3 - 1)).2 (sorted_calls (w3.heap.size + 1) (namesC all) _ HNF.out (by omega))).mono ?_; rintro e w5 ⟨vs, rfl, hs5, hk5⟩; generalize hzs : sortZ ((namesC all).map (·.1)) = zs at hs5; obtain ⟨hnn, As, capS, rfl, hcapS, hrowS⟩ := ownedRow1 hs5)
                  replace hzs := hzs.symm
                  have hzl : zs.length ≤ 100000 := by rw [hzs, sortZ_len, List.length_map]; exact hnl
                  have hzn : ∀ n ∈ zs, 0 ≤ n ∧ n < b.cs.length := fun n hn => by
                    rw [hzs] at hn
                    rcases namesF_key all [] HFALL.out (sortZ_mem hn) with h | h
                    · simp at h
                    · exact h
                  have HZN := Lib.hid hzn
                  have HNAME : Hid (nameM b.cs b.rs all = zs.foldl (fun ms n => putM b.cs b.rs ms ⟨0, n, []⟩) []) := by unfold Hid; rw [hzs]; rfl
                  clear hzs hzn hs5
                  have HROWS := Lib.hid hrowS
                  have hkW5 : Keeps (fun _ => False) W0 w5 := (HK3.out.then_ hkw3).then_ hk5
                  have hz5 := hk5.size
                  have hzw := hkw3.size
                  have HC5 := Lib.hid (hk5.blk hkC (fun h => h))
                  clear hrowS
                  have hM5 : MarkR w5 w5.heap.size w.heap.size (w.heap.size + 1 + 1 + 1) (w.heap.size + 1 + 1) (w.heap.size + 1) b ⟨a0, a1, a2, a3, a4, a5, a6, c0, c1, c2, c3, c4, c5, c6⟩ [] (.slice none 0 0) := ⟨hkW5.blk HB0.out (fun h => h), hkW5.blk HS0.out (fun h => h), ⟨hkW5.blk HG0.out (fun h => h), hkm5 w5 hk5⟩, OwnCons.nil _ _⟩
                  have HM5 := Lib.hid hM5
                  clear hM5
                  have HK5 := Lib.hid hk5
                  have HK35 := Lib.hid (hkw3.then_ hk5)
                  have HKW5 := Lib.hid hkW5
                  clear hk5 hkW5 hkm5 hkC
                  gi_loopw [84] (fun i wr => ∃ (k : Nat) (mv : Value), k ≤ zs.length ∧ i = .int .i64 k ∧ Hid (MarkR wr w5.heap.size w.heap.size (w.heap.size + 1 + 1 + 1) (w.heap.size + 1 + 1) (w.heap.size + 1) b ⟨a0, a1, a2, a3, a4, a5, a6, c0, c1, c2, c3, c4, c5, c6⟩ ((zs.take k).foldl (fun ms n => putM b.cs b.rs ms ⟨0, n, []⟩) []) mv) ∧ Keeps (fun x => x = w.heap.size + 1 + 1 ∨ x = w.heap.size + 1) w5 wr) (fun i _ => zs.length - (intOf i).toNat)
                  case atStart => exact ⟨0, _, Nat.zero_le _, rfl, HM5, Keeps.refl _ _⟩
                  case round =>
                    obtain ⟨k, mv, hk, rfl, HM, HK⟩ := hrel
                    have hszr2 := HK.size
                    have hz0 := HSZ.out
                    have hcw := cells1 (HK.blk HC5.out (by omega))
                    by_cases hlt : k < zs.length
                    · obtain ⟨bs, os, rfl, hbs, hcs5⟩ := HROWS.out (by intro h; subst h; simp at hlt)
                      have hcell := HK.cell (hcs5 k hlt) (by omega)
                      have hnk := HZN.out _ (List.getElem_mem hlt)
                      have HFT : Hid ((zs.take (k + 1)).foldl (fun ms n => putM b.cs b.rs ms ⟨0, n, []⟩) [] = putM b.cs b.rs ((zs.take k).foldl (fun ms n => putM b.cs b.rs ms ⟨0, n, []⟩) []) ⟨0, zs[k], []⟩) := foldl_take _ _ _ _ hlt
                      have hml := nameF_len b.cs b.rs (zs.take k) []
                      have hbl := World.block_lt_of_cell? _ _ hcell
                      simp only at hbl
                      generalize zs[k] = nn at *
                      generalize (zs.take k).foldl (fun ms n => putM b.cs b.rs ms ⟨0, n, []⟩) [] = ms at *
                      have hkw : Keeps (fun _ => False) w wr := (hK0.then_ HKW5.out).trans HK (fun i hi => .inr (by omega))
                      have hml2 : ms.length ≤ 1000000 := by simp at hml; omega
                      have hpc := put_calls b ⟨a0, a1, a2, a3, a4, a5, a6, c0, c1, c2, c3, c4, c5, c6⟩ mv w.heap.size (w.heap.size + 1 + 1 + 1) (w.heap.size + 1) (w.heap.size + 1 + 1) w5.heap.size ms ⟨0, nn, []⟩ none 0 ok wr HM.out ⟨by omega, by omega, by omega, by omega⟩ ⟨by omega, by omega, by omega, by omega, by omega⟩ hszr2 (HKB.out.cs.keep hkw (fun _ _ h => h)) (HKB.out.rs.keep hkw (fun _ _ h => h)) hcs hrs (by omega) (by omega) (by simp [Con.size, Con.sizes]) (fit_atom hnk.1 hnk.2) (conR_leaf _ _ _ _) hml2
                      have HPC := Lib.hid ((callsIn_wide (n := 3 - 1)).2 hpc)
                      have hown : ∀ i, mv.ownBlock = some i → w5.heap.size ≤ i := fun i hi => by obtain ⟨_, ho, _⟩ := HM.out.row; exact (ho.lt i hi).1
                      have HOWN := Lib.hid hown
                      clear hpc hown hkw hml hcs5
                      simp only [Con.op, Con.n, Con.args, List.length_nil] at HPC
                      gi_wp2_with ((try refine ⟨trivial, ?_⟩); gi_at_call 221; refine HPC.out.mono ?_; clear HPC; rintro e w6 ⟨⟨ve, rfl⟩, mv', hm6, hk6, _⟩)
                      go_roundw
                      case rel => exact ⟨k + 1, mv', by omega, by go_num, by unfold Hid; rw [HFT.out]; exact hm6, HK.trans hk6 (fun i hi => by rcases hi with h | h | h; exact .inl (.inl h); exact .inl (.inr h); exact .inr (HOWN.out i h))⟩
                      case measure => simp [intOf]; omega
                    · obtain rfl : zs.length = k := by omega
                      clear hlt hk
                      have HM6 : Hid (MarkR wr w5.heap.size w.heap.size (w.heap.size + 1 + 1 + 1) (w.heap.size + 1 + 1) (w.heap.size + 1) b ⟨a0, a1, a2, a3, a4, a5, a6, c0, c1, c2, c3, c4, c5, c6⟩ (nameM b.cs b.rs all) mv) := by have h := HM.out; rw [List.take_length] at h; unfold Hid; rw [HNAME.out]; exact h
                      clear HM
                      gi_wp2
                      clear hz0
                      obtain ⟨w6, hw6⟩ : ∃ w6, w6 = wr := ⟨_, rfl⟩
                      have HK6 : Hid (Keeps (fun x => x = w.heap.size + 1 + 1 ∨ x = w.heap.size + 1) w5 w6) := by unfold Hid; rw [hw6]; exact HK
                      have hz6 : w5.heap.size ≤ w6.heap.size := by rw [hw6]; exact hszr2
                      have HM6b : Hid (MarkR w6 w5.heap.size w.heap.size (w.heap.size + 1 + 1 + 1) (w.heap.size + 1 + 1) (w.heap.size + 1) b ⟨a0, a1, a2, a3, a4, a5, a6, c0, c1, c2, c3, c4, c5, c6⟩ (nameM b.cs b.rs all) mv) := by unfold Hid; rw [hw6]; exact HM6.out
                      clear HK HM6 hszr2 hcw
                      subst hw6
                      obtain ⟨INV, hINV⟩ : ∃ INV : Act → World → Prop, INV = fun (a' : Act) (wr : World) => ∃ (k : Nat) (Ds : List Nat) (mv v21 v96 v97 v98 v99 v100 v119 : Value), k ≤ all.length ∧ Hid (a' = { tmps := #[.agg #[.slice a0 b.cs.length c0, .slice a1 b.rs.length c1, .slice a2 b.is.length c2, .slice a3 b.incls.length c3, .slice a4 b.roles.length c4, .slice a5 b.facts.length c5, .slice a6 b.links.length c6], .slice A more.length cap, .pointer (some ⟨w.heap.size, 0, none⟩), undef, .pointer none, .bool false, .pointer (some ⟨w.heap.size + 1 + 1 + 1, 0, none⟩), .slice AA all.length capA, undef, u9, undef, u11, undef, u13, .pointer (some ⟨w3.heap.size, 0, none⟩), .map (some (w3.heap.size + 1)), undef, u17, undef, u19, undef, v21, undef, undef, undef, .agg #[.slice a0 b.cs.length c0, .slice a1 b.rs.length c1, .slice a2 b.is.length c2, .slice a3 b.incls.length c3, .slice a4 b.roles.length c4, .slice a5 b.facts.length c5, .slice a6 b.links.length c6], .map (some (w.heap.size + 1)), .agg #[.slice a0 b.cs.length c0, .slice a1 b.rs.length c1, .slice a2 b.is.length c2, .slice a3 b.incls.length c3, .slice a4 b.roles.length c4, .slice a5 b.facts.length c5, .slice a6 b.links.length c6, .slice none 0 0, .map (some (w.heap.size + 1))], .pointer (some ⟨w.heap.size + 1 + 1, 0, none⟩), .pointer (some ⟨w.heap.size, 3, none⟩), .slice a3 b.incls.length c3, .int .i64 b.incls.length, .int .i64 b.incls.length, .bool false, u34, u35, u36, u37, u38, u39, u40, u41, .pointer (some ⟨w.heap.size, 5, none⟩), .slice a5 b.facts.length c5, .int .i64 b.facts.length, .int .i64 b.facts.length, .bool false, u47, u48, u49, u50, u51, u52, u53, u54, u55, .slice A more.length cap, .int .i64 more.length, .int .i64 more.length, .bool false, u60, u61, u62, u63, u64, u65, u66, u67, .func (.func 221) #[] #[.pointer (some ⟨w.heap.size, 0, none⟩), .pointer (some ⟨w.heap.size + 1 + 1 + 1, 0, none⟩)], .map (some (w3.heap.size + 1)), .slice AA all.length capA, .int .i64 all.length, .int .i64 all.length, .bool false, u74, u75, u76, u77, u78, u79, u80, .map (some (w3.heap.size + 1)), .slice As zs.length capS, .int .i64 zs.length, .int .i64 zs.length, .bool false, u86, u87, u88, u89, u90, u91, u92, .slice AA all.length capA, .int .i64 all.length, .int .i64 k, v96, v97, v98, v99, v100, undef, undef, undef, undef, undef, undef, undef, undef, undef, undef, undef, undef, undef, undef, undef, undef, undef, undef, v119, undef, undef, undef, undef, undef, undef, undef], defers := Ds.map fun D => { target := .collected D, args := #[] } }) ∧ Hid (MarkR wr w5.heap.size w.heap.size (w.heap.size + 1 + 1 + 1) (w.heap.size + 1 + 1) (w.heap.size + 1) b ⟨a0, a1, a2, a3, a4, a5, a6, c0, c1, c2, c3, c4, c5, c6⟩ ((all.take k).foldl (fun ms c => (preC c).foldl (quantM b.cs b.rs) ms) (nameM b.cs b.rs all)) mv) ∧ Hid (Keeps (fun x => x = w.heap.size + 1 + 1 ∨ x = w.heap.size + 1) w5 wr) ∧ Hid (Ds.Nodup ∧ ∀ D ∈ Ds, w5.heap.size ≤ D ∧ wr.heap[D]? = some (.deferred (some []))) := ⟨_, rfl⟩
                      refine wpIn_loop INV (fun a' _ => all.length - (intOf (a'.tmps.getD 95 undef)).toNat) (by rw [hINV]; exact ⟨0, [], mv, undef, undef, undef, undef, undef, undef, undef, Nat.zero_le _, rfl, HM6b, HK6, ⟨by simp, by simp⟩⟩) ?_
                      intro a' wr hinv
                      have hinv2 := hinv
                      rw [hINV] at hinv2
                      obtain ⟨k, Ds, mv, v21, v96, v97, v98, v99, v100, v119, hk, HA, HM, HK, HD⟩ := hinv2
                      have HINV := Lib.hid hINV
                      clear hINV hinv
                      have ha := HA.out
                      clear HA
                      subst ha
                      dsimp only
                      have hz0 := HSZ.out
                      have hszr := HK.out.size
                      have hkw3 : Keeps (fun x => x = w.heap.size + 1 + 1 ∨ x = w.heap.size + 1) w3 wr := (HK35.out.of0.then_ HK.out)
                      have hkw : Keeps (fun _ => False) w wr := ((hK0.then_ HK3.out).of0.then_ hkw3).new (fun i hi => by omega)
                      by_cases hlt : k < all.length
                      · obtain ⟨bb, o, A', cap', rfl, hob, hbl, e0, e1, e2, hc⟩ := (HCA.out.keep hkw3 (fun x hx h => by omega)).get k hlt
                        have HF1 := Lib.hid (HFALL.out _ (List.getElem_mem hlt))
                        have HMS : Hid (((all.take (k + 1)).foldl (fun ms c => (preC c).foldl (quantM b.cs b.rs) ms) (nameM b.cs b.rs all)) = (preC all[k]).foldl (quantM b.cs b.rs) ((all.take k).foldl (fun ms c => (preC c).foldl (quantM b.cs b.rs) ms) (nameM b.cs b.rs all))) := foldl_take _ _ _ _ hlt
                        have hsz1 : Con.sizes (all.take k) + all[k].size ≤ Con.sizes all := sizes_at all k hlt
                        have hmsl := marksF_len b.cs b.rs (all.take k) (nameM b.cs b.rs all)
                        have hnml := nameF_len b.cs b.rs zs []
                        have hnm2 : (nameM b.cs b.rs all).length ≤ 100000 := by rw [HNAME.out]; simp at hnml; omega
                        have hc3 := (HCA.out.get k hlt)
                        generalize all[k] = d at *
                        generalize ((all.take k).foldl (fun ms c => (preC c).foldl (quantM b.cs b.rs) ms) (nameM b.cs b.rs all)) = msk at *
                        have HC3 : Hid (ConR (fun x => W0.heap.size ≤ x ∧ x < w3.heap.size) w3 d [.int .i64 d.op, .int .i64 d.n, .slice A' d.args.length cap']) := by
                          obtain ⟨b3, o3, A3, cap3, e3, _, _, q0, q1, q2, hc3⟩ := hc3
                          simp only [Option.some.injEq, Addr.mk.injEq, and_true] at e3
                          obtain ⟨rfl, rfl⟩ := e3
                          have := hkw3.cell q2 (by omega)
                          rw [e2] at this
                          simp only [Option.some.injEq, Value.slice.injEq, true_and] at this
                          obtain ⟨rfl, rfl⟩ := this
                          exact hc3
                        clear hc hc3
                        gi_wp2_with ((try refine ⟨trivial, ?_⟩); gi_at_call 183; refine (all_in Fence.wide (3 - 1) trivial rfl _ _ _ _).mono ?_; rintro e w' ⟨rfl, rfl⟩)
                        generalize hW7 : World.alloc _ _ = W7
                        have hK7 : Keeps (fun _ => False) wr W7 := by rw [← hW7]; repeat (first | exact Keeps.refl _ _ | refine Keeps.drewN ?_ _ | refine Keeps.drew ?_ | refine Keeps.alloc ?_ _ | refine Keeps.set ?_ (Or.inl (by rfl)) _)
                        have hx3 : W7.heap[wr.heap.size + 1]? = some (.cells #[.int .i64 d.op, .int .i64 d.n, .slice A' d.args.length cap'] 94 (0, 0)) := by rw [← hW7]; exact blkNew (by simp)
                        have hsz7 : W7.heap.size = wr.heap.size + 2 := by rw [← hW7]; simp
                        clear hW7 e0 e1 e2
                        have hM7 := HM.out.keep hK7 (fun h => h) (fun h => h) (fun h => h) (fun h => h) (fun _ _ h => h)
                        have hkw37 : Keeps (fun x => x = w.heap.size + 1 + 1 ∨ x = w.heap.size + 1) w3 W7 := hkw3.then_ hK7.of0
                        have hst7 : Still (fun x => W0.heap.size ≤ x ∧ x < w3.heap.size) w3 W7 := (Still.refl _ w3).keeps hkw37 (fun k hk1 hk2 h => by omega)
                        have hC7 : W7.heap[w3.heap.size]? = some (.cells #[.func (.func 221) #[] #[.pointer (some ⟨w.heap.size, 0, none⟩), .pointer (some ⟨w.heap.size + 1 + 1 + 1, 0, none⟩)]] 288 (0, 0)) := hK7.blk (HK.out.blk HC5.out (by omega)) (fun h => h)
                        have hD7 : ∀ D ∈ Ds, W7.heap[D]? = some (.deferred (some [])) := fun D hD => hK7.blk (HD.out.2 D hD).2 (fun h => h)
                        have hDlt : ∀ D ∈ Ds, D < W7.heap.size := fun D hD => blkLt (hD7 D hD)
                        have hdz : d.size ≤ 100000 := by omega
                        have hFoot := markFoot (fun x => W0.heap.size ≤ x ∧ x < w3.heap.size) w3 w5.heap.size w.heap.size (w.heap.size + 1 + 1 + 1) (w.heap.size + 1 + 1) (w.heap.size + 1) W7.heap.size b ⟨a0, a1, a2, a3, a4, a5, a6, c0, c1, c2, c3, c4, c5, c6⟩ (by omega) (by omega) ⟨by omega, by omega⟩
                        refine wpIn_rangeFunc_ownH rfl (by decide) (gf := 226) (lb := #[.pointer (some ⟨wr.heap.size + 1, 0, none⟩)]) rfl trivial (enters_of Tryz.func226 (by kernel_rfl) rfl)
                          (all_stops Fence.wide rfl (3 - 1) trivial trivial rfl W7.heap.size (wr.heap.size + 1) (fun x => W0.heap.size ≤ x ∧ x < w3.heap.size) w3 W7 (fun c => fitC b.cs.length b.rs.length c = true ∧ c.size ≤ 100000) (fun c h i hi => ⟨fit_args c h.1 i hi, by have := Con.size_at i hi; have : c.size = Con.sizes c.args + 1 := (by cases c; simp [Con.size, Con.args]); omega⟩) (fun c h => fit_le c h.1) _ _ hFoot (fun W h => h.1.2) (fun W hb => ⟨hst7.keeps (Keeps.of_below (S := fun _ => False) hb) (fun _ _ _ h => h), _, mv, hM7.keep (Keeps.of_below (S := fun _ => False) hb) (fun h => h) (fun h => h) (fun h => h) (fun h => h) (fun _ _ h => h)⟩) ⟨(d, A', cap'), HC3.out, HF1.out, hdz⟩ hx3)
                          KpI.trans (fun W l o o' hl hlo ho hw hI => ⟨hFoot.pinv W l o o' hl hlo ho hw hI, KpR.ofKeeps (putKeeps W l o') (fun k o2 hk hk2 ho2 => by subst hk; rw [hlo] at hk2; cases hk2; rw [ho] at ho2; cases ho2) (fun k h => .inl (hFoot.pfp W l o o' k hl hlo ho hw hI h))⟩) (Below.refl _ _) (fun _ => rfl)
                          (fun pre W => (∃ mv', MarkR W w5.heap.size w.heap.size (w.heap.size + 1 + 1 + 1) (w.heap.size + 1 + 1) (w.heap.size + 1) b ⟨a0, a1, a2, a3, a4, a5, a6, c0, c1, c2, c3, c4, c5, c6⟩ ((pre.map Part.con).foldl (quantM b.cs b.rs) msk) mv') ∧ W.heap[w3.heap.size]? = some (.cells #[.func (.func 221) #[] #[.pointer (some ⟨w.heap.size, 0, none⟩), .pointer (some ⟨w.heap.size + 1 + 1 + 1, 0, none⟩)]] 288 (0, 0)) ∧ (∀ D ∈ Ds, W.heap[D]? = some (.deferred (some []))) ∧ W7.heap.size ≤ W.heap.size ∧ Keeps (fun x => x = w.heap.size + 1 + 1 ∨ x = w.heap.size + 1) w5 W)
                          (fun _ _ _ => False)
                          (fun s X Y row hs hg hr => by
                            obtain ⟨⟨mv', hm⟩, q1, hD, hsz, hkw6⟩ := hs
                            have hk := keepsGrown hg hr
                            exact ⟨⟨mv', hm.keepC (grownC hg (fun r e => (hr r e).2)) (hk.block _ hm.sp.map.lt (by omega))⟩, hk.blk q1 (by omega), fun D hDm => hk.blk (hD D hDm) (by have := hDlt D hDm; omega), Nat.le_trans hsz hk.size, hkw6.trans hk (fun i hi => .inr (by omega))⟩)
                          (fun _ _ _ _ _ hs _ _ => hs)
                          ⟨⟨mv, hM7⟩, hC7, hD7, Nat.le_refl _, HK.out.then_ hK7.of0⟩
                          (fun x a' W => ∃ Bx, W7.heap.size ≤ Bx ∧ W.heap[Bx]? = some (.cells #[.int .i64 x.con.op, .int .i64 x.con.n, .slice x.1.2.1 x.con.args.length x.1.2.2] 94 (0, 0)) ∧ a' = { tmps := #[.agg #[.slice a0 b.cs.length c0, .slice a1 b.rs.length c1, .slice a2 b.is.length c2, .slice a3 b.incls.length c3, .slice a4 b.roles.length c4, .slice a5 b.facts.length c5, .slice a6 b.links.length c6], .slice A more.length cap, .pointer (some ⟨w.heap.size, 0, none⟩), undef, .pointer none, .bool false, .pointer (some ⟨w.heap.size + 1 + 1 + 1, 0, none⟩), .slice (some ⟨bb, o, none⟩) all.length capA, undef, u9, undef, u11, undef, u13, .pointer (some ⟨w3.heap.size, 0, none⟩), .map (some (w3.heap.size + 1)), undef, u17, undef, u19, undef, .pointer (some ⟨wr.heap.size, 0, none⟩), .pointer (some ⟨Bx, 0, none⟩), undef, undef, .agg #[.slice a0 b.cs.length c0, .slice a1 b.rs.length c1, .slice a2 b.is.length c2, .slice a3 b.incls.length c3, .slice a4 b.roles.length c4, .slice a5 b.facts.length c5, .slice a6 b.links.length c6], .map (some (w.heap.size + 1)), .agg #[.slice a0 b.cs.length c0, .slice a1 b.rs.length c1, .slice a2 b.is.length c2, .slice a3 b.incls.length c3, .slice a4 b.roles.length c4, .slice a5 b.facts.length c5, .slice a6 b.links.length c6, .slice none 0 0, .map (some (w.heap.size + 1))], .pointer (some ⟨w.heap.size + 1 + 1, 0, none⟩), .pointer (some ⟨w.heap.size, 3, none⟩), .slice a3 b.incls.length c3, .int .i64 b.incls.length, .int .i64 b.incls.length, .bool false, u34, u35, u36, u37, u38, u39, u40, u41, .pointer (some ⟨w.heap.size, 5, none⟩), .slice a5 b.facts.length c5, .int .i64 b.facts.length, .int .i64 b.facts.length, .bool false, u47, u48, u49, u50, u51, u52, u53, u54, u55, .slice A more.length cap, .int .i64 more.length, .int .i64 more.length, .bool false, u60, u61, u62, u63, u64, u65, u66, u67, .func (.func 221) #[] #[.pointer (some ⟨w.heap.size, 0, none⟩), .pointer (some ⟨w.heap.size + 1 + 1 + 1, 0, none⟩)], .map (some (w3.heap.size + 1)), .slice (some ⟨bb, o, none⟩) all.length capA, .int .i64 all.length, .int .i64 all.length, .bool false, u74, u75, u76, u77, u78, u79, u80, .map (some (w3.heap.size + 1)), .slice As zs.length capS, .int .i64 zs.length, .int .i64 zs.length, .bool false, u86, u87, u88, u89, u90, u91, u92, .slice (some ⟨bb, o, none⟩) all.length capA, .int .i64 all.length, .int .i64 k, .bool true, .pointer (some ⟨bb, o + k * 3, none⟩), .agg #[.int .i64 d.op, .int .i64 d.n, .slice A' d.args.length cap'], .agg #[.int .i64 d.op, .int .i64 d.n, .slice A' d.args.length cap'], .func (.func 226) #[] #[.pointer (some ⟨wr.heap.size + 1, 0, none⟩)], x.val, undef, undef, undef, undef, undef, undef, undef, undef, undef, undef, undef, undef, undef, undef, undef, undef, undef, v119, undef, undef, undef, undef, undef, undef, undef], defers := [] })
                          (fun x a' _ X Y row hs hg hr => by
                            obtain ⟨Bx, g1, g2, g3⟩ := hs
                            exact ⟨Bx, g1, (hg.block Bx (blkLt g2) (fun e => by obtain ⟨_, o, ho, hn⟩ := hr Bx e.symm; rw [g2] at ho; cases ho; cases hn)).trans g2, g3⟩)
                          ?assign ?body ?done ?stop
                        case assign =>
                          rintro l pre ⟨⟨e, A9, cap9⟩, he, hfe⟩ W K ⟨⟨mv', hm⟩, q1, hD, hs, hkw6⟩ hK
                          simp only [Part.val] at hK ⊢
                          gi_wp2
                          have hkk := (Keeps.refl (fun _ => False) W).alloc (.cells #[.int .i64 e.op, .int .i64 e.n, .slice A9 e.args.length cap9] 94)
                          exact hK _ _ ((KeepsOthers.alloc _ _).from _) (fun hI => ⟨hFoot.inv W _ hI, hFoot.alloc hI _⟩) ⟨⟨mv', hm.keep hkk (fun h => h) (fun h => h) (fun h => h) (fun h => h) (fun _ _ h => h)⟩, hkk.blk q1 (fun h => h), fun D hDm => hkk.blk (hD D hDm) (fun h => h), Nat.le_trans hs hkk.size, hkw6.then_ hkk.of0⟩ ⟨W.heap.size, hs, blkNew rfl, rfl⟩
                        case body =>
                          rintro l pre x a' W hl hr ⟨⟨mv', hm⟩, q1, hD, hs, hkw6⟩ ⟨Bx, hBx, hB, rfl⟩ hlt2
                          rw [show x.val = .agg #[.int .i64 x.con.op, .int .i64 x.con.n, .slice x.1.2.1 x.con.args.length x.1.2.2] from rfl]
                          have hfold : ((pre ++ [x]).map Part.con).foldl (quantM b.cs b.rs) msk = quantM b.cs b.rs ((pre.map Part.con).foldl (quantM b.cs b.rs) msk) x.con := by simp [List.foldl_append]
                          have hlenp := quantF_len b.cs b.rs (pre.map Part.con) msk
                          rw [List.length_map] at hlenp
                          have hpl : pre.length ≤ 100000 := by have h1 := preC_size d; have h2 : (preC (Part.con (ok := fun x => W0.heap.size ≤ x ∧ x < w3.heap.size) (w0 := w3) (G := fun c => fitC b.cs.length b.rs.length c = true ∧ c.size ≤ 100000) ⟨(d, A', cap'), HC3.out, HF1.out, hdz⟩)).length = (preC d).length := rfl; omega
                          have hmskl : msk.length ≤ 200000 := by omega
                          have HI : ∀ W' mv2, MarkR W' w5.heap.size w.heap.size (w.heap.size + 1 + 1 + 1) (w.heap.size + 1 + 1) (w.heap.size + 1) b ⟨a0, a1, a2, a3, a4, a5, a6, c0, c1, c2, c3, c4, c5, c6⟩ (quantM b.cs b.rs ((pre.map Part.con).foldl (quantM b.cs b.rs) msk) x.con) mv2 → Keeps (fun k => k = w.heap.size + 1 + 1 ∨ k = w.heap.size + 1 ∨ mv'.ownBlock = some k) W W' → (∀ k, mv2.ownBlock = some k → mv'.ownBlock = some k ∨ W.heap.size ≤ k) →
                              KeepsFrom W7.heap.size W W' ∧ KpI (MarkInv (fun x => W0.heap.size ≤ x ∧ x < w3.heap.size) w3 w5.heap.size w.heap.size (w.heap.size + 1 + 1 + 1) (w.heap.size + 1 + 1) (w.heap.size + 1) b ⟨a0, a1, a2, a3, a4, a5, a6, c0, c1, c2, c3, c4, c5, c6⟩) (MarkFp (w.heap.size + 1 + 1)) W W' ∧ ((∃ mv', MarkR W' w5.heap.size w.heap.size (w.heap.size + 1 + 1 + 1) (w.heap.size + 1 + 1) (w.heap.size + 1) b ⟨a0, a1, a2, a3, a4, a5, a6, c0, c1, c2, c3, c4, c5, c6⟩ (((pre ++ [x]).map Part.con).foldl (quantM b.cs b.rs) msk) mv') ∧ W'.heap[w3.heap.size]? = some (.cells #[.func (.func 221) #[] #[.pointer (some ⟨w.heap.size, 0, none⟩), .pointer (some ⟨w.heap.size + 1 + 1 + 1, 0, none⟩)]] 288 (0, 0)) ∧ (∀ D ∈ Ds, W'.heap[D]? = some (.deferred (some []))) ∧ W7.heap.size ≤ W'.heap.size ∧ Keeps (fun x => x = w.heap.size + 1 + 1 ∨ x = w.heap.size + 1) w5 W') := fun W' mv2 hm2 hk ho => by
                            have hst := markStep (ok := fun x => W0.heap.size ≤ x ∧ x < w3.heap.size) (w3 := w3) (N := W7.heap.size) hm hm2 hk ho (fun k h1 h2 => by omega) (by omega)
                            have hown : ∀ k, mv'.ownBlock = some k → w5.heap.size ≤ k := fun k hk => (hm.own hk).1
                            refine ⟨hst.1, hst.2, ⟨mv2, by rw [hfold]; exact hm2⟩, hk.blk q1 (fun h => by rcases h with h | h | h; omega; omega; have := hown _ h; omega), fun D hDm => hk.blk (hD D hDm) (fun h => ?_), Nat.le_trans hs hk.size, hkw6.trans hk (fun i hi => ?_)⟩
                            · have h6 := (HD.out.2 D hDm).1
                              rcases h with h | h | h
                              · omega
                              · omega
                              · obtain ⟨_, _, ob, h1, h2⟩ := hm.own h
                                rw [hD D hDm] at h1; cases h1; cases h2
                            · rcases hi with h | h | h
                              · exact .inl (.inl h)
                              · exact .inl (.inr h)
                              · exact .inr (hown i h)
                          have hkw3W : Keeps (fun x => x = w.heap.size + 1 + 1 ∨ x = w.heap.size + 1) w3 W := HK35.out.of0.then_ hkw6
                          have hkwW : Keeps (fun _ => False) w W := ((hK0.then_ HK3.out).of0.then_ hkw3W).new (fun i hi => by omega)
                          have hxc : ConR (fun x => W0.heap.size ≤ x ∧ x < w3.heap.size) W x.con [.int .i64 x.con.op, .int .i64 x.con.n, .slice x.1.2.1 x.con.args.length x.1.2.2] := x.2.1.keep hkw3W (fun k hk h => by omega)
                          have hxf : fitC b.cs.length b.rs.length x.con = true := x.2.2.1
                          have hxz : x.con.size ≤ 100000 := x.2.2.2
                          have hmsl2 : ((pre.map Part.con).foldl (quantM b.cs b.rs) msk).length ≤ 1000000 := by omega
                          have hdW := HDT.out.keep hkwW (fun h => h)
                          have HKB1 := Lib.hid (HKB.out.cs.keep hkwW (fun _ _ h => h))
                          have HKB2 := Lib.hid (HKB.out.rs.keep hkwW (fun _ _ h => h))
                          clear hfold hlenp hkw3W hkwW
                          generalize x.con = e at *
                          generalize x.1.2.1 = A9 at *
                          generalize x.1.2.2 = cap9 at *
                          have HXC := Lib.hid hxc
                          have HXF := Lib.hid hxf
                          have HII := Lib.hid HI
                          have HMW := Lib.hid hm
                          have HCW := Lib.hid q1
                          have HDW := Lib.hid hdW
                          obtain ⟨y0, y1, y2⟩ := cells3 hB
                          have hBl := blkLt hB
                          have hcl3 := blkLt q1
                          have hbs5 : w5.heap.size ≤ W.heap.size := by omega
                          have hnum : w.heap.size + 4 ≤ w5.heap.size := by omega
                          clear HI hm q1 hD hkw6 hB hxc hxf hdW hlt2 hz0 hsz7
                          obtain ⟨op, n, args⟩ := e
                          simp only [show (Con.mk op n args).op = op from rfl, show (Con.mk op n args).n = n from rfl, show (Con.mk op n args).args = args from rfl] at HXC y0 y1 y2 ⊢
                          by_cases h67 : op = 6 ∨ op = 7
                          · have hqm : quantM b.cs b.rs ((pre.map Part.con).foldl (quantM b.cs b.rs) msk) ⟨op, n, args⟩ = putM b.cs b.rs ((pre.map Part.con).foldl (quantM b.cs b.rs) msk) (quantC ⟨op, n, args⟩) := by unfold quantM; rw [if_pos (by exact h67)]
                            rw [hqm] at HII
                            have HQ : Hid (∀ W', Keeps (fun _ => False) W W' → CallsIn Fence.wide (3 - 1 - 1 - 1) Tryz.prog 185 #[.agg #[.int .i64 op, .int .i64 n, .slice A9 args.length cap9]] W' (fun e w' => ∃ A5 cap5, e = .returned (.tuple #[.agg #[.int .i64 (quantC ⟨op, n, args⟩).op, .int .i64 (quantC ⟨op, n, args⟩).n, .slice A5 (quantC ⟨op, n, args⟩).args.length cap5], .bool (decide (op = 6))]) ∧ ConR (fun b => (W0.heap.size ≤ b ∧ b < w3.heap.size) ∨ W'.heap.size ≤ b) w' (quantC ⟨op, n, args⟩) [.int .i64 (quantC ⟨op, n, args⟩).op, .int .i64 (quantC ⟨op, n, args⟩).n, .slice A5 (quantC ⟨op, n, args⟩).args.length cap5] ∧ Keeps (fun _ => False) W' w')) := fun W' hk => (callsIn_wide (n := 3 - 1 - 1 - 1)).2 ((quant_calls ⟨op, n, args⟩ A9 cap9 _ W' (shape_of_fit HXF.out) h67 (HXC.out.keep hk (fun _ _ h => h)) (HDW.out.keep hk (fun h => h))).mono fun e w' ⟨A', cap', h1, h2, h3⟩ => ⟨A', cap', h1, h2, h3⟩)
                            have hsq := size_quant ⟨op, n, args⟩
                            have hfq := fit_quant HXF.out h67
                            clear hqm
                            generalize quantC ⟨op, n, args⟩ = q at *
                            generalize ((pre.map Part.con).foldl (quantM b.cs b.rs) msk) = ms at *
                            have HFQ := Lib.hid hfq
                            clear hfq
                            have hcol : (op == 6) = true ∨ ((op == 6) = false ∧ (op == 7) = true) := by rcases h67 with rfl | rfl; exact .inl rfl; exact .inr ⟨rfl, rfl⟩
                            rcases h67 with rfl | rfl
                            all_goals
                              gi_wp2_with ((try refine ⟨trivial, ?_⟩); gi_at_call 185; refine (CallsIn.inRound l (HQ.out _ (Keeps.refl _ _))).mono ?_; clear HQ; rintro e w8 ⟨A5, cap5, rfl, hcq, hk8⟩; have HCQ := Lib.hid hcq; clear hcq)
                              generalize hW9 : World.alloc _ _ = W9
                              have hK9 : Keeps (fun _ => False) w8 W9 := by rw [← hW9]; repeat (first | exact Keeps.refl _ _ | refine Keeps.drewN ?_ _ | refine Keeps.drew ?_ | refine Keeps.alloc ?_ _ | refine Keeps.set ?_ (Or.inl (by rfl)) _)
                              have hb9 : W9.heap[w8.heap.size]? = some (.cells #[.int .i64 q.op, .int .i64 q.n, .slice A5 q.args.length cap5] 94 (0, 0)) := by rw [← hW9]; exact blkNew rfl
                              clear hW9
                              have hkW9 := hk8.then_ hK9
                              obtain ⟨x0, x1, x2⟩ := cells3 hb9
                              have hcl9 := cells1 (hkW9.blk HCW.out (fun h => h))
                              have hs9 := hkW9.size
                              have HCP : Hid (∀ W', Keeps (fun _ => False) W9 W' → CallsIn Fence.wide (3 - 1 - 1 - 1) Tryz.prog 225 #[.agg #[.int .i64 q.op, .int .i64 q.n, .slice A5 q.args.length cap5]] W' (RetCon q W')) := fun W' hk => (callsIn_wide (n := 3 - 1 - 1 - 1)).2 (copied_calls (q.size + 1) q A5 cap5 _ W' (by omega) (shape_of_fit HFQ.out) (HCQ.out.keep (hK9.then_ hk) (fun _ _ h => h)))
                              have HPUT := Lib.hid (fun (Ac : Option Addr) (capc : Nat) (Wp : World) (hk : Keeps (fun _ => False) W9 Wp) (hcc : ConR (fun b => W9.heap.size ≤ b) Wp q [.int .i64 q.op, .int .i64 q.n, .slice Ac q.args.length capc]) => (callsIn_wide (n := 3 - 1 - 1 - 1)).2
                                (put_calls b ⟨a0, a1, a2, a3, a4, a5, a6, c0, c1, c2, c3, c4, c5, c6⟩ mv' w.heap.size (w.heap.size + 1 + 1 + 1) (w.heap.size + 1) (w.heap.size + 1 + 1) w5.heap.size ms q Ac capc ok Wp (HMW.out.keep (hkW9.then_ hk) (fun h => h) (fun h => h) (fun h => h) (fun h => h) (fun _ _ h => h)) ⟨by omega, by omega, by omega, by omega⟩ ⟨by omega, by omega, by omega, by omega, by omega⟩ (by have := hk.size; omega) (HKB1.out.keep (hkW9.then_ hk) (fun _ _ h => h)) (HKB2.out.keep (hkW9.then_ hk) (fun _ _ h => h)) hcs hrs (by omega) (by omega) (by omega) HFQ.out
                                  (hcc.mono (fun k h1 => ⟨by omega, fun h => by have := (HMW.out.own h).2.1; omega⟩)) hmsl2))
                              have HK9 := Lib.hid hkW9
                              have HCB9 := Lib.hid (hkW9.blk HCW.out (fun h => h))
                              clear hk8 hK9 hb9 hkW9
                              gi_region_with (first
                                | ((try refine ⟨trivial, ?_⟩); gi_at_call 225; refine (CallsIn.inRound l (HCP.out _ (by repeat (first | exact Keeps.refl _ _ | refine Keeps.drewN ?_ _ | refine Keeps.drew ?_ | refine Keeps.alloc ?_ _ | refine Keeps.set ?_ (Or.inl (by rfl)) _)))).mono ?_; clear HCP; rintro e w9 ⟨Ac, capc, rfl, hcc, hk9⟩; have hcl10 := cells1 (hk9.blk (g := w3.heap.size) (by exact HCB9.out) (fun h => h)))
                                | ((try refine ⟨trivial, ?_⟩); gi_at_call 221; refine (CallsIn.inRound l (HPUT.out Ac capc w9 (by first | exact hk9 | exact (Keeps.refl (fun _ => False) W9).drew.then_ hk9) (hcc.mono (fun _ h => h)))).mono ?_; clear HPUT; rintro e w10 ⟨⟨ve, rfl⟩, mv2, hm10, hk10, ho10⟩))
                              all_goals gi_wp2
                              all_goals
                                have hkA : Keeps (fun _ => False) W w9 := HK9.out.then_ ((Keeps.refl (fun _ => False) W9).drew.then_ hk9)
                                exact HII.out w10 mv2 hm10 (hkA.of0.then_ hk10) (fun k h => (ho10 k h).elim .inl (fun h => .inr (by have := hkA.size; omega)))
                          · have hqm : quantM b.cs b.rs ((pre.map Part.con).foldl (quantM b.cs b.rs) msk) ⟨op, n, args⟩ = ((pre.map Part.con).foldl (quantM b.cs b.rs) msk) := by unfold quantM; rw [if_neg (by exact h67)]
                            rw [hqm] at HII
                            have h6 : (op == 6) = false := by simp; omega
                            have h7 : (op == 7) = false := by simp; omega
                            gi_wp2
                            exact HII.out W mv' HMW.out (Keeps.refl _ _) (fun k h => .inl h)
                        case done =>
                          rintro D xs W hD1 hxs ⟨⟨mv', hm⟩, q1, hD, hs, hkw6⟩ hK
                          have hxs' : xs.map Part.con = preC d := hxs
                          rw [hxs'] at hm
                          rw [← HMS.out] at hm
                          have HMD := Lib.hid hm
                          have HDD := Lib.hid hD
                          have HKD := Lib.hid hkw6
                          have HDS := HD.out
                          clear hm hD hkw6 q1
                          gi_wp2
                          refine ⟨?_, by simp [intOf]; omega⟩
                          rw [HINV.out]
                          refine ⟨k + 1, D :: Ds, mv', _, _, _, _, _, _, _, by omega, by unfold Hid; congr 1, HMD.out, HKD.out, ⟨List.nodup_cons.2 ⟨fun hm => by have := hDlt D hm; omega, HDS.1⟩, fun D' hD' => ?_⟩⟩
                          rcases List.mem_cons.1 hD' with rfl | h
                          · exact ⟨by omega, hK⟩
                          · exact ⟨(HDS.2 D' h).1, HDD.out D' h⟩
                        case stop =>
                          rintro D c pre W _ _ h _
                          exact h.elim
                      · obtain rfl : all.length = k := by omega
                        clear hlt hk
                        have hM9 := HM.out
                        rw [List.take_length] at hM9
                        have HM9 : Hid (MarkR wr w5.heap.size w.heap.size (w.heap.size + 1 + 1 + 1) (w.heap.size + 1 + 1) (w.heap.size + 1) b ⟨a0, a1, a2, a3, a4, a5, a6, c0, c1, c2, c3, c4, c5, c6⟩ (marksL b.cs b.rs all) mv) := hM9
                        clear HM hM9
                        generalize marksL b.cs b.rs all = ml at *
                        obtain ⟨Am, cm, rfl, hcm⟩ := HM9.out.row.slice
                        have zs0 := cells1 HM9.out.sbox
                        have zg7 := HM9.out.cell7
                        have hml8 : decide ((ml.length : Int) ≤ 8) = decide (ml.length ≤ 8) := by congr 1; apply propext; omega
                        have HML8 := Lib.hid hml8
                        clear hml8
                        gi_wp2
                        gi_region
                        gi_wp2
                        rw [HML8.out]
                        refine leaves_marks Ds wr.drew HD.out.1 (fun D h => (HD.out.2 D h).2) (fun w' hkd => ?_)
                        replace hkd : Keeps (fun i => i ∈ Ds) wr w' := ((Keeps.refl (fun i => i ∈ Ds) wr).drew).then_ hkd
                        have hkC : KeepC (fun _ => False) wr w' := fun k ob h1 h2 _ => (hkd.block k (blkLt h1) (fun hm => by have h3 := (HD.out.2 k hm).2; rw [h1] at h3; cases h3; cases h2)).trans h1
                        have hME := HM9.out.keepC hkC (hkd.block _ HM9.out.sp.map.lt (fun hm => by have := (HD.out.2 _ hm).1; omega))
                        refine ⟨.tuple #[.pointer (some ⟨w.heap.size + 1 + 1, 0, none⟩), .bool (decide (ml.length ≤ 8))], ?_, ⟨w.heap.size + 1 + 1, w.heap.size + 1, _, rfl, by omega, hME.sp, hME.row.lower (by omega), hkw.trans hkd (fun i hi => .inr (by have := (HD.out.2 i hi).1; omega))⟩⟩
                        simp [results, Tryz.f181, go_sem]
end Go.Proofs.YtknonaboaaiabaaGreatDoor
