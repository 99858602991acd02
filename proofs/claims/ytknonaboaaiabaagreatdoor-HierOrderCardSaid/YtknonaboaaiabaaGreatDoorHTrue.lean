/- What hier.True computes. -/
import Derived.Test.YtknonaboaaiabaaGreatDoorReads
namespace Go.Proofs.YtknonaboaaiabaaGreatDoor
open Go.RowKit
set_option linter.unusedVariables false
set_option linter.unusedSimpArgs false
def truthE (b : Kb) (more : List Con) (t : Int) (c : Con) : Bool × Int :=
  if fineE (kbValidB b) b.cs.length b.rs.length (more ++ [c]) = 0 then
    (if openE b more = 0 then
      (if t < 0 ∨ 2 ^ (marksC b more).length ≤ t ∨ covC b.cs b.rs (plOf b.cs b.rs (marksC b more)) (nnfC c false) = false then (false, 1) else ((trueC b.cs b.rs (plOf b.cs b.rs (marksC b more)) t (nnfC c false)).1, 0))
     else (false, openE b more))
  else (false, fineE (kbValidB b) b.cs.length b.rs.length (more ++ [c]))
theorem sh_ok (n : Nat) (h : n ≤ 8) : wrap64 ((2 : Int) ^ n) = 2 ^ n := by
  have : n = 0 ∨ n = 1 ∨ n = 2 ∨ n = 3 ∨ n = 4 ∨ n = 5 ∨ n = 6 ∨ n = 7 ∨ n = 8 := by omega
  rcases this with rfl | rfl | rfl | rfl | rfl | rfl | rfl | rfl | rfl <;> (first | rfl | (simp [wrap64]))
theorem plOk_of (cs rs : List ByteArray) (ms : List Con) (h : ms.length ≤ 64) : PlOk (plOf cs rs ms) := fun x => by
  unfold numP findL
  cases hf : (plOf cs rs ms).find? fun p => decide (p.1 = x) with
  | none => simp
  | some p =>
    have hm := List.mem_of_find?_eq_some hf
    unfold plOf at hm
    obtain ⟨q, hq, rfl⟩ := List.mem_map.1 hm
    have := List.mem_zipIdx hq
    simp only [Option.map_some, Option.getD_some]
    omega
theorem ownsEmpty {w : World} {base e size g : Nat} (hb : base ≤ g) (hh : w.heap[g]? = some (.cells #[] e (0, 0))) : w.ownsRow base e size (.slice (some ⟨g, 0, none⟩) 0 0) 0 [] :=
  ⟨by simp, .inr ⟨g, 0, #[], rfl, hb, hh, Nat.le_refl _, by simp [maxLen], by simp, by simp⟩⟩
set_option maxRecDepth 100000 in
set_option maxHeartbeats 4000000 in
theorem truth_calls (b : Kb) (p : KbA) (more : List Con) (t : Int) (c : Con) (ok : Nat → Prop) (A A' : Option Addr) (cap cap' : Nat) (w : World) (m : Int) (hm : w.cell? ⟨2, 0, none⟩ = some (.int .i64 m)) (ht : ArgsTab w) (hd : DualsTab w) (hb : KbR ok w b p)
    (h3 : b.incls.length ≤ 1000) (h4 : b.roles.length ≤ 1000) (h5 : b.facts.length ≤ 1000) (h6 : b.links.length ≤ 1000) (hl : ConsAt ok w more A) (hcap : more.length ≤ cap) (hn : more.length ≤ 100) (hc : ConR ok w c [.int .i64 c.op, .int .i64 c.n, .slice A' c.args.length cap']) :
    Calls Tryz.prog 73 #[.agg #[.slice p.a0 b.cs.length p.c0, .slice p.a1 b.rs.length p.c1, .slice p.a2 b.is.length p.c2, .slice p.a3 b.incls.length p.c3, .slice p.a4 b.roles.length p.c4, .slice p.a5 b.facts.length p.c5, .slice p.a6 b.links.length p.c6], .slice A more.length cap, .int .i64 t, .agg #[.int .i64 c.op, .int .i64 c.n, .slice A' c.args.length cap']] w fun e w' => e = .returned (.tuple #[.bool (truthE b more t c).1, .int .i64 (truthE b more t c).2]) ∧ Keeps (fun _ => False) w w' := by
  obtain ⟨vs, hvs, hsrc⟩ := hl.src (cap := cap)
  have HVS := Lib.hid hvs
  have HSRC := Lib.hid hsrc
  have HC := Lib.hid hc
  obtain ⟨a0, a1, a2, a3, a4, a5, a6, c0, c1, c2, c3, c4, c5, c6⟩ := p
  clear hvs hsrc
  dsimp only
  have hfine : ∀ (g6 cap6 : Nat) (w6 : World), Keeps (fun _ => False) w w6 → w6.ownsRow (w.heap.size + 2) 94 3 (.slice (some ⟨g6, 0, none⟩) (more.length + 1) cap6) (more.length + 1) (vs ++ [.int .i64 c.op, .int .i64 c.n, .slice A' c.args.length cap']) →
      Calls Tryz.prog 126 #[.agg #[.slice a0 b.cs.length c0, .slice a1 b.rs.length c1, .slice a2 b.is.length c2, .slice a3 b.incls.length c3, .slice a4 b.roles.length c4, .slice a5 b.facts.length c5, .slice a6 b.links.length c6], .slice (some ⟨g6, 0, none⟩) (more.length + 1) cap6] w6 fun e w' => e = .returned (.int .i64 (fineE (kbValidB b) b.cs.length b.rs.length (more ++ [c]))) ∧ Keeps (fun _ => False) w6 w' := fun g6 cap6 w6 hk ho => by
    have h := hfine_calls b ⟨a0, a1, a2, a3, a4, a5, a6, c0, c1, c2, c3, c4, c5, c6⟩ (more ++ [c]) (fun k => ok k ∨ w.heap.size ≤ k) (some ⟨g6, 0, none⟩) cap6 w6 m (hk.cell hm (fun h => h)) (ht.keep hk (fun h => h)) ((hb.keep hk (fun _ _ h => h)).mono (fun _ h => .inl h)) (by omega) (by omega) (by omega) (by omega) (((HVS.out.snoc HC.out).keep hk (fun _ _ h => h)).mono (fun _ h => .inl h) |>.consAt ho (.inr (by have := (ho.lt g6 rfl).1; omega))) (by simp; omega)
    simpa using h
  have HFINE0 := Lib.hid hfine
  clear hfine
  have hopen := fun W (hk : Keeps (fun _ => False) w W) => open_calls b ⟨a0, a1, a2, a3, a4, a5, a6, c0, c1, c2, c3, c4, c5, c6⟩ more ok A cap W m (hk.cell hm (fun h => h)) (ht.keep hk (fun h => h)) (hd.keep hk (fun h => h)) (hb.keep hk (fun _ _ h => h)) h3 h4 h5 h6 (hl.keep hk (fun _ _ h => h)) hcap hn
  have HOPEN := Lib.hid hopen
  unfold RetOpen at HOPEN
  have HCS := Lib.hid (hb.cs)
  have HRS := Lib.hid (hb.rs)
  have HDT := Lib.hid hd
  have HFC : Hid (fineE (kbValidB b) b.cs.length b.rs.length (more ++ [c]) = 0 → fitC b.cs.length b.rs.length c = true ∧ c.size ≤ 400 ∧ b.cs.length ≤ 16 ∧ b.rs.length ≤ 6 ∧ (∀ s ∈ b.cs ++ b.rs ++ b.is, s.size ≤ 12)) := fun h => by
    have hs := sound_of h
    have := hs.extra c (by simp)
    exact ⟨this.1, this.2, hs.cs, hs.rs, hs.names⟩
  have HTE : Hid (truthE b more t c = if fineE (kbValidB b) b.cs.length b.rs.length (more ++ [c]) = 0 then (if openE b more = 0 then (if t < 0 ∨ 2 ^ (marksC b more).length ≤ t ∨ covC b.cs b.rs (plOf b.cs b.rs (marksC b more)) (nnfC c false) = false then (false, 1) else ((trueC b.cs b.rs (plOf b.cs b.rs (marksC b more)) t (nnfC c false)).1, 0)) else (false, openE b more)) else (false, fineE (kbValidB b) b.cs.length b.rs.length (more ++ [c]))) := rfl
  have HO8 := Lib.hid (@open_small b more)
  generalize truthE b more t c = te at *
  obtain ⟨te1, te2⟩ := te
  generalize fineE (kbValidB b) b.cs.length b.rs.length (more ++ [c]) = fe at *
  generalize openE b more = oe at *
  generalize marksC b more = ms at *
  clear hm ht hd hb hl hc
  go_enter Tryz.func73, Tryz.ntmps73
  go_wp2_with fail
  generalize hW0 : World.alloc _ _ = W0
  have hK0 : Keeps (fun _ => False) w W0 := by rw [← hW0]; repeat (first | exact Keeps.refl _ _ | refine Keeps.drewN ?_ _ | refine Keeps.drew ?_ | refine Keeps.alloc ?_ _ | refine Keeps.set ?_ (Or.inl (by rfl)) _)
  have hb0 : W0.heap[w.heap.size]? = some (.cells #[.slice a0 b.cs.length c0, .slice a1 b.rs.length c1, .slice a2 b.is.length c2, .slice a3 b.incls.length c3, .slice a4 b.roles.length c4, .slice a5 b.facts.length c5, .slice a6 b.links.length c6] 30 (0, 0)) := by rw [← hW0]; exact blkAlloc (blkNew rfl) _
  have hc0 : W0.heap[w.heap.size + 1]? = some (.cells #[.int .i64 c.op, .int .i64 c.n, .slice A' c.args.length cap'] 94 (0, 0)) := by rw [← hW0]; exact blkNew (by simp)
  have hz0 : W0.heap.size = w.heap.size + 2 := by rw [← hW0]; simp
  clear hW0
  rw [← hz0] at HFINE0
  have HFINE := HFINE0
  have HZ0 := Lib.hid hz0
  have HB0 := Lib.hid hb0
  have HC0 := Lib.hid hc0
  have HK0 := Lib.hid hK0
  obtain ⟨x0, x1, x2, x3, x4, x5, x6⟩ := cells7 hb0
  obtain ⟨y0, y1, y2⟩ := cells3 hc0
  have hl0 := blkLt hb0
  have hl1 := blkLt hc0
  clear hz0 hb0 hc0 hK0 HFINE0
  go_cut [10] from 16 (fun v wc => v = .int .i64 fe ∧ Keeps (fun _ => False) W0 wc)
  case first =>
    go_region_law
     (first
      | (refine step_call (by rfl) 126 #[.agg #[.slice a0 b.cs.length c0, .slice a1 b.rs.length c1, .slice a2 b.is.length c2, .slice a3 b.incls.length c3, .slice a4 b.roles.length c4, .slice a5 b.facts.length c5, .slice a6 b.links.length c6], .slice (some ⟨g6, 0, none⟩) (more.length + 1) cap6] (by first | (go_simp; done) | (go_simp; rfl)) ?_; refine (HFINE.out g6 cap6 _ (HK0.out.then_ (hkk6.then_ (by repeat (first | exact Keeps.refl _ _ | refine Keeps.drewN ?_ _ | refine Keeps.drew ?_ | refine Keeps.alloc ?_ _ | refine Keeps.set ?_ (Or.inl (by rfl)) _)))) (ownsKeep (S := fun _ => False) HO6.out (by repeat (first | exact Keeps.refl _ _ | refine Keeps.drewN ?_ _ | refine Keeps.drew ?_ | refine Keeps.alloc ?_ _ | refine Keeps.set ?_ (Or.inl (by rfl)) _)) (fun _ _ h => h))).mono ?_; rintro e w7 ⟨rfl, hk7⟩; refine ⟨_, rfl, ?_⟩; have hkk7 := (hkk6.then_ (show Keeps (fun _ => False) w6 _ from by repeat (first | exact Keeps.refl _ _ | refine Keeps.drewN ?_ _ | refine Keeps.drew ?_ | refine Keeps.alloc ?_ _ | refine Keeps.set ?_ (Or.inl (by rfl)) _))).then_ hk7)
      | (refine step_appG rfl _ _ 91 91 (by rfl) W0.heap.size 94 _ 3 40 Tryz.underlying91 infoCon rfl (by decide) (by decide) (.slice (some ⟨W0.heap.size, 0, none⟩) 0 0) 0 [] (ownsEmpty (by omega) (by first | exact blkNew (by first | rfl | simp) | exact blkAlloc (blkNew (by first | rfl | simp)) _)) (by rfl) (.slice A more.length cap) more.length vs (HSRC.out _ (HK0.out.then_ (by repeat (first | exact Keeps.refl _ _ | refine Keeps.drewN ?_ _ | refine Keeps.drew ?_ | refine Keeps.alloc ?_ _ | refine Keeps.set ?_ (Or.inl (by rfl)) _)))) (by rfl) (by omega) (by first | (simp; done) | (simp; omega)) ?_; intro v5 w5 ho5 hk5; have hkk5 := (Keeps.of0 (S := fun k => (Value.slice (some ⟨W0.heap.size, 0, none⟩) 0 0).ownBlock = some k) (show Keeps (fun _ => False) W0 _ from by repeat (first | exact Keeps.refl _ _ | refine Keeps.drewN ?_ _ | refine Keeps.drew ?_ | refine Keeps.alloc ?_ _ | refine Keeps.set ?_ (Or.inl (by rfl)) _))).then_ hk5 |>.new (fun i hi => by simp [Value.ownBlock] at hi; omega); obtain ⟨p50, p51, p52, p53, p54, p55, p56⟩ := cells7 (hkk5.blk HB0.out (fun h => h)); obtain ⟨q50, q51, q52⟩ := cells3 (hkk5.blk HC0.out (fun h => h)); have hw5a := blkLt (hkk5.blk HB0.out (fun h => h)); have hw5b := blkLt (hkk5.blk HC0.out (fun h => h)); (try (have hyb := hk5.blk (g := W0.heap.size + 1) (o := .cells #[.int .i64 c.op, .int .i64 c.n, .slice A' c.args.length cap'] 94 (0, 0)) (by first | exact blkNew (by first | rfl | simp) | exact blkAlloc (blkNew (by first | rfl | simp)) _) (fun h => by simp [Value.ownBlock] at h); have hyl := blkLt hyb)); simp only [Nat.zero_add, List.nil_append] at ho5; have HO5 := Lib.hid ho5; clear ho5)
      | (refine step_appG rfl _ _ 91 91 (by rfl) W0.heap.size 94 _ 3 40 Tryz.underlying91 infoCon rfl (by decide) (by decide) (.slice (some ⟨W0.heap.size + 1, 0, none⟩) 0 0) 0 [] (ownsEmpty (by omega) (by first | exact blkNew (by first | rfl | simp) | exact blkAlloc (blkNew (by first | rfl | simp)) _)) (by rfl) (.slice A more.length cap) more.length vs (HSRC.out _ (HK0.out.then_ (by repeat (first | exact Keeps.refl _ _ | refine Keeps.drewN ?_ _ | refine Keeps.drew ?_ | refine Keeps.alloc ?_ _ | refine Keeps.set ?_ (Or.inl (by rfl)) _)))) (by rfl) (by omega) (by first | (simp; done) | (simp; omega)) ?_; intro v5 w5 ho5 hk5; have hkk5 := (Keeps.of0 (S := fun k => (Value.slice (some ⟨W0.heap.size + 1, 0, none⟩) 0 0).ownBlock = some k) (show Keeps (fun _ => False) W0 _ from by repeat (first | exact Keeps.refl _ _ | refine Keeps.drewN ?_ _ | refine Keeps.drew ?_ | refine Keeps.alloc ?_ _ | refine Keeps.set ?_ (Or.inl (by rfl)) _))).then_ hk5 |>.new (fun i hi => by simp [Value.ownBlock] at hi; omega); obtain ⟨p50, p51, p52, p53, p54, p55, p56⟩ := cells7 (hkk5.blk HB0.out (fun h => h)); obtain ⟨q50, q51, q52⟩ := cells3 (hkk5.blk HC0.out (fun h => h)); have hw5a := blkLt (hkk5.blk HB0.out (fun h => h)); have hw5b := blkLt (hkk5.blk HC0.out (fun h => h)); (try (have hyb := hk5.blk (g := W0.heap.size) (o := .cells #[.int .i64 c.op, .int .i64 c.n, .slice A' c.args.length cap'] 94 (0, 0)) (by first | exact blkNew (by first | rfl | simp) | exact blkAlloc (blkNew (by first | rfl | simp)) _) (fun h => by simp [Value.ownBlock] at h); have hyl := blkLt hyb)); simp only [Nat.zero_add, List.nil_append] at ho5; have HO5 := Lib.hid ho5; clear ho5)
      | (refine step_app rfl _ _ 91 91 (by rfl) W0.heap.size 94 _ 3 40 Tryz.underlying91 infoCon rfl (by decide) (by decide) v5 more.length vs (ownsKeep (S := fun _ => False) HO5.out (by repeat (first | exact Keeps.refl _ _ | refine Keeps.drewN ?_ _ | refine Keeps.drew ?_ | refine Keeps.alloc ?_ _ | refine Keeps.set ?_ (Or.inl (by rfl)) _)) (fun _ _ h => h)) (by rfl) (.slice (some ⟨W0.heap.size, 0, none⟩) 1 1) 1 [.int .i64 c.op, .int .i64 c.n, .slice A' c.args.length cap'] (Src.ofBlock Tryz.underlying91 (cs := #[.int .i64 c.op, .int .i64 c.n, .slice A' c.args.length cap']) hyb (by rfl) (by simp [Value.oneCell'])) (by rfl) (by decide) (by omega) (by have := hkk5.size; simp; omega) ?_; intro g6 cap6 w6 ho6 hk6 hat6 hcap6 hlt6; have hkk6 := ((hkk5.then_ (show Keeps (fun _ => False) w5 _ from by repeat (first | exact Keeps.refl _ _ | refine Keeps.drewN ?_ _ | refine Keeps.drew ?_ | refine Keeps.alloc ?_ _ | refine Keeps.set ?_ (Or.inl (by rfl)) _))).of0.then_ hk6).new (fun i hi => (HO5.out.lt i hi).1); obtain ⟨p60, p61, p62, p63, p64, p65, p66⟩ := cells7 (hkk6.blk HB0.out (fun h => h)); obtain ⟨q60, q61, q62⟩ := cells3 (hkk6.blk HC0.out (fun h => h)); have hw6a := blkLt (hkk6.blk HB0.out (fun h => h)); have hw6b := blkLt (hkk6.blk HC0.out (fun h => h)); have HO6 := Lib.hid ho6; clear ho6)
      | (refine step_app rfl _ _ 91 91 (by rfl) W0.heap.size 94 _ 3 40 Tryz.underlying91 infoCon rfl (by decide) (by decide) v5 more.length vs (ownsKeep (S := fun _ => False) HO5.out (by repeat (first | exact Keeps.refl _ _ | refine Keeps.drewN ?_ _ | refine Keeps.drew ?_ | refine Keeps.alloc ?_ _ | refine Keeps.set ?_ (Or.inl (by rfl)) _)) (fun _ _ h => h)) (by rfl) (.slice (some ⟨W0.heap.size + 1, 0, none⟩) 1 1) 1 [.int .i64 c.op, .int .i64 c.n, .slice A' c.args.length cap'] (Src.ofBlock Tryz.underlying91 (cs := #[.int .i64 c.op, .int .i64 c.n, .slice A' c.args.length cap']) hyb (by rfl) (by simp [Value.oneCell'])) (by rfl) (by decide) (by omega) (by have := hkk5.size; simp; omega) ?_; intro g6 cap6 w6 ho6 hk6 hat6 hcap6 hlt6; have hkk6 := ((hkk5.then_ (show Keeps (fun _ => False) w5 _ from by repeat (first | exact Keeps.refl _ _ | refine Keeps.drewN ?_ _ | refine Keeps.drew ?_ | refine Keeps.alloc ?_ _ | refine Keeps.set ?_ (Or.inl (by rfl)) _))).of0.then_ hk6).new (fun i hi => (HO5.out.lt i hi).1); obtain ⟨p60, p61, p62, p63, p64, p65, p66⟩ := cells7 (hkk6.blk HB0.out (fun h => h)); obtain ⟨q60, q61, q62⟩ := cells3 (hkk6.blk HC0.out (fun h => h)); have hw6a := blkLt (hkk6.blk HB0.out (fun h => h)); have hw6b := blkLt (hkk6.blk HC0.out (fun h => h)); have HO6 := Lib.hid ho6; clear ho6)
      | (refine step_app rfl _ _ 91 91 (by rfl) W0.heap.size 94 _ 3 40 Tryz.underlying91 infoCon rfl (by decide) (by decide) v5 more.length vs (ownsKeep (S := fun _ => False) HO5.out (by repeat (first | exact Keeps.refl _ _ | refine Keeps.drewN ?_ _ | refine Keeps.drew ?_ | refine Keeps.alloc ?_ _ | refine Keeps.set ?_ (Or.inl (by rfl)) _)) (fun _ _ h => h)) (by rfl) (.slice (some ⟨w5.heap.size, 0, none⟩) 1 1) 1 [.int .i64 c.op, .int .i64 c.n, .slice A' c.args.length cap'] (Src.ofBlock Tryz.underlying91 (cs := #[.int .i64 c.op, .int .i64 c.n, .slice A' c.args.length cap']) (blkNew (by first | rfl | simp)) (by rfl) (by simp [Value.oneCell'])) (by rfl) (by decide) (by omega) (by have := hkk5.size; simp; omega) ?_; intro g6 cap6 w6 ho6 hk6 hat6 hcap6 hlt6; have hkk6 := ((hkk5.then_ (show Keeps (fun _ => False) w5 _ from by repeat (first | exact Keeps.refl _ _ | refine Keeps.drewN ?_ _ | refine Keeps.drew ?_ | refine Keeps.alloc ?_ _ | refine Keeps.set ?_ (Or.inl (by rfl)) _))).of0.then_ hk6).new (fun i hi => (HO5.out.lt i hi).1); obtain ⟨p60, p61, p62, p63, p64, p65, p66⟩ := cells7 (hkk6.blk HB0.out (fun h => h)); obtain ⟨q60, q61, q62⟩ := cells3 (hkk6.blk HC0.out (fun h => h)); have hw6a := blkLt (hkk6.blk HB0.out (fun h => h)); have hw6b := blkLt (hkk6.blk HC0.out (fun h => h)); have HO6 := Lib.hid ho6; clear ho6)
      | fail)
    all_goals
      go_wp2_with fail
      go_meet
      exact ⟨rfl, hkk7⟩
  case rest =>
    obtain ⟨rfl, hkc⟩ := hcut
    have hkw := HK0.out.then_ hkc
    have hbc := hkc.blk HB0.out (fun h => h)
    have hcc := hkc.blk HC0.out (fun h => h)
    clear x0 x1 x2 x3 x4 x5 x6 y0 y1 y2 HFINE
    obtain ⟨x0, x1, x2, x3, x4, x5, x6⟩ := cells7 hbc
    by_cases hfe : fe = 0
    · subst hfe
      have HTE2 : Hid ((te1, te2) = (if oe = 0 then (if t < 0 ∨ 2 ^ ms.length ≤ t ∨ covC b.cs b.rs (plOf b.cs b.rs ms) (nnfC c false) = false then (false, 1) else ((trueC b.cs b.rs (plOf b.cs b.rs ms) t (nnfC c false)).1, 0)) else (false, oe))) := by unfold Hid; rw [HTE.out]; simp
      clear HTE
      obtain ⟨hfc, hcz, hcl, hrl, hnm⟩ := HFC.out rfl
      have HNM := Lib.hid hnm
      have HFCC := Lib.hid hfc
      clear HFC hnm hfc
      go_wp2_with fail
      refine (HOPEN.out wc hkw).mono ?_
      clear HOPEN
      rintro e w8 ⟨hk8, hr⟩
      have hK8 := hkw.then_ hk8
      have hc8 := hk8.blk hcc (fun h => h)
      clear x0 x1 x2 x3 x4 x5 x6 hbc hcc hkc
      rcases hr with ⟨hoe, rfl⟩ | ⟨rfl, g, mm, mv, rfl, hg, hsp, hoc⟩
      · have HO : Hid ((te1, te2) = (false, oe)) := by unfold Hid; rw [HTE2.out, if_neg hoe]
        have HNE := Lib.hid hoe
        clear HTE2 HO8
        go_wp2_with fail
        have ho := HO.out
        simp only [Prod.mk.injEq] at ho
        obtain ⟨rfl, rfl⟩ := ho
        exact bodyPost_ret (v := .tuple #[.bool false, .int .i64 te2]) (by simp [results, Tryz.results73, go_sem]) rfl ⟨rfl, hK8⟩
      · have h8 := (HO8.out rfl).1
        have HTE3 : Hid ((te1, te2) = (if t < 0 ∨ 2 ^ ms.length ≤ t ∨ covC b.cs b.rs (plOf b.cs b.rs ms) (nnfC c false) = false then (false, 1) else ((trueC b.cs b.rs (plOf b.cs b.rs ms) t (nnfC c false)).1, 0))) := by unfold Hid; rw [HTE2.out]; simp
        clear HTE2 HO8
        obtain ⟨AM, cm, rfl, hcm⟩ := hoc.slice
        have HSP8 := Lib.hid hsp
        obtain ⟨y0, y1, y2⟩ := cells3 hc8
        have hl8 := blkLt hc8
        clear hsp hoc hc8
        have hnc : Calls Tryz.prog 127 #[.agg #[.int .i64 c.op, .int .i64 c.n, .slice A' c.args.length cap'], .bool false] w8 (RetCon (nnfC c false) w8) := nnf_calls (c.size + 1) c false A' cap' ok w8 (by omega) (shape_of_fit HFCC.out) (HC.out.keep hK8 (fun _ _ h => h)) (HDT.out.keep hK8 (fun h => h))
        have HNC := Lib.hid hnc
        have hfn : fitC b.cs.length b.rs.length (nnfC c false) = true := fit_nnf false HFCC.out
        have hzn := size_nnf c false
        have HFN := Lib.hid hfn
        clear hnc hfn
        generalize nnfC c false = d at *
        go_wp2_with fail
        refine HNC.out.mono ?_
        clear HNC
        rintro e w9 ⟨A9, cap9, rfl, hcd, hk9⟩
        have hK9 := hK8.then_ hk9
        have HCD := Lib.hid hcd
        have HSP9 := Lib.hid (HSP8.out.keep hk9 (fun h => h) (fun h => h))
        have g79 : w9.cell? ⟨g, 7, none⟩ = some (.slice AM ms.length cm) := by rw [blkCell HSP9.out.box]; rfl
        have hg9 := blkLt HSP9.out.box
        clear hcd HSP8 y0 y1 y2
        have hsh : wrap64 ((2 : Int) ^ ms.length) = 2 ^ ms.length := sh_ok ms.length h8
        have hka : Keeps (fun _ => False) w9 (w9.alloc (.cells #[.int .i64 d.op, .int .i64 d.n, .slice A9 d.args.length cap9] 94)) := (Keeps.refl _ _).alloc _
        have HKA := Lib.hid (hK9.then_ hka)
        by_cases ht0 : t < 0
        · have HO : Hid ((te1, te2) = (false, (1 : Int))) := by unfold Hid; rw [HTE3.out, if_pos (.inl ht0)]
          clear HTE3
          go_wp2_with fail
          have ho : te1 = false ∧ te2 = 1 := by have h := HO.out; simpa only [Prod.mk.injEq] using h
          exact bodyPost_ret (v := .tuple #[.bool false, .int .i64 1]) (by simp [results, Tryz.results73, go_sem]) rfl ⟨by rw [ho.1, ho.2], HKA.out⟩
        · by_cases ht1 : 2 ^ ms.length ≤ t
          · have HO : Hid ((te1, te2) = (false, (1 : Int))) := by unfold Hid; rw [HTE3.out, if_pos (.inr (.inl ht1))]
            clear HTE3
            go_wp2_with fail
            have ho : te1 = false ∧ te2 = 1 := by have h := HO.out; simpa only [Prod.mk.injEq] using h
            exact bodyPost_ret (v := .tuple #[.bool false, .int .i64 1]) (by simp [results, Tryz.results73, go_sem]) rfl ⟨by rw [ho.1, ho.2], HKA.out⟩
          · have hT4 : (te1, te2) = (if covC b.cs b.rs (plOf b.cs b.rs ms) d = false then (false, 1) else ((trueC b.cs b.rs (plOf b.cs b.rs ms) t d).1, 0)) := by
              rw [HTE3.out]
              by_cases hcv : covC b.cs b.rs (plOf b.cs b.rs ms) d = false
              · rw [if_pos (.inr (.inr hcv)), if_pos hcv]
              · rw [if_neg (by rintro (h | h | h); exact ht0 h; exact ht1 h; exact hcv h), if_neg hcv]
            have HT4 := Lib.hid hT4
            clear HTE3 hT4
            have hcov : Calls Tryz.prog 128 #[.pointer (some ⟨g, 0, none⟩), .agg #[.int .i64 d.op, .int .i64 d.n, .slice A9 d.args.length cap9]] (w9.alloc (.cells #[.int .i64 d.op, .int .i64 d.n, .slice A9 d.args.length cap9] 94)) fun e w' => e = .returned (.bool (covC b.cs b.rs (plOf b.cs b.rs ms) d)) ∧ Keeps (fun _ => False) (w9.alloc (.cells #[.int .i64 d.op, .int .i64 d.n, .slice A9 d.args.length cap9] 94)) w' :=
              covered_calls b ⟨a0, a1, a2, a3, a4, a5, a6, c0, c1, c2, c3, c4, c5, c6⟩ _ mm g (plOf b.cs b.rs ms) ok (fun s hs => HNM.out s (by simp [hs])) (fun s hs => HNM.out s (by simp [hs])) (by omega) (by omega) d A9 cap9 _ _ (by omega) (HSP9.out.keep hka (fun h => h) (fun h => h)) (HCS.out.keep (HKA.out) (fun _ _ h => h)) (HRS.out.keep (HKA.out) (fun _ _ h => h)) (HDT.out.keep HKA.out (fun h => h)) HFN.out (HCD.out.keep hka (fun _ _ h => h))
            have htr : ∀ W, Keeps (fun _ => False) w9 W → Calls Tryz.prog 129 #[.pointer (some ⟨g, 0, none⟩), .int .i64 t, .agg #[.int .i64 d.op, .int .i64 d.n, .slice A9 d.args.length cap9]] W (RetTrue (trueC b.cs b.rs (plOf b.cs b.rs ms) t d) W) := fun W hk =>
              true_calls b ⟨a0, a1, a2, a3, a4, a5, a6, c0, c1, c2, c3, c4, c5, c6⟩ _ mm g (plOf b.cs b.rs ms) t ok (fun s hs => HNM.out s (by simp [hs])) (fun s hs => HNM.out s (by simp [hs])) (by omega) (by omega) (plOk_of b.cs b.rs ms (by omega)) (d.size + 1) d A9 cap9 _ W (by omega) (by omega) (HSP9.out.keep hk (fun h => h) (fun h => h)) (HCS.out.keep (hK9.then_ hk) (fun _ _ h => h)) (HRS.out.keep (hK9.then_ hk) (fun _ _ h => h)) (HDT.out.keep (hK9.then_ hk) (fun h => h)) HFN.out (HCD.out.keep hk (fun _ _ h => h))
            have HCOV := Lib.hid hcov
            have HTR := Lib.hid htr
            have hb13 : (w9.alloc (.cells #[.int .i64 d.op, .int .i64 d.n, .slice A9 d.args.length cap9] 94)).heap[w9.heap.size]? = some (.cells #[.int .i64 d.op, .int .i64 d.n, .slice A9 d.args.length cap9] 94 (0, 0)) := blkNew rfl
            have HB13 := Lib.hid hb13
            have HKA0 := Lib.hid hka
            clear hcov htr hb13 hka
            unfold RetTrue at HTR
            generalize trueC b.cs b.rs (plOf b.cs b.rs ms) t d = r at *
            generalize covC b.cs b.rs (plOf b.cs b.rs ms) d = cv at *
            obtain ⟨r1, r2⟩ := r
            go_wp2_with fail
            refine HCOV.out.mono ?_
            clear HCOV
            rintro e w10 ⟨rfl, hk10⟩
            obtain ⟨z0, z1, z2⟩ := cells3 (hk10.blk HB13.out (fun h => h))
            have HK10 := Lib.hid (HKA0.out.then_ hk10)
            clear hk10
            cases cv
            · have HO : Hid ((te1, te2) = (false, (1 : Int))) := by unfold Hid; rw [HT4.out]; rfl
              clear HT4
              go_wp2_with fail
              have ho : te1 = false ∧ te2 = 1 := by have h := HO.out; simpa only [Prod.mk.injEq] using h
              exact bodyPost_ret (v := .tuple #[.bool false, .int .i64 1]) (by simp [results, Tryz.results73, go_sem]) rfl ⟨by rw [ho.1, ho.2], hK9.then_ HK10.out⟩
            · have HO : Hid ((te1, te2) = (r1, (0 : Int))) := by unfold Hid; rw [HT4.out]; rfl
              clear HT4
              go_wp2_with fail
              refine (HTR.out w10 HK10.out).mono ?_
              clear HTR
              rintro e w11 ⟨rfl, hk11⟩
              go_wp2_with fail
              have ho : te1 = r1 ∧ te2 = 0 := by have h := HO.out; simpa only [Prod.mk.injEq] using h
              exact bodyPost_ret (v := .tuple #[.bool r1, .int .i64 0]) (by simp [results, Tryz.results73, go_sem]) rfl ⟨by rw [ho.1, ho.2], (hK9.then_ HK10.out).then_ hk11⟩
    · have HO : Hid ((te1, te2) = (false, fe)) := by unfold Hid; rw [HTE.out, if_neg hfe]
      clear HTE HFC HOPEN HO8
      go_wp2_with fail
      have ho := HO.out
      simp only [Prod.mk.injEq] at ho
      obtain ⟨rfl, rfl⟩ := ho
      exact bodyPost_ret (v := .tuple #[.bool false, .int .i64 te2]) (by simp [results, Tryz.results73, go_sem]) rfl ⟨rfl, hkw⟩
end Go.Proofs.YtknonaboaaiabaaGreatDoor
