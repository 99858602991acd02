/- The reference's Marks. -/
import Derived.Test.YtoafelppnagpbaaGreatDoorUses
import Derived.Test.YtoafelppnagpbaaGreatDoorClauses
import Derived.Test.YtoafelppnagpbaaGreatDoorR2
namespace Go.Proofs.YtoafelppnagpbaaGreatDoor
open Go.RowKit
set_option linter.unusedVariables false
set_option linter.unusedSimpArgs false
def usedF (l : List Con) (acc : List Int) : List Int := l.foldl (fun l c => (usesC c (l, [])).1) acc
def atomC (n : Int) : Con := ⟨0, n, []⟩
def factC (x : Int × Con) : Con := nnfC x.2 false
def formC (c : Con) : Con := nnfC c false
def refNames (b : Kb) (more : List Con) : List Int := usedF (conceptsC b ++ more) []
def refMarks (b : Kb) (more : List Con) : List Con := collectL (more.map formC) (collectL (b.facts.map factC) (collectL (b.incls.map eitherC) ((refNames b more).map atomC)))
theorem usedF_drop {l : List Con} {k : Nat} (h : k < l.length) (acc : List Int) : usedF (l.drop k) acc = usedF (l.drop (k + 1)) (usesC l[k] (acc, [])).1 := by
  rw [List.drop_eq_getElem_cons h]; rfl
theorem usedF_len : ∀ (l : List Con) (acc : List Int), (usedF l acc).length ≤ acc.length + Con.sizes l
  | [], acc => by simp [usedF]
  | c :: r, acc => by
    have h1 := usedF_len r (usesC c (acc, [])).1
    have h2 := (usesC_len c (acc, [])).1
    simp only [usedF, List.foldl_cons, Con.sizes] at h1 h2 ⊢; omega
theorem collectL_map {α : Type} (f : α → Con) (l : List α) (k : Nat) (h : k < l.length) (acc : List Con) : collectL ((l.map f).drop k) acc = collectL ((l.map f).drop (k + 1)) (collectC (f l[k]) acc) := by
  rw [collectL_drop (by simpa using h), List.getElem_map]
theorem sizes_map {α : Type} (f : α → Con) (l : List α) (k : Nat) (h : k < l.length) : Con.sizes ((l.map f).drop k) = (f l[k]).size + Con.sizes ((l.map f).drop (k + 1)) := by
  rw [List.drop_eq_getElem_cons (by simpa using h), List.getElem_map]; simp only [Con.sizes]
theorem sizes_dropL (l : List Con) (k : Nat) (h : k < l.length) : Con.sizes (l.drop k) = l[k].size + Con.sizes (l.drop (k + 1)) := by
  rw [List.drop_eq_getElem_cons h]; simp only [Con.sizes]
/-- The own row behind a collect, seen from afar. -/
theorem AccI.far {base : Nat} {v0 v : Value} {w0 w1 w : World} {l0 l : List Con} (h : AccI base v0 w1 l v w) (ho : OwnCons w1 base v0 l0) (hk : Keeps (fun _ => False) w0 w1) (hb : w0.heap.size ≤ base) : Keeps (fun _ => False) w0 w :=
  hk.trans h.keep (fun i hi => .inr (by have := (ho.lt i hi).1; omega))
theorem Reads.append {ok : Nat → Prop} {w : World} {l1 l2 : List Con} {vs1 vs2 : List Value} (h : Reads ok w l1 vs1) (k : Reads ok w l2 vs2) : Reads ok w (l1 ++ l2) (vs1 ++ vs2) := by
  obtain ⟨a1, a2, a3⟩ := h
  obtain ⟨b1, b2, b3⟩ := k
  refine ⟨by simp [a1, b1]; omega, fun u hu => by rcases List.mem_append.1 hu with h | h; exact a2 u h; exact b2 u h, fun i hi => ?_⟩
  by_cases hl : i < l1.length
  · obtain ⟨u0, u1, u2, q0, q1, q2, q3⟩ := a3 i hl
    exact ⟨u0, u1, u2, by rw [List.getElem?_append_left (by omega)]; exact q0, by rw [List.getElem?_append_left (by omega)]; exact q1, by rw [List.getElem?_append_left (by omega)]; exact q2, by rw [List.getElem_append_left hl]; exact q3⟩
  · simp only [List.length_append] at hi
    obtain ⟨u0, u1, u2, q0, q1, q2, q3⟩ := b3 (i - l1.length) (by omega)
    exact ⟨u0, u1, u2, by rw [List.getElem?_append_right (by omega), a1, show i * 3 - l1.length * 3 = (i - l1.length) * 3 by omega]; exact q0, by rw [List.getElem?_append_right (by omega), a1, show i * 3 + 1 - l1.length * 3 = (i - l1.length) * 3 + 1 by omega]; exact q1,
      by rw [List.getElem?_append_right (by omega), a1, show i * 3 + 2 - l1.length * 3 = (i - l1.length) * 3 + 2 by omega]; exact q2, by rw [List.getElem_append_right (by omega)]; exact q3⟩
theorem OwnCons.weak {w : World} {base base' : Nat} {v : Value} {l : List Con} (h : OwnCons w base v l) (hb : base' ≤ base) : OwnCons w base' v l := by
  obtain ⟨cells, h1, h2⟩ := h
  refine ⟨cells, ownsBase h1 hb, fun i hi => ?_⟩
  obtain ⟨v0, v1, v2, e0, e1, e2, hc⟩ := h2 i hi
  exact ⟨v0, v1, v2, e0, e1, e2, hc.mono (fun k hk => ⟨by omega, hk.2⟩)⟩
set_option maxRecDepth 100000 in
set_option maxHeartbeats 4000000 in
theorem marksR_calls (b : Kb) (p : KbA) (more : List Con) (ok : Nat → Prop) (A : Option Addr) (cap : Nat) (w : World) (hb : KbR ok w b p) (hm : ConsAt ok w more A) (hli : b.incls.length ≤ 1000) (hlf : b.facts.length ≤ 1000) (hlm : more.length ≤ 1000)
    (hfi : ∀ x ∈ b.incls, shapeC x.1 = true ∧ shapeC x.2 = true) (hff : ∀ x ∈ b.facts, shapeC x.2 = true) (hfm : ∀ c ∈ more, shapeC c = true) (s0 : Con.sizes (conceptsC b ++ more) ≤ 10000)
    (s1 : Con.sizes (b.incls.map eitherC) ≤ 20000) (s2 : Con.sizes (b.facts.map factC) ≤ 20000) (s3 : Con.sizes (more.map formC) ≤ 20000) (hsi : ∀ x ∈ b.incls.map eitherC, shapeC x = true) (hsf : ∀ x ∈ b.facts.map factC, shapeC x = true) (hsm : ∀ c ∈ more.map formC, shapeC c = true) :
    Calls Tryz.prog 13 #[.agg #[.slice p.a0 b.cs.length p.c0, .slice p.a1 b.rs.length p.c1, .slice p.a2 b.is.length p.c2, .slice p.a3 b.incls.length p.c3, .slice p.a4 b.roles.length p.c4, .slice p.a5 b.facts.length p.c5, .slice p.a6 b.links.length p.c6], .slice A more.length cap] w fun e w' => ∃ v, e = .returned v ∧ OwnCons w' w.heap.size v (refMarks b more) ∧ Keeps (fun _ => False) w w' := by
  have HKB := Lib.hid hb
  have HM := Lib.hid hm.lim
  have HRM : Hid (refMarks b more = collectL ((more.map formC).drop 0) (collectL (b.facts.map factC) (collectL (b.incls.map eitherC) ((refNames b more).map atomC)))) := rfl
  have HNM : Hid (refNames b more = usedF ((conceptsC b ++ more).drop 0) []) := rfl
  have HCO := Lib.hid (fun W (hk : Keeps (fun _ => False) w W) => concepts_calls b p ok W (hb.keep hk (fun _ _ h => h)) hli hlf)
  have HCL := Lib.hid (fun W (hk : Keeps (fun _ => False) w W) => clauses_calls b p ok W (hb.keep hk (fun _ _ h => h)) hli hfi)
  have hcl : (conceptsC b).length ≤ 4000 := by have : (conceptsC b).length = 2 * b.incls.length + b.facts.length := by simp [conceptsC, pairL_len]
                                               omega
  have hnl := usedF_len (conceptsC b ++ more) []
  have HFA := Lib.hid hb.lim.facts
  have HFF := Lib.hid hff
  have HFM := Lib.hid hfm
  have HSI := Lib.hid hsi
  have HSF := Lib.hid hsf
  have HSM := Lib.hid hsm
  unfold RetCons at HCO
  generalize refMarks b more = rv at *
  rw [show usedF (conceptsC b ++ more) [] = refNames b more from rfl] at hnl
  generalize refNames b more = nms at *
  obtain ⟨vsm, hrm, hsrc⟩ := hm.lim.src (cap := cap)
  have HRMO := Lib.hid hrm
  have HSRC := Lib.hid hsrc
  clear hrm hsrc
  generalize conceptsC b = cl at *
  obtain ⟨a0, a1, a2, a3, a4, a5, a6, c0, c1, c2, c3, c4, c5, c6⟩ := p
  dsimp only at HCO HCL HFA ⊢
  clear hb hm hfi hff hfm hsi hsf hsm
  go_enter Tryz.func13, Tryz.ntmps13
  go_wp2_with fail
  generalize hW0 : World.alloc _ _ = W0
  have hK0 : Keeps (fun _ => False) w W0 := by rw [← hW0]; repeat (first | exact Keeps.refl _ _ | refine Keeps.drewN ?_ _ | refine Keeps.drew ?_ | refine Keeps.alloc ?_ _ | refine Keeps.set ?_ (Or.inl (by rfl)) _)
  have hB0 : W0.heap[w.heap.size]? = some (.cells #[.slice a0 b.cs.length c0, .slice a1 b.rs.length c1, .slice a2 b.is.length c2, .slice a3 b.incls.length c3, .slice a4 b.roles.length c4, .slice a5 b.facts.length c5, .slice a6 b.links.length c6] 30 (0, 0)) := by rw [← hW0]; exact blkNew rfl
  have HSZ0 : Hid (W0.heap.size = w.heap.size + 1) := by unfold Hid; rw [← hW0]; simp
  clear hW0
  refine (HCO.out W0 hK0).mono ?_
  clear HCO
  rintro e w1 ⟨v, vs, rfl, ho, hr, hk1⟩
  have HO1 := Lib.hid ho
  have HR1 := Lib.hid hr
  have HK1 := Lib.hid (hK0.then_ hk1)
  have HB1 := Lib.hid (hk1.blk hB0 (fun h => h))
  have hz0 := hK0.size
  have hsz0 := HSZ0.out
  have hz1 : W0.heap.size ≤ w1.heap.size := hk1.size
  clear ho hr hk1 hB0
  go_wp2_with (at_builtin; refine wp_app rfl _ _ 31 31 rfl W0.heap.size 39 _ 3 40 Tryz.underlying31 infoCon rfl (by decide) (by decide) v cl.length vs HO1.out rfl (.slice A more.length cap) more.length vsm (HSRC.out _ HK1.out) rfl (by omega) (by omega) ?_; intro v2 w2 ho2 hk2 hat2; obtain ⟨AA, capA, rfl⟩ : ∃ AA capA, v2 = .slice AA (cl.length + more.length) capA := (by rcases ho2.2 with ⟨h1, h2⟩ | ⟨g, cap, cur, h1, _⟩; exact ⟨none, 0, by rw [h1, h2]⟩; exact ⟨_, _, h1⟩))
  have HK2 := Lib.hid ((HK1.out.of0.then_ hk2).new (fun i hi => by have := (HO1.out.lt i hi).1; omega))
  have HB2 := Lib.hid (hk2.blk HB1.out (fun h => by have := (HO1.out.lt _ h).1; omega))
  have HCA : Hid (ConsAt (fun k => k < w2.heap.size) w2 (cl ++ more) AA) := by
    have hrr : Reads (fun k => (ok k ∧ k < W0.heap.size)) w2 (cl ++ more) (vs ++ vsm) :=
      Reads.append (HR1.out.keep hk2 (fun k hk e => by have := (HO1.out.lt k e).1; omega)) ((HRMO.out.keep HK2.out (fun _ _ h => h)).mono (fun k hk => ⟨hk.1, by omega⟩))
    have ho2' : w2.ownsRow W0.heap.size 39 3 (.slice AA (cl.length + more.length) capA) (cl ++ more).length (vs ++ vsm) := by rw [List.length_append]; exact ho2
    obtain ⟨A', cap', e, hca⟩ := retRow ho2' hrr
    simp only [Value.slice.injEq] at e
    obtain ⟨rfl, _, _⟩ := e
    exact fun hl => by obtain ⟨b', o', e1, e2, e3⟩ := hca.lim hl; exact ⟨b', o', e1, e2.2, e3.mono (fun _ h => h.2)⟩
  generalize hca : cl ++ more = ca at *
  have hlen : ca.length = cl.length + more.length := by rw [← hca, List.length_append]
  clear hca ho2 hk2 hat2 HR1 HO1 HB1 HK1 HSRC HRMO
  have s0' : ([] : List Int).length + Con.sizes (ca.drop 0) ≤ 10000 := by simpa using s0
  go_loopw [5, 22] (fun v i wr => ∃ (k : Nat) (acc : List Int), k ≤ ca.length ∧ i = .int .i64 k ∧ Hid (nms = usedF (ca.drop k) acc) ∧ acc.length + Con.sizes (ca.drop k) ≤ 10000 ∧ Hid (OwnInts wr w2.heap.size v acc) ∧ Hid (Keeps (fun _ => False) w2 wr)) (fun _ i _ => ca.length - (intOf i).toNat)
  case atStart => exact ⟨0, [], Nat.zero_le _, rfl, HNM, s0', OwnInts.nil _ _, Keeps.refl _ _⟩
  case round =>
    obtain ⟨k, acc, hk, rfl, HI, hsz, HO, HK⟩ := hrel
    by_cases hlt : k < ca.length
    · obtain ⟨bb, o, A', cap', rfl, hob, hbl, e0, e1, e2, hd⟩ := (HCA.out.keep HK.out (fun _ _ h => h)).nth k hlt
      have HST := Lib.hid (usedF_drop hlt acc)
      have i1 : (k : Int) < cl.length + more.length := by omega
      have hsd := sizes_dropL ca k hlt
      have hul : (usesC ca[k] (acc, [])).1.length ≤ acc.length + ca[k].size := (usesC_len ca[k] (acc, [])).1
      generalize ca[k] = d at *
      have HCALL := Lib.hid (fun W (hkw : Keeps (fun _ => False) wr W) => uses_calls w2.heap.size (d.size + 1) d A' cap' (fun j => j < w2.heap.size) u5 (.slice none 0 0) (acc, []) W (by omega) (by show acc.length + d.size ≤ 100000; omega) (by show 0 + d.size ≤ 100000; omega) (by have := HK.out.size; have := hkw.size; omega) (hd.keep hkw (fun _ _ h => h))
        (fun j hj => ⟨fun e => by have := (HO.out.lt' e).1; omega, fun e => by simp [Value.ownBlock] at e⟩) (AccU.start (HO.out.keep' hkw (fun _ _ h => h)) (OwnInts.nil _ _) (fun j _ e => by simp [Value.ownBlock] at e)))
      clear hd
      generalize usesC d (acc, []) = acc2 at *
      go_wp2_with fail
      generalize hW4 : World.alloc _ _ = W4
      have hK4 : Keeps (fun _ => False) wr W4 := by rw [← hW4]; repeat (first | exact Keeps.refl _ _ | refine Keeps.drewN ?_ _ | refine Keeps.drew ?_ | refine Keeps.alloc ?_ _ | refine Keeps.set ?_ (Or.inl (by rfl)) _)
      clear hW4
      refine (HCALL.out W4 hK4).mono ?_
      clear HCALL
      rintro e w5 ⟨v5, v5', rfl, hacc⟩
      have HN := Lib.hid hacc.a
      have HKN := Lib.hid ((HK.out.then_ hK4).trans hacc.keep (fun i hi => .inr (by rcases hi with hi | hi; exact (HO.out.lt' hi).1; simp [Value.ownBlock] at hi)))
      clear hacc
      go_wp2_with fail
      go_roundw
      case rel => exact ⟨k + 1, acc2.1, by omega, by go_num, by unfold Hid; rw [HI.out, HST.out], by omega, HN, HKN⟩
      case measure => simp [intOf]; omega
    · obtain rfl : k = ca.length := by omega
      have i1 : ¬ ((ca.length : Int) < cl.length + more.length) := by omega
      have HEN : Hid (nms = acc) := by unfold Hid; rw [HI.out, List.drop_length]; rfl
      have hnz : nms.length ≤ 10000 := by simpa using Nat.le_trans hnl (by simpa using s0)
      have HO5 : Hid (OwnInts wr w2.heap.size u5 nms) := by unfold Hid; rw [HEN.out]; exact HO.out
      obtain ⟨A5, cap5, rfl⟩ : ∃ A5 cap5, u5 = .slice A5 nms.length cap5 := by
        have h := HO5.out
        rcases h.2 with ⟨h1, h2⟩ | ⟨g, cap, cur, h1, _⟩
        · exact ⟨none, 0, by rw [h1, h2]⟩
        · exact ⟨_, _, h1⟩
      obtain ⟨w3, hw3⟩ : ∃ x, x = wr := ⟨_, rfl⟩
      subst hw3
      have HK3 := HK
      clear HK HO HI HEN hsz hlt hk HNM
      go_wp2_with fail
      go_loopw [8, 35] (fun v i wr => ∃ (k : Nat), k ≤ nms.length ∧ i = .int .i64 k ∧ Hid (OwnCons wr w3.heap.size v ((nms.take k).map atomC)) ∧ Hid (Keeps (fun _ => False) w3 wr)) (fun _ i _ => nms.length - (intOf i).toNat)
      case atStart => exact ⟨0, Nat.zero_le _, rfl, OwnCons.nil _ _, Keeps.refl _ _⟩
      case round =>
        obtain ⟨k, hk, rfl, HO, HK⟩ := hrel
        by_cases hlt : k < nms.length
        · have HMAP : Hid ((nms.take (k + 1)).map atomC = (nms.take k).map atomC ++ [⟨0, nms[k], []⟩]) := by unfold Hid; rw [List.take_succ_eq_append_getElem hlt, List.map_append]; rfl
          have i2 : (k : Int) < nms.length := by omega
          obtain ⟨g, cap5', e5, _, _, hgl⟩ := ownSlice HO5.out (by omega)
          simp only [Value.slice.injEq, true_and] at e5
          obtain ⟨rfl, rfl⟩ := e5
          have hcell := HO5.out.cells (g := g) rfl k (.int .i64 nms[k]) (by simp [hlt])
          rw [addPlain] at hcell
          have hce := HK.out.cell hcell (fun h => h)
          generalize nms[k] = z at *
          have HLEN : Hid (((nms.take k).map atomC).length ≤ 10000) := by unfold Hid; simp; omega
          obtain ⟨lq, hlq⟩ : ∃ lq, lq = (nms.take k).map atomC := ⟨_, rfl⟩
          rw [← hlq] at HO HMAP HLEN
          clear hlq hcell
          obtain ⟨cells, hcl5, _⟩ := HO.out
          have HOW := Lib.hid hcl5
          have hwr := HK.out.size
          clear hcl5
          go_wp2_with (first | (go_at_call 27; refine (of_calls _ _ _ _ _ _).mono ?_; rintro e w5 ⟨rfl, hk5⟩; have hw5 := hk5.size) | (at_builtin; refine wp_app1 rfl _ _ 31 31 rfl w3.heap.size 39 _ 3 40 Tryz.underlying31 infoCon rfl (by decide) (by decide) u8 lq.length cells (ownsKeep (S := fun _ => False) HOW.out (hk5.alloc _) (fun _ _ h => h)) rfl _ 1 [.int .i64 0, .int .i64 z, .slice none 0 0] (Src.ofBlock Tryz.underlying31 (cs := #[.int .i64 0, .int .i64 z, .slice none 0 0]) (blkNew (by simp)) rfl (by simp [Value.oneCell'])) rfl (by decide) (by have := HLEN.out; omega) (by simp; omega) ?_; intro g8 cap8 w8 ho8 hk8 hat8 hcap8 hlt8))
          have hoc := cons_step (W0 := w3) HO.out hwr (hk5.alloc (.cells #[.int .i64 0, .int .i64 z, .slice none 0 0] 39)) (conR_leaf _ _ 0 z) (ownsKeep (S := fun _ => False) HOW.out (hk5.alloc _) (fun _ _ h => h)) ho8 hk8 hat8 HK.out (Nat.le_refl _)
          have HOC := Lib.hid hoc
          clear hoc ho8 hat8
          go_roundw
          case rel => exact ⟨k + 1, by omega, by go_num, by unfold Hid; rw [HMAP.out]; exact HOC.out.1, HOC.out.2⟩
          case measure => simp [intOf]; omega
        · obtain rfl : k = nms.length := by omega
          have HO8 : Hid (OwnCons wr w3.heap.size u8 (nms.map atomC)) := by have h := HO.out; rw [List.take_length] at h; exact h
          have HK4 := HK
          obtain ⟨w4, hw4⟩ : ∃ x, x = wr := ⟨_, rfl⟩
          subst hw4
          have HK40 := Lib.hid ((HK2.out.then_ HK3.out).then_ HK4.out)
          have HB4 := Lib.hid ((HK3.out.then_ HK4.out).blk HB2.out (fun h => h))
          obtain ⟨x0, x1, x2, x3, x4, x5, x6⟩ := cells7 HB4.out
          have hl4 := blkLt HB4.out
          have hsz4 : (nms.map atomC).length ≤ 10000 := by simpa using hnz
          generalize nms.map atomC = acc0 at *
          obtain ⟨v8, hv8⟩ : ∃ x, x = u8 := ⟨_, rfl⟩
          subst hv8
          clear HK HO HO5 HCA hlt hk
          go_wp2_with fail
          refine (HCL.out w4 HK40.out).mono ?_
          rintro e w5 ⟨v46, rfl, ho46, hk5⟩
          obtain ⟨A46, cap46, rfl, _, hca46⟩ := ho46.consAt
          have HCLS := Lib.hid hca46.lim
          have HO85 := Lib.hid (HO8.out.keep hk5 (fun _ _ h => h))
          have HB5 := Lib.hid (hk5.blk HB4.out (fun h => h))
          have HK5 := Lib.hid (HK4.out.then_ hk5)
          have HLT8 : Hid (∀ j, v8.ownBlock = some j → w3.heap.size ≤ j ∧ j < w4.heap.size) := fun j e => HO8.out.lt j e
          have h45 : w4.heap.size ≤ w5.heap.size := hk5.size
          have h34 : w3.heap.size ≤ w4.heap.size := HK4.out.size
          generalize hcls : b.incls.map eitherC = cls at *
          have hclen : cls.length ≤ 1000 := by rw [← hcls, List.length_map]; exact hli
          obtain ⟨rv1, hrv1⟩ : ∃ x, x = collectL cls acc0 := ⟨_, rfl⟩
          rw [← hrv1] at HRM
          have HR1 : Hid (rv1 = collectL (cls.drop 0) acc0) := hrv1
          have hq0 : acc0.length + Con.sizes (cls.drop 0) ≤ 30000 := by rw [List.drop_zero]; omega
          have hcl1 := collectL_len cls acc0
          rw [← hrv1] at hcl1
          have hrl1 : rv1.length ≤ 30000 := by omega
          clear hcls hrv1 hca46 ho46 hk5 HCL HO8 x0 x1 x2 x3 x4 x5 x6 hl4 hcl1
          go_wp2_with fail
          go_loopw [8, 48] (fun v i wr => ∃ (k : Nat) (acc : List Con), k ≤ cls.length ∧ i = .int .i64 k ∧ Hid (rv1 = collectL (cls.drop k) acc) ∧ acc.length + Con.sizes (cls.drop k) ≤ 30000 ∧ Hid (AccI w3.heap.size v8 w5 acc v wr)) (fun _ i _ => cls.length - (intOf i).toNat)
          case atStart => exact ⟨0, acc0, Nat.zero_le _, rfl, HR1, hq0, AccI.still HO85.out (Keeps.refl _ _)⟩
          case round =>
            obtain ⟨k, acc, hk, rfl, HI, hsz, HA⟩ := hrel
            by_cases hlt : k < cls.length
            · obtain ⟨bb, o, A', cap', rfl, hob, hbl, e0, e1, e2, hd⟩ := (HCLS.out.keep HA.out.keep (fun j hj e => by have := (HLT8.out j e).2; omega)).nth k hlt
              have HST := Lib.hid (collectL_drop hlt acc)
              have i2 : (k : Int) < cls.length := by omega
              have hsd := sizes_dropL cls k hlt
              have hshk := Lib.hid (HSI.out _ (List.getElem_mem hlt))
              have hcc := collectC_len cls[k] acc
              have hwr := HA.out.keep.size
              generalize cls[k] = d at *
              have HCALL := Lib.hid (fun W (hkw : Keeps (fun _ => False) wr W) => collectR_calls w3.heap.size (d.size + 1) d A' cap' (fun j => w4.heap.size ≤ j ∧ j < w5.heap.size) u8 acc W (by omega) hshk.out (by omega) (by omega) (by have := hkw.size; omega) (hd.keep hkw (fun _ _ h => h)) (HA.out.ok (fun j hj => ⟨by omega, fun e => by have := (HLT8.out j e).2; omega⟩)) (HA.out.own.keep hkw (fun _ _ h => h)))
              clear hd
              generalize collectC d acc = acc2 at *
              go_wp2_with fail
              generalize hW4 : World.alloc _ _ = W4
              have hK4 : Keeps (fun _ => False) wr W4 := by rw [← hW4]; repeat (first | exact Keeps.refl _ _ | refine Keeps.drewN ?_ _ | refine Keeps.drew ?_ | refine Keeps.alloc ?_ _ | refine Keeps.set ?_ (Or.inl (by rfl)) _)
              clear hW4
              refine (HCALL.out W4 hK4).mono ?_
              clear HCALL
              rintro e wz ⟨vz, rfl, hacc⟩
              have HN := Lib.hid ((HA.out.more hK4).trans hacc)
              clear hacc
              go_wp2_with fail
              go_roundw
              case rel => exact ⟨k + 1, acc2, by omega, by go_num, by unfold Hid; rw [HI.out, HST.out], by omega, HN⟩
              case measure => simp [intOf]; omega
            · obtain rfl : k = cls.length := by omega
              have HEN : Hid (rv1 = acc) := by unfold Hid; rw [HI.out, List.drop_length]; rfl
              have HO6 : Hid (OwnCons wr w3.heap.size u8 rv1) := by unfold Hid; rw [HEN.out]; exact HA.out.own
              have HK6 := Lib.hid (HA.out.far HO85.out HK5.out (Nat.le_refl _))
              have HB6 := Lib.hid (HA.out.keep.blk HB5.out (fun e => by have := (HLT8.out _ e).1; have := HK3.out.size; have := HK2.out.size; have := hsz0; have := blkLt HB2.out; omega))
              obtain ⟨w6, hw6⟩ : ∃ x, x = wr := ⟨_, rfl⟩
              subst hw6
              obtain ⟨v6, hv6⟩ : ∃ x, x = u8 := ⟨_, rfl⟩
              subst hv6
              have HK60 := Lib.hid ((HK2.out.then_ HK3.out).then_ HK6.out)
              obtain ⟨x0, x1, x2, x3, x4, x5, x6⟩ := cells7 HB6.out
              have hl6 := blkLt HB6.out
              obtain ⟨rv2, hrv2⟩ : ∃ x, x = collectL (b.facts.map factC) rv1 := ⟨_, rfl⟩
              rw [← hrv2] at HRM
              have HR2 : Hid (rv2 = collectL ((b.facts.map factC).drop 0) rv1) := hrv2
              have hq1 : rv1.length + Con.sizes ((b.facts.map factC).drop 0) ≤ 60000 := by rw [List.drop_zero]; omega
              have hcl2 := collectL_len (b.facts.map factC) rv1
              rw [← hrv2] at hcl2
              have hrl2 : rv2.length ≤ 60000 := by omega
              clear HA HEN HI hsz hlt hk HO85 HB5 HK5 HLT8 HCLS hrv2 hcl2 HR1 hq0 HK4 HK40 HB4
              go_wp2_with fail
              go_loopw [8, 59] (fun v i wr => ∃ (k : Nat) (acc : List Con), k ≤ b.facts.length ∧ i = .int .i64 k ∧ Hid (rv2 = collectL ((b.facts.map factC).drop k) acc) ∧ acc.length + Con.sizes ((b.facts.map factC).drop k) ≤ 60000 ∧ Hid (OwnCons wr w3.heap.size v acc) ∧ Hid (Keeps (fun _ => False) w3 wr)) (fun _ i _ => b.facts.length - (intOf i).toNat)
              case atStart => exact ⟨0, rv1, Nat.zero_le _, rfl, HR2, hq1, HO6, HK6⟩
              case round =>
                obtain ⟨k, acc, hk, rfl, HI, hsz, HO, HK⟩ := hrel
                by_cases hlt : k < b.facts.length
                · obtain ⟨bb, o, rfl, hob, hc⟩ := (HFA.out.keep ((HK2.out.then_ HK3.out).then_ HK.out) (fun _ _ h => h)) (by intro h; rw [h] at hlt; simp at hlt)
                  obtain ⟨A1, d1, e0, e1, e2, e3, h1⟩ := hc k hlt
                  have hbl := World.block_lt_of_cell? wr _ e0
                  simp only at hbl
                  have HST := Lib.hid (collectL_map factC b.facts k hlt acc)
                  have i2 : (k : Int) < b.facts.length := by omega
                  have hsd := sizes_map factC b.facts k hlt
                  have hrz := Con.size_at (l := b.facts.map factC) k (by simpa using hlt)
                  rw [List.getElem_map] at hrz
                  have hshf := HFF.out _ (List.getElem_mem hlt)
                  have hshk := Lib.hid (HSF.out (factC b.facts[k]) (List.mem_map_of_mem (List.getElem_mem hlt)))
                  have hcc := collectC_len (factC b.facts[k]) acc
                  have hwr := HK.out.size
                  have HFORM := Lib.hid (fun W (hkw : Keeps (fun _ => False) wr W) => form_calls (b.facts[k].2.size + 1) b.facts[k].2 false A1 d1 _ W (by omega) hshf (h1.keep hkw (fun _ _ h => h)))
                  rw [show nnfC b.facts[k].2 false = factC b.facts[k] from rfl] at HFORM
                  generalize factC b.facts[k] = r at *
                  generalize b.facts[k].2 = d at *
                  generalize b.facts[k].1 = dn at *
                  have HCALL := Lib.hid (fun (W W' : World) (B : Option Addr) (dz : Nat) (hkw : Keeps (fun _ => False) wr W) (hkw' : Keeps (fun _ => False) W W') (hr : ConR (fun j => W.heap.size ≤ j) W' r [.int .i64 r.op, .int .i64 r.n, .slice B r.args.length dz]) => collectR_calls w3.heap.size (r.size + 1) r B dz (fun j => W.heap.size ≤ j) u8 acc W' (by omega) hshk.out (by omega) (by omega) (by have := hkw.size; have := hkw'.size; omega) hr (fun j hj => ⟨by have := hkw.size; omega, fun e => by have := (HO.out.lt j e).2; have := hkw.size; omega⟩) (HO.out.keep (hkw.then_ hkw') (fun _ _ h => h)))
                  clear hc h1 hshf
                  generalize collectC r acc = acc2 at *
                  go_wp2_with fail
                  generalize hW4 : World.alloc _ _ = W4
                  have hK4 : Keeps (fun _ => False) wr W4 := by rw [← hW4]; repeat (first | exact Keeps.refl _ _ | refine Keeps.drewN ?_ _ | refine Keeps.drew ?_ | refine Keeps.alloc ?_ _ | refine Keeps.set ?_ (Or.inl (by rfl)) _)
                  clear hW4
                  refine (HFORM.out W4 hK4).mono ?_
                  clear HFORM
                  rintro e wy ⟨B, dz, rfl, hry, hky⟩
                  have HRY := Lib.hid hry
                  clear hry
                  go_wp2_with fail
                  refine (HCALL.out W4 wy B dz hK4 hky HRY.out).mono ?_
                  clear HCALL
                  rintro e wz ⟨vz, rfl, hacc⟩
                  have HN := Lib.hid hacc.own
                  have HKN := Lib.hid (hacc.far (HO.out.keep (hK4.then_ hky) (fun _ _ h => h)) ((HK.out.then_ hK4).then_ hky) (Nat.le_refl _))
                  clear hacc
                  go_wp2_with fail
                  go_roundw
                  case rel => exact ⟨k + 1, acc2, by omega, by go_num, by unfold Hid; rw [HI.out, HST.out], by omega, HN, HKN⟩
                  case measure => simp [intOf]; omega
                · obtain rfl : k = b.facts.length := by omega
                  have HEN : Hid (rv2 = acc) := by unfold Hid; rw [HI.out, List.drop_eq_nil_of_le (by simp)]; rfl
                  have HO7 : Hid (OwnCons wr w3.heap.size u8 rv2) := by unfold Hid; rw [HEN.out]; exact HO.out
                  have HK7 := HK
                  obtain ⟨w7, hw7⟩ : ∃ x, x = wr := ⟨_, rfl⟩
                  subst hw7
                  obtain ⟨v7, hv7⟩ : ∃ x, x = u8 := ⟨_, rfl⟩
                  subst hv7
                  have hq2 : rv2.length + Con.sizes ((more.map formC).drop 0) ≤ 90000 := by rw [List.drop_zero]; omega
                  clear HO HK HEN HI hsz hlt hk HO6 HB6 HK60 HR2 hq1 x0 x1 x2 x3 x4 x5 x6
                  go_wp2_with fail
                  go_loopw [8, 71] (fun v i wr => ∃ (k : Nat) (acc : List Con), k ≤ more.length ∧ i = .int .i64 k ∧ Hid (rv = collectL ((more.map formC).drop k) acc) ∧ acc.length + Con.sizes ((more.map formC).drop k) ≤ 90000 ∧ Hid (OwnCons wr w3.heap.size v acc) ∧ Hid (Keeps (fun _ => False) w3 wr)) (fun _ i _ => more.length - (intOf i).toNat)
                  case atStart => exact ⟨0, rv2, Nat.zero_le _, rfl, HRM, hq2, HO7, HK7⟩
                  case round =>
                    obtain ⟨k, acc, hk, rfl, HI, hsz, HO, HK⟩ := hrel
                    by_cases hlt : k < more.length
                    · obtain ⟨bb, o, A1, d1, rfl, hob, hbl, e0, e1, e2, h1⟩ := (HM.out.keep ((HK2.out.then_ HK3.out).then_ HK.out) (fun _ _ h => h)).nth k hlt
                      have HST := Lib.hid (collectL_map formC more k hlt acc)
                      have i2 : (k : Int) < more.length := by omega
                      have hsd := sizes_map formC more k hlt
                      have hrz := Con.size_at (l := more.map formC) k (by simpa using hlt)
                      rw [List.getElem_map] at hrz
                      have hshf := HFM.out _ (List.getElem_mem hlt)
                      have hshk := Lib.hid (HSM.out (formC more[k]) (List.mem_map_of_mem (List.getElem_mem hlt)))
                      have hcc := collectC_len (formC more[k]) acc
                      have hwr := HK.out.size
                      have HFORM := Lib.hid (fun W (hkw : Keeps (fun _ => False) wr W) => form_calls (more[k].size + 1) more[k] false A1 d1 _ W (by omega) hshf (h1.keep hkw (fun _ _ h => h)))
                      rw [show nnfC more[k] false = formC more[k] from rfl] at HFORM
                      generalize formC more[k] = r at *
                      generalize more[k] = d at *
                      have HCALL := Lib.hid (fun (W W' : World) (B : Option Addr) (dz : Nat) (hkw : Keeps (fun _ => False) wr W) (hkw' : Keeps (fun _ => False) W W') (hr : ConR (fun j => W.heap.size ≤ j) W' r [.int .i64 r.op, .int .i64 r.n, .slice B r.args.length dz]) => collectR_calls w3.heap.size (r.size + 1) r B dz (fun j => W.heap.size ≤ j) u8 acc W' (by omega) hshk.out (by omega) (by omega) (by have := hkw.size; have := hkw'.size; omega) hr (fun j hj => ⟨by have := hkw.size; omega, fun e => by have := (HO.out.lt j e).2; have := hkw.size; omega⟩) (HO.out.keep (hkw.then_ hkw') (fun _ _ h => h)))
                      clear h1 hshf
                      generalize collectC r acc = acc2 at *
                      go_wp2_with fail
                      generalize hW4 : World.alloc _ _ = W4
                      have hK4 : Keeps (fun _ => False) wr W4 := by rw [← hW4]; repeat (first | exact Keeps.refl _ _ | refine Keeps.drewN ?_ _ | refine Keeps.drew ?_ | refine Keeps.alloc ?_ _ | refine Keeps.set ?_ (Or.inl (by rfl)) _)
                      clear hW4
                      refine (HFORM.out W4 hK4).mono ?_
                      clear HFORM
                      rintro e wy ⟨B, dz, rfl, hry, hky⟩
                      have HRY := Lib.hid hry
                      clear hry
                      go_wp2_with fail
                      refine (HCALL.out W4 wy B dz hK4 hky HRY.out).mono ?_
                      clear HCALL
                      rintro e wz ⟨vz, rfl, hacc⟩
                      have HN := Lib.hid hacc.own
                      have HKN := Lib.hid (hacc.far (HO.out.keep (hK4.then_ hky) (fun _ _ h => h)) ((HK.out.then_ hK4).then_ hky) (Nat.le_refl _))
                      clear hacc
                      go_wp2_with fail
                      go_roundw
                      case rel => exact ⟨k + 1, acc2, by omega, by go_num, by unfold Hid; rw [HI.out, HST.out], by omega, HN, HKN⟩
                      case measure => simp [intOf]; omega
                    · obtain rfl : k = more.length := by omega
                      have HEN : Hid (rv = acc) := by unfold Hid; rw [HI.out, List.drop_eq_nil_of_le (by simp)]; rfl
                      go_wp2_with fail
                      go_ret
                      refine ⟨u8, rfl, ?_, (HK2.out.then_ HK3.out).then_ HK.out⟩
                      rw [HEN.out]
                      exact HO.out.weak (by have := HK2.out.size; have := HK3.out.size; omega)
end Go.Proofs.YtoafelppnagpbaaGreatDoor
/- The law's marked. -/
namespace Go.Proofs.YtoafelppnagpbaaGreatDoor
open Go.RowKit
set_option linter.unusedVariables false
set_option linter.unusedSimpArgs false
/-- What the reference's Marks asks. -/
structure RefOk (b : Kb) (more : List Con) : Prop where
  hli : b.incls.length ≤ 1000
  hlf : b.facts.length ≤ 1000
  hlm : more.length ≤ 1000
  hfi : ∀ x ∈ b.incls, shapeC x.1 = true ∧ shapeC x.2 = true
  hff : ∀ x ∈ b.facts, shapeC x.2 = true
  hfm : ∀ c ∈ more, shapeC c = true
  s0 : Con.sizes (conceptsC b ++ more) ≤ 10000
  s1 : Con.sizes (b.incls.map eitherC) ≤ 20000
  s2 : Con.sizes (b.facts.map factC) ≤ 20000
  s3 : Con.sizes (more.map formC) ≤ 20000
  hsi : ∀ x ∈ b.incls.map eitherC, shapeC x = true
  hsf : ∀ x ∈ b.facts.map factC, shapeC x = true
  hsm : ∀ c ∈ more.map formC, shapeC c = true
def smallAll (l : List Con) : Bool := l.all smallR
def markedE (b : Kb) (more : List Con) : List Con × Int :=
  if faultE b more = 0 then (if (refMarks b more).length ≤ 8 then (if smallAll (refMarks b more) then (refMarks b more, 0) else ([], 2)) else ([], 3)) else ([], faultE b more)
set_option maxRecDepth 100000 in
set_option maxHeartbeats 4000000 in
theorem marked_calls (b : Kb) (p : KbA) (more : List Con) (ok : Nat → Prop) (A : Option Addr) (cap : Nat) (w : World) (hb : KbR ok w b p) (hm : ConsAt ok w more A) (h3 : b.incls.length ≤ 1000) (h4 : b.roles.length ≤ 1000) (h5 : b.facts.length ≤ 1000) (h6 : b.links.length ≤ 1000)
    (hn0 : b.cs.length ≤ 100000) (hn1 : b.rs.length ≤ 100000) (hn2 : b.is.length ≤ 100000) (hlm : more.length ≤ 1000) (hR : faultE b more = 0 → RefOk b more) :
    Calls Tryz.prog 9 #[.agg #[.slice p.a0 b.cs.length p.c0, .slice p.a1 b.rs.length p.c1, .slice p.a2 b.is.length p.c2, .slice p.a3 b.incls.length p.c3, .slice p.a4 b.roles.length p.c4, .slice p.a5 b.facts.length p.c5, .slice p.a6 b.links.length p.c6], .slice A more.length cap] w fun e w' => ∃ v, e = .returned (.tuple #[v, .int .i64 (markedE b more).2]) ∧ OwnCons w' w.heap.size v (markedE b more).1 ∧ Keeps (fun _ => False) w w' := by
  have HFT := Lib.hid (fun W (hk : Keeps (fun _ => False) w W) => fault_calls b p more ok A cap W (hb.keep hk (fun _ _ h => h)) h3 h4 h5 h6 hn0 hn1 hn2 (hm.keep hk (fun _ _ h => h)) (by omega))
  have HMK := Lib.hid (fun W (hk : Keeps (fun _ => False) w W) (h0 : faultE b more = 0) => marksR_calls b p more ok A cap W (hb.keep hk (fun _ _ h => h)) (hm.keep hk (fun _ _ h => h)) (hR h0).hli (hR h0).hlf (hR h0).hlm (hR h0).hfi (hR h0).hff (hR h0).hfm (hR h0).s0 (hR h0).s1 (hR h0).s2 (hR h0).s3 (hR h0).hsi (hR h0).hsf (hR h0).hsm)
  have HV : Hid (markedE b more = if faultE b more = 0 then (if (refMarks b more).length ≤ 8 then (if smallAll (refMarks b more) then (refMarks b more, 0) else ([], 2)) else ([], 3)) else ([], faultE b more)) := rfl
  generalize markedE b more = mv at *
  generalize refMarks b more = rm at *
  generalize faultE b more = fe at *
  obtain ⟨a0, a1, a2, a3, a4, a5, a6, c0, c1, c2, c3, c4, c5, c6⟩ := p
  dsimp only at HFT HMK ⊢
  clear hb hm hR
  go_enter Tryz.func9, Tryz.ntmps9
  go_wp2_with fail
  generalize hW0 : World.alloc _ _ = W0
  have hK0 : Keeps (fun _ => False) w W0 := by rw [← hW0]; repeat (first | exact Keeps.refl _ _ | refine Keeps.drewN ?_ _ | refine Keeps.drew ?_ | refine Keeps.alloc ?_ _ | refine Keeps.set ?_ (Or.inl (by rfl)) _)
  have hB0 : W0.heap[w.heap.size]? = some (.cells #[.slice a0 b.cs.length c0, .slice a1 b.rs.length c1, .slice a2 b.is.length c2, .slice a3 b.incls.length c3, .slice a4 b.roles.length c4, .slice a5 b.facts.length c5, .slice a6 b.links.length c6] 30 (0, 0)) := by rw [← hW0]; exact blkNew rfl
  clear hW0
  refine (HFT.out W0 hK0).mono ?_
  clear HFT
  rintro e w1 ⟨rfl, hk1⟩
  have HK1 := Lib.hid (hK0.then_ hk1)
  have hB1 := hk1.blk hB0 (fun h => h)
  obtain ⟨x0, x1, x2, x3, x4, x5, x6⟩ := cells7 hB1
  have hl1 := blkLt hB1
  clear hB0 hk1 hK0 hB1
  by_cases hf : fe = 0
  · subst hf
    go_wp2_with fail
    refine (HMK.out w1 HK1.out (by trivial)).mono ?_
    clear HMK x0 x1 x2 x3 x4 x5 x6 hl1
    rintro e w2 ⟨v, rfl, ho, hk2⟩
    have HK2 := Lib.hid (HK1.out.then_ hk2)
    obtain ⟨AA, capA, rfl, _, hca⟩ := ho.consAt
    have HCA := Lib.hid hca
    have HO := Lib.hid (ho.weak (HK1.out.size))
    clear ho hk2 hca
    by_cases h8 : rm.length ≤ 8
    · have q8 : decide (8 < (rm.length : Int)) = false := by simp; omega
      have HV2 : Hid (mv = if smallAll (rm.drop 0) then (rm, 0) else ([], 2)) := by unfold Hid; rw [HV.out, if_pos trivial, if_pos h8]; rfl
      clear HV
      go_wp2_with fail
      go_loopw [24] (fun i wr => ∃ k : Nat, k ≤ rm.length ∧ i = .int .i64 k ∧ Hid (mv = if smallAll (rm.drop k) then (rm, 0) else ([], 2)) ∧ Hid (Keeps (fun _ => False) w2 wr)) (fun i _ => rm.length - (intOf i).toNat)
      case atStart => exact ⟨0, Nat.zero_le _, rfl, HV2, Keeps.refl _ _⟩
      case round =>
        obtain ⟨k, hk, rfl, HI, HK⟩ := hrel
        by_cases hlt : k < rm.length
        · obtain ⟨bb, o, A', cap', rfl, hob, hbl, e0, e1, e2, hd⟩ := (HCA.out.keep HK.out (fun _ _ h => h)).nth k hlt
          have HST : Hid (smallAll (rm.drop k) = (smallR rm[k] && smallAll (rm.drop (k + 1)))) := all_drop _ rm k hlt
          have i1 : (k : Int) < rm.length := by omega
          generalize rm[k] = d at *
          have HCALL := Lib.hid (fun W (hkw : Keeps (fun _ => False) wr W) => small_calls d A' cap' _ W (hd.keep hkw (fun _ _ h => h)))
          clear hd
          generalize hsm : smallR d = sm at *
          clear hsm
          go_wp2_with fail
          generalize hW4 : World.alloc _ _ = W4
          have hK4 : Keeps (fun _ => False) wr W4 := by rw [← hW4]; repeat (first | exact Keeps.refl _ _ | refine Keeps.drewN ?_ _ | refine Keeps.drew ?_ | refine Keeps.alloc ?_ _ | refine Keeps.set ?_ (Or.inl (by rfl)) _)
          clear hW4
          refine (HCALL.out W4 hK4).mono ?_
          clear HCALL
          rintro e w5 ⟨rfl, hk5⟩
          have hkT := hK4.then_ hk5
          cases sm
          · have HE : Hid (mv = ([], 2)) := by unfold Hid; rw [HI.out, HST.out]; rfl
            go_wp2_with fail
            exact bodyPost_ret (v := .tuple #[.slice none 0 0, .int .i64 2]) (by simp [results, Tryz.results9, go_sem]) rfl ⟨_, by rw [HE.out], by rw [HE.out]; exact OwnCons.nil _ _, (HK2.out.then_ HK.out).then_ hkT⟩
          · have HE : Hid (mv = if smallAll (rm.drop (k + 1)) then (rm, 0) else ([], 2)) := by unfold Hid; rw [HI.out, HST.out, Bool.true_and]
            go_wp2_with fail
            go_roundw
            case rel => exact ⟨k + 1, by omega, by go_num, HE, HK.out.then_ hkT⟩
            case measure => simp [intOf]; omega
        · obtain rfl : k = rm.length := by omega
          have HE : Hid (mv = (rm, 0)) := by unfold Hid; rw [HI.out, List.drop_length]; rfl
          go_wp2_with fail
          exact bodyPost_ret (v := .tuple #[.slice AA rm.length capA, .int .i64 0]) (by simp [results, Tryz.results9, go_sem]) rfl ⟨_, by rw [HE.out], by rw [HE.out]; exact HO.out.keep HK.out (fun _ _ h => h), HK2.out.then_ HK.out⟩
    · have q8 : decide (8 < (rm.length : Int)) = true := by simp; omega
      have HE : Hid (mv = ([], 3)) := by unfold Hid; rw [HV.out, if_pos trivial, if_neg h8]
      go_wp2_with fail
      exact bodyPost_ret (v := .tuple #[.slice none 0 0, .int .i64 3]) (by simp [results, Tryz.results9, go_sem]) rfl ⟨_, by rw [HE.out], by rw [HE.out]; exact OwnCons.nil _ _, HK2.out⟩
  · have q0 : (fe != 0) = true := by simpa using hf
    have HE : Hid (mv = ([], fe)) := by unfold Hid; rw [HV.out, if_neg hf]
    go_wp2_with fail
    exact bodyPost_ret (v := .tuple #[.slice none 0 0, .int .i64 fe]) (by simp [results, Tryz.results9, go_sem]) rfl ⟨_, by rw [HE.out], by rw [HE.out]; exact OwnCons.nil _ _, HK1.out⟩
end Go.Proofs.YtoafelppnagpbaaGreatDoor
