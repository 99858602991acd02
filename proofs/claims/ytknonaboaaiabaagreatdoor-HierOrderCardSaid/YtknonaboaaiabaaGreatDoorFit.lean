/- What concept.fine and hier.fine compute. -/
import Derived.Test.YtknonaboaaiabaaGreatDoorKbValid
import Derived.Test.YtknonaboaaiabaaGreatDoorNnf
import Derived.Test.YtknonaboaaiabaaGreatDoorPlace
namespace Go.Proofs.YtknonaboaaiabaaGreatDoor
open Go.RowKit
set_option linter.unusedVariables false
set_option linter.unusedSimpArgs false
/-- A slice of concepts. -/
def ConsAt (ok : Nat → Prop) (w : World) (l : List Con) (A : Option Addr) : Prop := l ≠ [] → ∃ b o, A = some ⟨b, o, none⟩ ∧ ok b ∧ ConsR ok w l b o
theorem ConsAt.keep {ok S : Nat → Prop} {w w' : World} {l : List Con} {A : Option Addr} (h : ConsAt ok w l A) (hk : Keeps S w w') (hs : ∀ k, ok k → ¬ S k) : ConsAt ok w' l A := fun hl => by
  obtain ⟨b, o, e, hb, hr⟩ := h hl
  exact ⟨b, o, e, hb, hr.keep hk hs hb⟩
theorem ConsAt.lim {ok : Nat → Prop} {w : World} {l : List Con} {A : Option Addr} (h : ConsAt ok w l A) : ConsAt (fun k => ok k ∧ k < w.heap.size) w l A := fun hl => by
  obtain ⟨b, o, e, hb, hr⟩ := h hl
  refine ⟨b, o, e, ⟨hb, ?_⟩, hr.lim (hr.pos (List.length_pos_iff.2 hl))⟩
  obtain ⟨_, _, e0, _⟩ := hr.at_ 0 (List.length_pos_iff.2 hl)
  exact World.block_lt_of_cell? w _ e0
def okC (nc nr : Nat) (c : Con) : Bool := (validC nc nr c 400 1).1
def allOk (nc nr : Nat) (l : List Con) : Bool := l.all (okC nc nr)
def fineE (valid : Bool) (nc nr : Nat) (l : List Con) : Int := if valid then if allOk nc nr l then 0 else 10 else 20
theorem allOk_drop (nc nr : Nat) (l : List Con) (k : Nat) (h : k < l.length) : allOk nc nr (l.drop k) = (okC nc nr l[k] && allOk nc nr (l.drop (k + 1))) := by
  unfold allOk; rw [List.drop_eq_getElem_cons h]; rfl
set_option maxRecDepth 100000 in
set_option maxHeartbeats 4000000 in
theorem hfine_calls (b : Kb) (p : KbA) (l : List Con) (ok : Nat → Prop) (A : Option Addr) (cap : Nat) (w : World) (m : Int) (hm : w.cell? ⟨2, 0, none⟩ = some (.int .i64 m)) (ht : ArgsTab w) (hb : KbR ok w b p)
    (h3 : b.incls.length ≤ 1000000) (h4 : b.roles.length ≤ 1000000) (h5 : b.facts.length ≤ 1000000) (h6 : b.links.length ≤ 1000000) (hl : ConsAt ok w l A) (hn : l.length ≤ 1000000) :
    Calls Tryz.prog 126 #[.agg #[.slice p.a0 b.cs.length p.c0, .slice p.a1 b.rs.length p.c1, .slice p.a2 b.is.length p.c2, .slice p.a3 b.incls.length p.c3, .slice p.a4 b.roles.length p.c4, .slice p.a5 b.facts.length p.c5, .slice p.a6 b.links.length p.c6], .slice A l.length cap] w fun e w' => e = .returned (.int .i64 (fineE (kbValidB b) b.cs.length b.rs.length l)) ∧ Keeps (fun _ => False) w w' := by
  have HV0 := Lib.hid (fun W (hk : Keeps (fun _ => False) w W) => kbValid_calls b p ok W m (hk.cell hm (fun h => h)) (ht.keep hk (fun h => h)) (hb.keep hk (fun _ _ h => h)) h3 h4 h5 h6)
  obtain ⟨a0, a1, a2, a3, a4, a5, a6, c0, c1, c2, c3, c4, c5, c6⟩ := p
  dsimp only at HV0 ⊢
  have HL := Lib.hid hl.lim
  have HT := Lib.hid ht
  clear hl hm ht hb
  go_enter Tryz.func126, Tryz.ntmps126
  go_wp2_with fail
  generalize hW0 : World.alloc _ _ = W0
  have hK0 : Keeps (fun _ => False) w W0 := by rw [← hW0]; repeat (first | exact Keeps.refl _ _ | refine Keeps.drewN ?_ _ | refine Keeps.drew ?_ | refine Keeps.alloc ?_ _ | refine Keeps.set ?_ (Or.inl (by rfl)) _)
  have hb0 : W0.heap[w.heap.size]? = some (.cells #[.slice a0 b.cs.length c0, .slice a1 b.rs.length c1, .slice a2 b.is.length c2, .slice a3 b.incls.length c3, .slice a4 b.roles.length c4, .slice a5 b.facts.length c5, .slice a6 b.links.length c6] 30 (0, 0)) := by rw [← hW0]; exact blkNew rfl
  clear hW0
  refine (HV0.out W0 hK0).mono ?_
  rintro e w1 ⟨rfl, hk1⟩
  have hK1 := hK0.then_ hk1
  have hb1 := hk1.blk hb0 (fun h => h)
  clear hb0 hk1 hK0
  cases hv : kbValidB b
  · go_wp2_with fail
    go_ret
    exact ⟨by simp [fineE, hv], hK1⟩
  · have hnl : b.cs.length ≤ 16 ∧ b.rs.length ≤ 6 := by simp only [kbValidB, validNamesB, Bool.and_eq_true, decide_eq_true_eq] at hv; omega
    have hcl : b.cs.length ≤ 100000 := by omega
    have hrl : b.rs.length ≤ 100000 := by omega
    have HVV := Lib.hid hv
    clear hv hnl
    go_wp2_with fail
    go_loopw [13] (fun i wr => ∃ k : Nat, k ≤ l.length ∧ i = .int .i64 k ∧ Hid (allOk b.cs.length b.rs.length l = allOk b.cs.length b.rs.length (l.drop k)) ∧ Hid (Keeps (fun _ => False) w1 wr)) (fun i _ => l.length - (intOf i).toNat)
    case atStart => exact ⟨0, Nat.zero_le _, rfl, rfl, Keeps.refl _ _⟩
    case round =>
      obtain ⟨k, hk, rfl, HI, HK⟩ := hrel
      have hbx := HK.out.blk hb1 (fun h => h)
      obtain ⟨x0, x1, x2, x3, x4, x5, x6⟩ := cells7 hbx
      have HBX := Lib.hid hbx
      by_cases hlt : k < l.length
      · obtain ⟨bb, o, rfl, hbb, hr⟩ := HL.out (by intro h; subst h; simp at hlt)
        have hkw := hK1.then_ HK.out
        obtain ⟨A', cap', e0, e1, e2, hc⟩ := (hr.keep hkw (fun _ _ h => h) hbb).at_ k hlt
        have hd := Lib.hid (allOk_drop b.cs.length b.rs.length l k hlt)
        have HC := Lib.hid hc
        generalize l[k] = d at *
        have HTW := Lib.hid (HT.out.keep hkw (fun h => h))
        have HKW := Lib.hid hkw
        have hsz := hkw.size
        have hw0 := blkLt hbx
        have hw1 : w.heap.size < wr.heap.size + 1 := by omega
        have hbl := World.block_lt_of_cell? wr _ e0
        simp only at hbl
        clear hr hc hbx hkw
        go_wp2_with fail
        generalize hW4 : World.alloc _ _ = W4
        have hK4 : Keeps (fun _ => False) wr W4 := by rw [← hW4]; repeat (first | exact Keeps.refl _ _ | refine Keeps.drewN ?_ _ | refine Keeps.drew ?_ | refine Keeps.alloc ?_ _ | refine Keeps.set ?_ (Or.inl (by rfl)) _)
        have hg4 : W4.heap[wr.heap.size + 1]? = some (.cells #[.int .i64 400] 3 (0, 0)) := by rw [← hW4]; exact blkNew (by simp)
        clear hW4
        refine (Valid_calls b.cs.length b.rs.length d A' cap' 400 (wr.heap.size + 1) (fun k => ok k ∧ k < w.heap.size) a0 a1 c0 c1 _ W4 (by omega) (by omega) (HC.out.keep hK4 (fun _ _ h => h)) (fun k hk => by omega) hg4 (HTW.out.keep hK4 (fun h => h)) hcl hrl).mono ?_
        rintro e w5 ⟨rfl, h5, hk5⟩
        have hk45 : Keeps (fun _ => False) wr w5 := (hK4.of0.then_ hk5).new (fun i hi => by omega)
        cases hvd : (validC b.cs.length b.rs.length d 400 1).1
        · go_wp2_with fail
          go_ret
          refine ⟨?_, (HKW.out.then_ hk45)⟩
          rw [HVV.out, show fineE true b.cs.length b.rs.length l = 10 by simp only [fineE]; rw [HI.out, hd.out]; simp [okC, hvd]]
          rfl
        · go_wp2_with fail
          go_roundw
          case rel => exact ⟨k + 1, by omega, by go_num, by unfold Hid; rw [HI.out, hd.out]; simp [okC, hvd], HK.out.then_ hk45⟩
          case measure => simp [intOf]; omega
      · obtain rfl : l.length = k := by omega
        go_wp2_with fail
        go_ret
        refine ⟨?_, hK1.then_ HK.out⟩
        rw [HVV.out, show fineE true b.cs.length b.rs.length l = 0 by simp only [fineE]; rw [HI.out]; simp [allOk]]
        rfl
end Go.Proofs.YtknonaboaaiabaaGreatDoor
/- Normal forms and marks keep what is valid; how many nodes they have; what a Space says of a concept. -/
namespace Go.Proofs.YtknonaboaaiabaaGreatDoor
open Go.RowKit
set_option linter.unusedVariables false
set_option linter.unusedSimpArgs false
theorem dual_facts {op : Int} (h : 0 ≤ op ∧ op ≤ 7) (h0 : op ≠ 0) (h3 : op ≠ 3) : arityZ (dualZ op) = arityZ op ∧ (0 ≤ dualZ op ∧ dualZ op ≤ 7) ∧ ∀ nc nr n, nodeOk nc nr (dualZ op) n = nodeOk nc nr op n := by
  have : op = 1 ∨ op = 2 ∨ op = 4 ∨ op = 5 ∨ op = 6 ∨ op = 7 := by omega
  rcases this with rfl | rfl | rfl | rfl | rfl | rfl <;> exact ⟨by decide, by decide, fun _ _ _ => rfl⟩
theorem fit_parts {nc nr : Nat} {op n : Int} {args : List Con} (h : fitC nc nr ⟨op, n, args⟩ = true) : (0 ≤ op ∧ op ≤ 7) ∧ (args.length : Int) = arityZ op ∧ nodeOk nc nr op n = true ∧ fitL nc nr args = true := by
  simp only [fitC, Bool.and_eq_true, decide_eq_true_eq] at h
  exact ⟨h.1.1.1, h.1.1.2, h.1.2, h.2⟩
theorem fit_mk {nc nr : Nat} {op n : Int} {args : List Con} (h1 : 0 ≤ op ∧ op ≤ 7) (h2 : (args.length : Int) = arityZ op) (h3 : nodeOk nc nr op n = true) (h4 : fitL nc nr args = true) : fitC nc nr ⟨op, n, args⟩ = true := by
  simp only [fitC, Bool.and_eq_true, decide_eq_true_eq]
  exact ⟨⟨⟨h1, h2⟩, h3⟩, h4⟩
mutual
theorem fit_nnf {nc nr : Nat} : ∀ {c : Con} (neg : Bool), fitC nc nr c = true → fitC nc nr (nnfC c neg) = true
  | ⟨op, n, args⟩, neg, h => by
    obtain ⟨hop, har, hn, hl⟩ := fit_parts h
    unfold nnfC
    by_cases h0 : op = 0
    · subst h0
      rw [if_pos rfl]
      have hleaf : fitC nc nr ⟨0, n, []⟩ = true := fit_mk (by omega) (by decide) hn rfl
      cases neg
      · exact hleaf
      · exact fit_mk (by omega) rfl rfl (by simp only [fitL, hleaf, Bool.and_self])
    · rw [if_neg h0]
      by_cases h3 : op = 3
      · rw [if_pos h3]
        subst h3
        exact fit_nnfH (!neg) hl (by intro h; subst h; simp [arityZ] at har)
      · rw [if_neg h3]
        obtain ⟨d1, d2, d3⟩ := dual_facts hop h0 h3
        have hlen : (nnfL args neg).length = args.length := by rw [nnfL_map, List.length_map]
        cases neg
        · exact fit_mk (op := op) hop (by rw [hlen]; exact har) hn (fit_nnfL false hl)
        · exact fit_mk (op := dualZ op) d2 (by rw [hlen, d1]; exact har) (by rw [d3]; exact hn) (fit_nnfL true hl)
theorem fit_nnfH {nc nr : Nat} : ∀ {l : List Con} (neg : Bool), fitL nc nr l = true → l ≠ [] → fitC nc nr (nnfH l neg) = true
  | c :: r, neg, h, _ => by
    simp only [fitL, Bool.and_eq_true] at h
    simp only [nnfH]
    exact fit_nnf neg h.1
  | [], _, _, h => absurd rfl h
theorem fit_nnfL {nc nr : Nat} : ∀ {l : List Con} (neg : Bool), fitL nc nr l = true → fitL nc nr (nnfL l neg) = true
  | [], _, _ => rfl
  | c :: r, neg, h => by
    simp only [fitL, Bool.and_eq_true] at h
    simp only [nnfL, fitL, Bool.and_eq_true]
    exact ⟨fit_nnf neg h.1, fit_nnfL neg h.2⟩
end
mutual
theorem size_nnf : ∀ (c : Con) (neg : Bool), (nnfC c neg).size ≤ 2 * c.size
  | ⟨op, n, args⟩, neg => by
    unfold nnfC
    split
    · cases neg <;> simp [Con.size, Con.sizes] <;> omega
    · split
      · have := size_nnfH args (!neg); simp only [Con.size]; omega
      · have := size_nnfL args neg
        simp only [Con.size]; omega
theorem size_nnfH : ∀ (l : List Con) (neg : Bool), (nnfH l neg).size ≤ 2 * Con.sizes l + 1
  | c :: r, neg => by have := size_nnf c neg; simp only [nnfH, Con.sizes]; omega
  | [], _ => by simp [nnfH, Con.size, Con.sizes]
theorem size_nnfL : ∀ (l : List Con) (neg : Bool), Con.sizes (nnfL l neg) ≤ 2 * Con.sizes l
  | [], _ => by simp [nnfL, Con.sizes]
  | c :: r, neg => by have := size_nnf c neg; have := size_nnfL r neg; simp only [nnfL, Con.sizes]; omega
end
theorem size_quant (c : Con) : (quantC c).size ≤ 2 * c.size + 2 := by
  obtain ⟨op, n, args⟩ := c
  unfold quantC
  split
  · omega
  · have := size_nnfH args true
    simp only [Con.size, Con.sizes, Con.args]; omega
theorem fit_quant {nc nr : Nat} {c : Con} (h : fitC nc nr c = true) (hop : c.op = 6 ∨ c.op = 7) : fitC nc nr (quantC c) = true := by
  obtain ⟨op, n, args⟩ := c
  simp only [Con.op] at hop
  obtain ⟨h1, har, hn, hl⟩ := fit_parts h
  unfold quantC
  split
  · exact h
  · simp only [Con.op, Con.n, Con.args]
    refine fit_mk (by omega) rfl ?_ ?_
    · rcases hop with rfl | rfl <;> simpa [nodeOk] using hn
    · simp only [fitL, Bool.and_true]
      exact fit_nnfH true hl (by intro h; subst h; rcases hop with rfl | rfl <;> simp [arityZ] at har)
theorem fit_atom {nc nr : Nat} {n : Int} (h0 : 0 ≤ n) (h1 : n < nc) : fitC nc nr ⟨0, n, []⟩ = true := fit_mk (by omega) (by decide) (by simp [nodeOk]; omega) rfl
end Go.Proofs.YtknonaboaaiabaaGreatDoor
