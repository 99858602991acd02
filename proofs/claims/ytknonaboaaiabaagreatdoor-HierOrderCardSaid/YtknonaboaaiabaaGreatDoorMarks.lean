/- What a valid knowledge base gives the marks; what hier.Open computes. -/
import Derived.Test.YtknonaboaaiabaaGreatDoorSpaceW
import Derived.Test.YtknonaboaaiabaaGreatDoorFit
namespace Go.Proofs.YtknonaboaaiabaaGreatDoor
open Go.RowKit
set_option linter.unusedVariables false
set_option linter.unusedSimpArgs false
mutual
theorem validC_size {nc nr : Nat} : ∀ {c : Con} {x y : Int}, (validC nc nr c x y).1 = true → (validC nc nr c x y).2 = x - c.size ∧ 0 ≤ x - c.size
  | ⟨op, n, args⟩, x, y, h => by
    simp only [validC] at h ⊢
    split at h
    · simp at h
    · rename_i hb
      rw [if_neg hb]
      split at h
      · rename_i hn
        rw [if_pos hn]
        have := validL_size h
        simp only [Con.size]
        push_cast
        constructor
        · rw [this.1]; omega
        · have := this.2 (by omega); omega
      · simp at h
theorem validL_size {nc nr : Nat} : ∀ {l : List Con} {x y : Int}, (validL nc nr l x y).1 = true → (validL nc nr l x y).2 = x - Con.sizes l ∧ (0 ≤ x → 0 ≤ x - Con.sizes l)
  | [], x, y, _ => by simp [validL, Con.sizes]
  | c :: r, x, y, h => by
    simp only [validL] at h ⊢
    split at h
    · rename_i hc
      rw [if_pos hc]
      have h1 := validC_size hc
      have h2 := validL_size h
      simp only [Con.sizes]
      push_cast
      rw [h2.1]
      constructor
      · rw [h1.1]; omega
      · intro _; have := h2.2 (by rw [h1.1]; exact h1.2); rw [h1.1] at this; omega
    · rename_i hc; exact absurd h hc
end
def inclsSz (l : List (Con × Con)) : Nat := (l.map fun p => p.1.size + p.2.size).sum
def factsSz (l : List (Int × Con)) : Nat := (l.map fun p => p.2.size).sum
theorem inclsV_facts {nc nr : Nat} : ∀ {l : List (Con × Con)} {x : Int}, (inclsV nc nr l x).1 = true → (inclsV nc nr l x).2 = x - inclsSz l ∧ (0 ≤ x → 0 ≤ x - inclsSz l) ∧ ∀ p ∈ l, fitC nc nr p.1 = true ∧ fitC nc nr p.2 = true
  | [], x, _ => by simp [inclsV, inclsSz]
  | p :: r, x, h => by
    simp only [inclsV] at h ⊢
    split at h
    · rename_i h1
      split at h
      · rename_i h2
        rw [if_pos h1, if_pos h2]
        have a1 := validC_size h1
        have a2 := validC_size h2
        obtain ⟨a3, a4, a5⟩ := inclsV_facts h
        simp only [inclsSz, List.map_cons, List.sum_cons] at a3 a4 ⊢
        push_cast
        rw [a3]
        refine ⟨by rw [a2.1, a1.1]; omega, fun h0 => ?_, fun q hq => ?_⟩
        · have := a4 (by rw [a2.1]; exact a2.2); rw [a2.1, a1.1] at this; omega
        · rcases List.mem_cons.1 hq with rfl | hq
          · exact ⟨fit_of_valid h1, fit_of_valid h2⟩
          · exact a5 q hq
      · rename_i h2; exact absurd h h2
    · rename_i h1; exact absurd h h1
theorem factsV_facts {nc nr ni : Nat} : ∀ {l : List (Int × Con)} {x : Int}, (factsV nc nr ni l x).1 = true → (factsV nc nr ni l x).2 = x - factsSz l ∧ (0 ≤ x → 0 ≤ x - factsSz l) ∧ ∀ p ∈ l, fitC nc nr p.2 = true
  | [], x, _ => by simp [factsV, factsSz]
  | p :: r, x, h => by
    simp only [factsV] at h ⊢
    split at h
    · rename_i h0
      rw [if_pos h0]
      split at h
      · rename_i h1
        rw [if_pos h1]
        have a1 := validC_size h1
        obtain ⟨a3, a4, a5⟩ := factsV_facts h
        simp only [factsSz, List.map_cons, List.sum_cons] at a3 a4 ⊢
        push_cast
        rw [a3]
        refine ⟨by rw [a1.1]; omega, fun h0 => ?_, fun q hq => ?_⟩
        · have := a4 (by rw [a1.1]; exact a1.2); rw [a1.1] at this; omega
        · rcases List.mem_cons.1 hq with rfl | hq
          · exact fit_of_valid h1
          · exact a5 q hq
      · rename_i h1; exact absurd h h1
    · simp at h
theorem names_small {cs rs is : List ByteArray} (h : validNamesB cs rs is = true) : cs.length ≤ 16 ∧ rs.length ≤ 6 ∧ is.length ≤ 10 ∧ ∀ s ∈ cs ++ rs ++ is, s.size ≤ 12 := by
  simp only [validNamesB, Bool.and_eq_true, decide_eq_true_eq] at h
  obtain ⟨⟨⟨h1, h2⟩, h3⟩, h4⟩ := h
  refine ⟨h1, h2, h3, fun s hs => ?_⟩
  obtain ⟨i, hi, rfl⟩ := List.getElem_of_mem hs
  unfold namesFrom at h4
  rw [List.all_eq_true] at h4
  have := h4 i (by rw [List.mem_range']; exact ⟨i, by omega, by omega⟩)
  simp only [Bool.and_eq_true, List.getD, List.getElem?_eq_getElem hi, Option.getD_some, nameB, decide_eq_true_eq] at this
  exact this.1.1.1.1.2
theorem sizes_append (a b : List Con) : Con.sizes (a ++ b) = Con.sizes a + Con.sizes b := by
  induction a with
  | nil => simp [Con.sizes]
  | cons c r ih => simp only [List.cons_append, Con.sizes, ih]; omega
theorem sizes_either (l : List (Con × Con)) : Con.sizes (l.map eitherC) ≤ l.length + 2 * inclsSz l := by
  induction l with
  | nil => simp [Con.sizes]
  | cons p r ih =>
    have h1 := size_nnf p.1 true
    have h2 := size_nnf p.2 false
    simp only [List.map_cons, Con.sizes, eitherC, Con.size, inclsSz, List.sum_cons, List.length_cons] at ih ⊢
    omega
theorem sizes_facts (l : List (Int × Con)) : Con.sizes (l.map fun x => nnfC x.2 false) ≤ 2 * factsSz l := by
  induction l with
  | nil => simp [Con.sizes]
  | cons p r ih =>
    have h1 := size_nnf p.2 false
    simp only [List.map_cons, Con.sizes, factsSz, List.sum_cons] at ih ⊢
    omega
theorem sizes_more (l : List Con) (h : ∀ c ∈ l, c.size ≤ 400) : Con.sizes (l.map (nnfC · false)) ≤ 800 * l.length := by
  induction l with
  | nil => simp [Con.sizes]
  | cons c r ih =>
    have h1 := size_nnf c false
    have h2 := h c List.mem_cons_self
    have := ih (fun d hd => h d (List.mem_cons_of_mem _ hd))
    simp only [List.map_cons, Con.sizes, List.length_cons]
    omega
theorem okC_facts {nc nr : Nat} {c : Con} (h : okC nc nr c = true) : fitC nc nr c = true ∧ c.size ≤ 400 := ⟨fit_of_valid h, by have := validC_size h; omega⟩
/-- All that a knowledge base and concepts give when no fault is found. -/
structure Sound (b : Kb) (more : List Con) : Prop where
  cs : b.cs.length ≤ 16
  rs : b.rs.length ≤ 6
  names : ∀ s ∈ b.cs ++ b.rs ++ b.is, s.size ≤ 12
  cnt : kbCount b ≤ 60
  incls : ∀ x ∈ b.incls, fitC b.cs.length b.rs.length x.1 = true ∧ fitC b.cs.length b.rs.length x.2 = true
  facts : ∀ x ∈ b.facts, fitC b.cs.length b.rs.length x.2 = true
  extra : ∀ x ∈ more, fitC b.cs.length b.rs.length x = true ∧ x.size ≤ 400
  tot : more.length ≤ 100 → Con.sizes (allC b more) ≤ 100000
theorem fine_zero {v : Bool} {nc nr : Nat} {l : List Con} (h : fineE v nc nr l = 0) : v = true ∧ allOk nc nr l = true := by
  unfold fineE at h
  split at h
  · rename_i hv
    split at h
    · rename_i ha; exact ⟨hv, ha⟩
    · cases h
  · cases h
theorem sound_of {b : Kb} {more : List Con} (h : fineE (kbValidB b) b.cs.length b.rs.length more = 0) : Sound b more := by
  obtain ⟨hv, ha⟩ := fine_zero h
  simp only [kbValidB, kbBody, Bool.and_eq_true, decide_eq_true_eq] at hv
  obtain ⟨⟨h1, h2⟩, ⟨⟨h3, h4⟩, h5⟩, h6⟩ := hv
  obtain ⟨n1, n2, n3, n4⟩ := names_small h1
  obtain ⟨i1, i2, i3⟩ := inclsV_facts h3
  obtain ⟨f1, f2, f3⟩ := factsV_facts h5
  have hm : ∀ x ∈ more, fitC b.cs.length b.rs.length x = true ∧ x.size ≤ 400 := fun x hx => okC_facts (List.all_eq_true.1 ha x hx)
  refine ⟨n1, n2, n4, h2, i3, f3, hm, fun hl => ?_⟩
  have e1 := i2 (by omega)
  have e2 := f2 (by rw [i1]; exact e1)
  rw [i1] at e2
  have s1 := sizes_either b.incls
  have s2 := sizes_facts b.facts
  have s3 := sizes_more more (fun c hc => (hm c hc).2)
  unfold allC
  rw [sizes_append, sizes_append]
  unfold kbCount at h2
  omega
def openE (b : Kb) (more : List Con) : Int := if fineE (kbValidB b) b.cs.length b.rs.length more = 0 then (if (marksC b more).length ≤ 8 then 0 else 3) else fineE (kbValidB b) b.cs.length b.rs.length more
def RetOpen (b : Kb) (p : KbA) (more : List Con) (w : World) (e : Ending) (w' : World) : Prop :=
  Keeps (fun _ => False) w w' ∧ ((openE b more ≠ 0 ∧ e = .returned (.tuple #[.pointer none, .int .i64 (openE b more)])) ∨
    (openE b more = 0 ∧ ∃ g m mv, e = .returned (.tuple #[.pointer (some ⟨g, 0, none⟩), .int .i64 0]) ∧ w.heap.size ≤ g ∧ SpaceR w' g b p mv m (plOf b.cs b.rs (marksC b more)) ∧ OwnCons w' w.heap.size mv (marksC b more)))
set_option maxRecDepth 100000 in
set_option maxHeartbeats 4000000 in
theorem open_calls (b : Kb) (p : KbA) (more : List Con) (ok : Nat → Prop) (A : Option Addr) (cap : Nat) (w : World) (m : Int) (hm : w.cell? ⟨2, 0, none⟩ = some (.int .i64 m)) (ht : ArgsTab w) (hd : DualsTab w) (hb : KbR ok w b p)
    (h3 : b.incls.length ≤ 1000) (h4 : b.roles.length ≤ 1000) (h5 : b.facts.length ≤ 1000) (h6 : b.links.length ≤ 1000) (hl : ConsAt ok w more A) (hcap : more.length ≤ cap) (hn : more.length ≤ 100) :
    Calls Tryz.prog 124 #[.agg #[.slice p.a0 b.cs.length p.c0, .slice p.a1 b.rs.length p.c1, .slice p.a2 b.is.length p.c2, .slice p.a3 b.incls.length p.c3, .slice p.a4 b.roles.length p.c4, .slice p.a5 b.facts.length p.c5, .slice p.a6 b.links.length p.c6], .slice A more.length cap] w (RetOpen b p more w) := by
  have HFI := Lib.hid (fun W (hk : Keeps (fun _ => False) w W) => hfine_calls b p more ok A cap W m (hk.cell hm (fun h => h)) (ht.keep hk (fun h => h)) (hb.keep hk (fun _ _ h => h)) (by omega) (by omega) (by omega) (by omega) (hl.keep hk (fun _ _ h => h)) (by omega))
  have HSP := Lib.hid (fun W (hk : Keeps (fun _ => False) w W) (hs : Sound b more) => space_calls b p more ok A cap W (hb.keep hk (fun _ _ h => h)) (hd.keep hk (fun h => h)) (hl.keep hk (fun _ _ h => h)) hcap (fun s hs1 => hs.names s (by simp [hs1])) (fun s hs1 => hs.names s (by simp [hs1])) (by have := hs.cs; omega) (by have := hs.rs; omega) hs.incls hs.facts (fun x hx => (hs.extra x hx).1) h3 h5 (by omega) (hs.tot hn))
  have HSO := Lib.hid (@sound_of b more)
  have HOE : Hid (openE b more = if fineE (kbValidB b) b.cs.length b.rs.length more = 0 then (if (marksC b more).length ≤ 8 then 0 else 3) else fineE (kbValidB b) b.cs.length b.rs.length more) := rfl
  unfold RetSpace at HSP
  unfold RetOpen
  generalize openE b more = oe at *
  generalize fineE (kbValidB b) b.cs.length b.rs.length more = fe at *
  generalize marksC b more = ms at *
  obtain ⟨a0, a1, a2, a3, a4, a5, a6, c0, c1, c2, c3, c4, c5, c6⟩ := p
  dsimp only at HFI HSP ⊢
  clear hm ht hd hb hl
  go_enter Tryz.func124, Tryz.ntmps124
  go_wp2_with fail
  generalize hW0 : World.alloc _ _ = W0
  have hK0 : Keeps (fun _ => False) w W0 := by rw [← hW0]; repeat (first | exact Keeps.refl _ _ | refine Keeps.drewN ?_ _ | refine Keeps.drew ?_ | refine Keeps.alloc ?_ _ | refine Keeps.set ?_ (Or.inl (by rfl)) _)
  have hb0 : W0.heap[w.heap.size]? = some (.cells #[.slice a0 b.cs.length c0, .slice a1 b.rs.length c1, .slice a2 b.is.length c2, .slice a3 b.incls.length c3, .slice a4 b.roles.length c4, .slice a5 b.facts.length c5, .slice a6 b.links.length c6] 30 (0, 0)) := by rw [← hW0]; exact blkNew rfl
  clear hW0
  refine (HFI.out W0 hK0).mono ?_
  clear HFI
  rintro e w1 ⟨rfl, hk1⟩
  have hK1 := hK0.then_ hk1
  have hb1 := hk1.blk hb0 (fun h => h)
  obtain ⟨x0, x1, x2, x3, x4, x5, x6⟩ := cells7 hb1
  clear hb0 hk1 hK0
  by_cases hfe : fe = 0
  · subst hfe
    have hso := HSO.out rfl
    go_wp2_with fail
    refine (HSP.out w1 hK1 hso).mono ?_
    clear HSP
    rintro e w2 ⟨g, mm, mv, rfl, hg, hsp, hoc, hk2⟩
    have hK2 := hK1.then_ hk2
    have HOE2 : oe = if ms.length ≤ 8 then 0 else 3 := by have := HOE.out; simpa using this
    have hle := hK1.size
    have HSPP := Lib.hid hsp
    have HOCC := Lib.hid hoc
    clear hsp hoc HOE
    by_cases h8 : ms.length ≤ 8
    · rw [if_pos h8] at HOE2
      have HO := Lib.hid HOE2
      clear HOE2
      go_wp2_with fail
      exact bodyPost_ret (v := .tuple #[.pointer (some ⟨g, 0, none⟩), .int .i64 0]) (by simp [results, Tryz.results124, go_sem]) rfl ⟨hK2, .inr ⟨HO.out, g, mm, mv, rfl, by omega, HSPP.out, HOCC.out.lower hle⟩⟩
    · rw [if_neg h8] at HOE2
      have HO := Lib.hid HOE2
      clear HOE2
      go_wp2_with fail
      exact bodyPost_ret (v := .tuple #[.pointer none, .int .i64 3]) (by simp [results, Tryz.results124, go_sem]) rfl ⟨hK2, .inl ⟨by rw [HO.out]; decide, by rw [HO.out]⟩⟩
  · have HO : Hid (oe = fe) := by unfold Hid; rw [HOE.out, if_neg hfe]
    clear HOE HSO HSP
    go_wp2_with fail
    exact bodyPost_ret (v := .tuple #[.pointer none, .int .i64 fe]) (by simp [results, Tryz.results124, go_sem]) rfl ⟨hK1, .inl ⟨by rw [HO.out]; exact hfe, by rw [HO.out]⟩⟩
end Go.Proofs.YtknonaboaaiabaaGreatDoor
/- What hier.Marks computes. -/
namespace Go.Proofs.YtknonaboaaiabaaGreatDoor
open Go.RowKit
set_option linter.unusedVariables false
set_option linter.unusedSimpArgs false
def marksE (b : Kb) (more : List Con) : List Con × Int := if openE b more = 0 then (if allOk b.cs.length b.rs.length (marksC b more) then (marksC b more, 0) else ([], 2)) else ([], openE b more)
def RetMarks (l : List Con) (err : Int) (w : World) (e : Ending) (w' : World) : Prop :=
  ∃ v, e = .returned (.tuple #[v, .int .i64 err]) ∧ OwnCons w' w.heap.size v l ∧ Keeps (fun _ => False) w w'
theorem open_small {b : Kb} {more : List Con} (h : openE b more = 0) : (marksC b more).length ≤ 8 ∧ fineE (kbValidB b) b.cs.length b.rs.length more = 0 := by
  unfold openE at h
  split at h
  · rename_i hf
    split at h
    · rename_i h8; exact ⟨h8, hf⟩
    · cases h
  · rename_i hf; exact absurd h hf
set_option maxRecDepth 100000 in
set_option maxHeartbeats 4000000 in
theorem marks_calls (b : Kb) (p : KbA) (more : List Con) (ok : Nat → Prop) (A : Option Addr) (cap : Nat) (w : World) (m : Int) (hm : w.cell? ⟨2, 0, none⟩ = some (.int .i64 m)) (ht : ArgsTab w) (hd : DualsTab w) (hb : KbR ok w b p)
    (h3 : b.incls.length ≤ 1000) (h4 : b.roles.length ≤ 1000) (h5 : b.facts.length ≤ 1000) (h6 : b.links.length ≤ 1000) (hl : ConsAt ok w more A) (hcap : more.length ≤ cap) (hn : more.length ≤ 100) :
    Calls Tryz.prog 72 #[.agg #[.slice p.a0 b.cs.length p.c0, .slice p.a1 b.rs.length p.c1, .slice p.a2 b.is.length p.c2, .slice p.a3 b.incls.length p.c3, .slice p.a4 b.roles.length p.c4, .slice p.a5 b.facts.length p.c5, .slice p.a6 b.links.length p.c6], .slice A more.length cap] w (RetMarks (marksE b more).1 (marksE b more).2 w) := by
  have HOP := Lib.hid (fun W (hk : Keeps (fun _ => False) w W) => open_calls b p more ok A cap W m (hk.cell hm (fun h => h)) (ht.keep hk (fun h => h)) (hd.keep hk (fun h => h)) (hb.keep hk (fun _ _ h => h)) h3 h4 h5 h6 (hl.keep hk (fun _ _ h => h)) hcap hn)
  have HTW := Lib.hid ht
  have HME : Hid (marksE b more = if openE b more = 0 then (if allOk b.cs.length b.rs.length (marksC b more) then (marksC b more, 0) else ([], 2)) else ([], openE b more)) := rfl
  have HSM := Lib.hid (@open_small b more)
  unfold RetOpen at HOP
  generalize marksE b more = me at *
  obtain ⟨me1, me2⟩ := me
  generalize openE b more = oe at *
  generalize marksC b more = ms at *
  have hcsl : oe = 0 → b.cs.length ≤ 16 ∧ b.rs.length ≤ 6 := fun h => by have := sound_of (HSM.out h).2; exact ⟨this.cs, this.rs⟩
  have HCS := Lib.hid hcsl
  obtain ⟨a0, a1, a2, a3, a4, a5, a6, c0, c1, c2, c3, c4, c5, c6⟩ := p
  dsimp only at HOP ⊢
  clear hm ht hd hb hl hcsl
  go_enter Tryz.func72, Tryz.ntmps72
  go_wp2_with fail
  generalize hW0 : World.alloc _ _ = W0
  have hK0 : Keeps (fun _ => False) w W0 := by rw [← hW0]; repeat (first | exact Keeps.refl _ _ | refine Keeps.drewN ?_ _ | refine Keeps.drew ?_ | refine Keeps.alloc ?_ _ | refine Keeps.set ?_ (Or.inl (by rfl)) _)
  have hb0 : W0.heap[w.heap.size]? = some (.cells #[.slice a0 b.cs.length c0, .slice a1 b.rs.length c1, .slice a2 b.is.length c2, .slice a3 b.incls.length c3, .slice a4 b.roles.length c4, .slice a5 b.facts.length c5, .slice a6 b.links.length c6] 30 (0, 0)) := by rw [← hW0]; exact blkNew rfl
  clear hW0
  refine (HOP.out W0 hK0).mono ?_
  clear HOP
  rintro e w1 ⟨hk1, hr⟩
  have hK1 := hK0.then_ hk1
  have hb1 := hk1.blk hb0 (fun h => h)
  have hz1 := hK0.size
  clear hb0 hk1 hK0
  rcases hr with ⟨hoe, rfl⟩ | ⟨rfl, g, mm, mv, rfl, hg, hsp, hoc⟩
  · have HO : Hid ((me1, me2) = (([] : List Con), oe)) := by unfold Hid; rw [HME.out, if_neg hoe]
    have HNE := Lib.hid hoe
    clear HME HSM HCS
    go_wp2_with fail
    have ho := HO.out
    simp only [Prod.mk.injEq] at ho
    obtain ⟨rfl, rfl⟩ := ho
    exact bodyPost_ret (v := .tuple #[.slice none 0 0, .int .i64 me2]) (by simp [results, Tryz.results72, go_sem]) rfl ⟨_, rfl, OwnCons.nil _ _, hK1⟩
  · have h8 := (HSM.out rfl).1
    obtain ⟨hcl, hrl⟩ := HCS.out rfl
    have HMM : Hid ((me1, me2) = if allOk b.cs.length b.rs.length ms then (ms, 0) else (([] : List Con), (2 : Int))) := by unfold Hid; rw [HME.out, if_pos rfl]
    obtain ⟨AA, capA, rfl, hcapA, hca⟩ := hoc.consAt
    have HCA := Lib.hid hca.lim
    have HOC := Lib.hid (hoc.lower hz1)
    have HSB := Lib.hid hsp.box
    have g7 : w1.cell? ⟨g, 7, none⟩ = some (.slice AA ms.length capA) := by rw [blkCell hsp.box]; rfl
    have HB1 := Lib.hid hb1
    clear HME HSM HCS hca hoc hsp hb1 hz1
    go_wp2_with fail
    go_loopw [25] (fun i wr => ∃ k : Nat, k ≤ ms.length ∧ i = .int .i64 k ∧ Hid (allOk b.cs.length b.rs.length ms = allOk b.cs.length b.rs.length (ms.drop k)) ∧ Hid (Keeps (fun _ => False) w1 wr)) (fun i _ => ms.length - (intOf i).toNat)
    case atStart => exact ⟨0, Nat.zero_le _, rfl, rfl, Keeps.refl _ _⟩
    case round =>
      obtain ⟨k, hk, rfl, HI, HK⟩ := hrel
      have hbx := HK.out.blk HB1.out (fun h => h)
      obtain ⟨x0, x1, x2, x3, x4, x5, x6⟩ := cells7 hbx
      have hw0 := blkLt hbx
      by_cases hlt : k < ms.length
      · obtain ⟨bb, o, A', cap', rfl, hob, hbl, e0, e1, e2, hc⟩ := (HCA.out.keep HK.out (fun _ _ h => h)).get k hlt
        have hd := Lib.hid (allOk_drop b.cs.length b.rs.length ms k hlt)
        have HC := Lib.hid hc
        generalize ms[k] = d at *
        have HTR := Lib.hid (HTW.out.keep (hK1.then_ HK.out) (fun h => h))
        have hsz := HK.out.size
        have hw1 : w.heap.size < wr.heap.size + 1 := by omega
        clear hc hbx
        go_wp2_with fail
        generalize hW4 : World.alloc _ _ = W4
        have hK4 : Keeps (fun _ => False) wr W4 := by rw [← hW4]; repeat (first | exact Keeps.refl _ _ | refine Keeps.drewN ?_ _ | refine Keeps.drew ?_ | refine Keeps.alloc ?_ _ | refine Keeps.set ?_ (Or.inl (by rfl)) _)
        have hg4 : W4.heap[wr.heap.size + 1]? = some (.cells #[.int .i64 400] 3 (0, 0)) := by rw [← hW4]; exact blkNew (by simp)
        clear hW4
        refine (Valid_calls b.cs.length b.rs.length d A' cap' 400 (wr.heap.size + 1) (fun k => W0.heap.size ≤ k ∧ k < w1.heap.size) a0 a1 c0 c1 _ W4 (by omega) (by omega) (HC.out.keep hK4 (fun _ _ h => h)) (fun k hk => by omega) hg4 (HTR.out.keep hK4 (fun h => h)) (by omega) (by omega)).mono ?_
        rintro e w5 ⟨rfl, h5, hk5⟩
        have hk45 : Keeps (fun _ => False) wr w5 := (hK4.of0.then_ hk5).new (fun i hi => by omega)
        cases hvd : (validC b.cs.length b.rs.length d 400 1).1
        · have HO : Hid ((me1, me2) = (([] : List Con), (2 : Int))) := by unfold Hid; rw [HMM.out, HI.out, hd.out]; simp [okC, hvd]
          clear HMM
          go_wp2_with fail
          have ho := HO.out
          simp only [Prod.mk.injEq] at ho
          obtain ⟨rfl, rfl⟩ := ho
          exact bodyPost_ret (v := .tuple #[.slice none 0 0, .int .i64 2]) (by simp [results, Tryz.results72, go_sem]) rfl ⟨_, rfl, OwnCons.nil _ _, (hK1.then_ HK.out).then_ hk45⟩
        · go_wp2_with fail
          go_roundw
          case rel => exact ⟨k + 1, by omega, by go_num, by unfold Hid; rw [HI.out, hd.out]; simp [okC, hvd], HK.out.then_ hk45⟩
          case measure => simp [intOf]; omega
      · obtain rfl : ms.length = k := by omega
        have HO : Hid ((me1, me2) = (ms, (0 : Int))) := by unfold Hid; rw [HMM.out, HI.out]; simp [allOk]
        have g7r : wr.cell? ⟨g, 7, none⟩ = some (.slice AA ms.length capA) := by rw [blkCell (HK.out.blk HSB.out (fun h => h))]; rfl
        have HOR := Lib.hid (HOC.out.keep HK.out (fun _ _ h => h))
        clear HMM HI g7
        go_wp2_with fail
        have ho := HO.out
        simp only [Prod.mk.injEq] at ho
        obtain ⟨rfl, rfl⟩ := ho
        exact bodyPost_ret (v := .tuple #[.slice AA me1.length capA, .int .i64 0]) (by simp [results, Tryz.results72, go_sem]) rfl ⟨_, rfl, HOR.out, hK1.then_ HK.out⟩
end Go.Proofs.YtknonaboaaiabaaGreatDoor
