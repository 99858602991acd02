/- The law HierMarks, walked: it returns true if the reference's marks are the program's. -/
import Derived.Test.YtoafelppnagpbaaGreatDoorMarked
import Derived.Test.YtoafelppnagpbaaGreatDoorAwake
import Derived.Test.YtoafelppnagpbaaGreatDoorMarks
namespace Go.Proofs.YtoafelppnagpbaaGreatDoor
open Go.RowKit
set_option linter.unusedVariables false
set_option linter.unusedSimpArgs false
theorem fewM_parts {b : Kb} {more : List Con} (h : fewLawB b more = true) : b.incls.length ≤ 200 ∧ b.roles.length ≤ 200 ∧ b.facts.length ≤ 200 ∧ b.links.length ≤ 200 ∧ b.cs.length ≤ 100 ∧ b.rs.length ≤ 100 ∧ b.is.length ≤ 100 ∧ more.length ≤ 6 := by
  simp only [fewLawB, fewB, fewNamesR, fewL, Bool.and_eq_true, decide_eq_true_eq] at h
  obtain ⟨_, ⟨h1, h2, h3, h4, ⟨h5, h6, h7⟩, _⟩, h8⟩ := h
  exact ⟨h1, h2, h3, h4, h5.1, h6.1, h7.1, h8⟩
mutual
theorem sameC_refl : ∀ c : Con, sameC c c = true
  | ⟨op, n, args⟩ => by simp only [sameC, decide_true, Bool.true_and]; exact sameL_refl args
theorem sameL_refl : ∀ l : List Con, sameL l l = true
  | [] => by simp only [sameL]
  | c :: r => by simp only [sameL, sameC_refl c, sameL_refl r, Bool.and_self]
end
set_option maxRecDepth 100000 in
set_option maxHeartbeats 4000000 in
theorem hierMarks_walk (b : Kb) (p : KbA) (more : List Con) (A : Option Addr) (cap : Nat) (w : World) (m : Int) (hm : w.cell? ⟨2, 0, none⟩ = some (.int .i64 m)) (ht : ArgsTab w) (hd : DualsTab w) (hb : KbR (fun _ => True) w b p)
    (hl : ConsAt (fun _ => True) w more A) (hcap : more.length ≤ cap) (hreach : more.length * 40 ≤ 140737488351232)
    (hpure : fewLawB b more = true → markedE b more = marksE b more) (href : fewLawB b more = true → faultE b more = 0 → RefOk b more) (hsize : ∀ c ∈ (marksE b more).1, c.size ≤ 100000) (hlen : (marksE b more).1.length ≤ 100) :
    Calls Tryz.prog 3 #[.agg #[.slice p.a0 b.cs.length p.c0, .slice p.a1 b.rs.length p.c1, .slice p.a2 b.is.length p.c2, .slice p.a3 b.incls.length p.c3, .slice p.a4 b.roles.length p.c4, .slice p.a5 b.facts.length p.c5, .slice p.a6 b.links.length p.c6], .slice A more.length cap] w fun e w' => e = .returned (.bool true) ∧ Keeps (fun _ => False) w w' := by
  have HAW := Lib.hid (fun W (hk : Keeps (fun _ => False) w W) => awake_calls W m (hk.cell hm (fun h => h)) (ht.keep hk (fun h => h)) (hd.keep hk (fun h => h)))
  have HFEW := Lib.hid (fun W (hk : Keeps (fun _ => False) w W) => fewLaw_calls b p more (fun _ => True) A cap W (hb.keep hk (fun _ _ h => h)) (hl.keep hk (fun _ _ h => h)) (by omega))
  have HMR := Lib.hid (fun W (hk : Keeps (fun _ => False) w W) (hf : fewLawB b more = true) => marks_calls b p more (fun _ => True) A cap W m (hk.cell hm (fun h => h)) (ht.keep hk (fun h => h)) (hd.keep hk (fun h => h)) (hb.keep hk (fun _ _ h => h)) (by have := fewM_parts hf; omega) (by have := fewM_parts hf; omega) (by have := fewM_parts hf; omega) (by have := fewM_parts hf; omega) (hl.keep hk (fun _ _ h => h)) hcap (by have := fewM_parts hf; omega))
  have HMD := Lib.hid (fun W (hk : Keeps (fun _ => False) w W) (hf : fewLawB b more = true) => marked_calls b p more (fun _ => True) A cap W (hb.keep hk (fun _ _ h => h)) (hl.keep hk (fun _ _ h => h)) (by have := fewM_parts hf; omega) (by have := fewM_parts hf; omega) (by have := fewM_parts hf; omega) (by have := fewM_parts hf; omega) (by have := fewM_parts hf; omega) (by have := fewM_parts hf; omega) (by have := fewM_parts hf; omega) (by have := fewM_parts hf; omega) (href hf))
  have HPU := Lib.hid hpure
  have HSZ := Lib.hid hsize
  unfold RetMarks at HMR
  generalize markedE b more = md at *
  generalize marksE b more = mr at *
  generalize fewLawB b more = fv at *
  obtain ⟨a0, a1, a2, a3, a4, a5, a6, c0, c1, c2, c3, c4, c5, c6⟩ := p
  dsimp only at HFEW HMR HMD ⊢
  clear hm ht hd hb hl hpure href hsize
  go_enter Tryz.func3, Tryz.ntmps3
  go_wp2_with fail
  generalize hW0 : World.alloc _ _ = W0
  have hK0 : Keeps (fun _ => False) w W0 := by rw [← hW0]; repeat (first | exact Keeps.refl _ _ | refine Keeps.drewN ?_ _ | refine Keeps.drew ?_ | refine Keeps.alloc ?_ _ | refine Keeps.set ?_ (Or.inl (by rfl)) _)
  have hB0 : W0.heap[w.heap.size]? = some (.cells #[.slice a0 b.cs.length c0, .slice a1 b.rs.length c1, .slice a2 b.is.length c2, .slice a3 b.incls.length c3, .slice a4 b.roles.length c4, .slice a5 b.facts.length c5, .slice a6 b.links.length c6] 30 (0, 0)) := by rw [← hW0]; exact blkNew rfl
  clear hW0
  refine (HFEW.out W0 hK0).mono ?_
  clear HFEW
  rintro e w1 ⟨rfl, hk1⟩
  have HK1 := Lib.hid (hK0.then_ hk1)
  have HB1 := Lib.hid (hk1.blk hB0 (fun h => h))
  obtain ⟨x0, x1, x2, x3, x4, x5, x6⟩ := cells7 HB1.out
  have hl1 := blkLt HB1.out
  clear hB0 hk1 hK0
  cases fv
  · go_wp2_with fail
    refine (HAW.out _ HK1.out).mono ?_
    rintro e w2 ⟨rfl, hk2⟩
    go_wp2_with fail
    go_ret
    exact ⟨rfl, HK1.out.then_ hk2⟩
  · obtain rfl : md = mr := HPU.out rfl
    obtain ⟨ms, er⟩ := md
    dsimp only at HMR HMD HSZ hlen
    go_wp2_with fail
    refine (HMR.out w1 HK1.out (by trivial)).mono ?_
    clear HMR x0 x1 x2 x3 x4 x5 x6
    rintro e w2 ⟨v, rfl, ho, hk2⟩
    have HK2 := Lib.hid (HK1.out.then_ hk2)
    have HB2 := Lib.hid (hk2.blk HB1.out (fun h => h))
    obtain ⟨AA, capA, rfl, _, hca⟩ := ho.consAt
    have HCA := Lib.hid hca.lim
    obtain ⟨x0, x1, x2, x3, x4, x5, x6⟩ := cells7 HB2.out
    have hl2 := blkLt HB2.out
    clear ho hk2 hca
    go_wp2_with fail
    refine (HMD.out w2 HK2.out (by trivial)).mono ?_
    clear HMD x0 x1 x2 x3 x4 x5 x6
    rintro e w3 ⟨v3, rfl, ho3, hk3⟩
    have HK3 := Lib.hid (HK2.out.then_ hk3)
    obtain ⟨AB, capB, rfl, _, hcb⟩ := ho3.consAt
    have HCB := Lib.hid hcb.lim
    have HCA3 := Lib.hid (HCA.out.keep hk3 (fun _ _ h => h))
    clear ho3 hk3 hcb HCA
    go_wp2_with fail
    go_loopw [39] (fun i wr => ∃ k : Nat, k ≤ ms.length ∧ i = .int .i64 k ∧ Hid (Keeps (fun _ => False) w3 wr)) (fun i _ => ms.length - (intOf i).toNat)
    case atStart => exact ⟨0, Nat.zero_le _, rfl, Keeps.refl _ _⟩
    case round =>
      obtain ⟨k, hk, rfl, HK⟩ := hrel
      by_cases hlt : k < ms.length
      · obtain ⟨bb, o, A1, d1, rfl, hob, hbl, e0, e1, e2, hc⟩ := (HCA3.out.keep HK.out (fun _ _ h => h)).nth k hlt
        obtain ⟨bb2, oo2, A2, d2, rfl, hob2, hbl2, f0, f1, f2, hd⟩ := (HCB.out.keep HK.out (fun _ _ h => h)).nth k hlt
        have i1 : (k : Int) < ms.length := by omega
        have hsz := HSZ.out _ (List.getElem_mem hlt)
        generalize ms[k] = x at *
        have HCALL := Lib.hid (fun W (hkw : Keeps (fun _ => False) wr W) => by
          have h := same_calls (x.size + 1) x x A1 A2 d1 d2 (fun _ => True) W (by omega) hsz ((hc.keep hkw (fun _ _ h => h)).mono (fun _ _ => trivial)) ((hd.keep hkw (fun _ _ h => h)).mono (fun _ _ => trivial))
          rw [sameC_refl] at h
          exact h)
        clear hc hd
        have HE0 := Lib.hid (And.intro e0 (And.intro e1 e2))
        have HF0 := Lib.hid (And.intro f0 (And.intro f1 f2))
        have HP : Hid (∀ w', Keeps (fun _ => False) wr w' → w'.cell? ⟨bb, o + k * 3, none⟩ = some (.int .i64 x.op) ∧ w'.cell? ⟨bb, o + k * 3 + 1, none⟩ = some (.int .i64 x.n) ∧ w'.cell? ⟨bb, o + k * 3 + 2, none⟩ = some (.slice A1 x.args.length d1) ∧ w'.cell? ⟨bb2, oo2 + k * 3, none⟩ = some (.int .i64 x.op) ∧ w'.cell? ⟨bb2, oo2 + k * 3 + 1, none⟩ = some (.int .i64 x.n) ∧ w'.cell? ⟨bb2, oo2 + k * 3 + 2, none⟩ = some (.slice A2 x.args.length d2)) := fun w' hkw =>
          ⟨hkw.cell HE0.out.1 (fun h => h), hkw.cell HE0.out.2.1 (fun h => h), hkw.cell HE0.out.2.2 (fun h => h), hkw.cell HF0.out.1 (fun h => h), hkw.cell HF0.out.2.1 (fun h => h), hkw.cell HF0.out.2.2 (fun h => h)⟩
        clear e0 e1 e2 f0 f1 f2
        go_wp2_with fail
        go_region_held3 (fun w' => w'.cell? ⟨bb, o + k * 3, none⟩ = some (.int .i64 x.op) ∧ w'.cell? ⟨bb, o + k * 3 + 1, none⟩ = some (.int .i64 x.n) ∧ w'.cell? ⟨bb, o + k * 3 + 2, none⟩ = some (.slice A1 x.args.length d1) ∧ w'.cell? ⟨bb2, oo2 + k * 3, none⟩ = some (.int .i64 x.op) ∧ w'.cell? ⟨bb2, oo2 + k * 3 + 1, none⟩ = some (.int .i64 x.n) ∧ w'.cell? ⟨bb2, oo2 + k * 3 + 2, none⟩ = some (.slice A2 x.args.length d2))
          (first
            | exact HP.out _ (Keeps.refl _ _)
            | exact HP.out _ (Keeps.refl _ _).drew
            | exact HP.out _ ((Keeps.refl _ _).drew.then_ hk5))
          ((go_at_call 10; refine (HCALL.out _ (by first | exact Keeps.refl _ _ | exact (Keeps.refl _ _).drew)).mono ?_; clear HCALL; rintro e w5 ⟨rfl, hk5⟩))
        have hkT : Keeps (fun _ => False) wr w5 := (Keeps.refl (fun _ => False) wr).drew.then_ hk5
        go_wp2_with fail
        go_roundw
        case rel => exact ⟨k + 1, by omega, by go_num, HK.out.then_ hkT⟩
        case measure => simp [intOf]; omega
      · obtain rfl : k = ms.length := by omega
        go_wp2_with fail
        refine (HAW.out _ (HK3.out.then_ HK.out)).mono ?_
        rintro e w6 ⟨rfl, hk6⟩
        go_wp2_with fail
        go_ret
        exact ⟨rfl, (HK3.out.then_ HK.out).then_ hk6⟩
end Go.Proofs.YtoafelppnagpbaaGreatDoor
