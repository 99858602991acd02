/- What hier.Marks computes. -/
import Derived.Test.YtoafelppnagpbaaDoorOpen
namespace Go.Proofs.YtoafelppnagpbaaDoor
open Go.RowKit
set_option linter.unusedVariables false
set_option linter.unusedSimpArgs false
def marksE (b : Kb) (more : List Con) : List Con × Int := if openE b more = 0 then (if allOk b.cs.length b.rs.length (marksC b more) then (marksC b more, 0) else ([], 2)) else ([], openE b more)
def RetMarks (l : List Con) (err : Int) (w : World) (e : Ending) (w' : World) : Prop :=
  ∃ v, e = .returned (.tuple #[v, .int .i64 err]) ∧ OwnCons w' w.heap.size v l ∧ Keeps (fun _ => False) w w'
theorem open_small {b : Kb} {more : List Con} (h : openE b more = 0) : (marksC b more).length ≤ 8 ∧ fineE (kbValidB b) b.cs.length b.rs.length more = 0 := by
  unfold openE at h
  split at h
  · rename_i hf
    split at h
    · rename_i h8; exact ⟨h8, hf⟩
    · cases h
  · rename_i hf; exact absurd h hf
set_option maxRecDepth 100000 in
set_option maxHeartbeats 4000000 in
theorem marks_calls (b : Kb) (p : KbA) (more : List Con) (ok : Nat → Prop) (A : Option Addr) (cap : Nat) (w : World) (m : Int) (hm : w.cell? ⟨2, 0, none⟩ = some (.int .i64 m)) (ht : ArgsTab w) (hd : DualsTab w) (hb : KbR ok w b p)
    (h3 : b.incls.length ≤ 1000) (h4 : b.roles.length ≤ 1000) (h5 : b.facts.length ≤ 1000) (h6 : b.links.length ≤ 1000) (hl : ConsAt ok w more A) (hcap : more.length ≤ cap) (hn : more.length ≤ 100) :
    Calls Tryd.prog 16 #[.agg #[.slice p.a0 b.cs.length p.c0, .slice p.a1 b.rs.length p.c1, .slice p.a2 b.is.length p.c2, .slice p.a3 b.incls.length p.c3, .slice p.a4 b.roles.length p.c4, .slice p.a5 b.facts.length p.c5, .slice p.a6 b.links.length p.c6], .slice A more.length cap] w (RetMarks (marksE b more).1 (marksE b more).2 w) := by
  have HOP := Lib.hid (fun W (hk : Keeps (fun _ => False) w W) => open_calls b p more ok A cap W m (hk.cell hm (fun h => h)) (ht.keep hk (fun h => h)) (hd.keep hk (fun h => h)) (hb.keep hk (fun _ _ h => h)) h3 h4 h5 h6 (hl.keep hk (fun _ _ h => h)) hcap hn)
  have HTW := Lib.hid ht
  have HME : Hid (marksE b more = if openE b more = 0 then (if allOk b.cs.length b.rs.length (marksC b more) then (marksC b more, 0) else ([], 2)) else ([], openE b more)) := rfl
  have HSM := Lib.hid (@open_small b more)
  unfold RetOpen at HOP
  generalize marksE b more = me at *
  obtain ⟨me1, me2⟩ := me
  generalize openE b more = oe at *
  generalize marksC b more = ms at *
  have hcsl : oe = 0 → b.cs.length ≤ 16 ∧ b.rs.length ≤ 6 := fun h => by have := sound_of (HSM.out h).2; exact ⟨this.cs, this.rs⟩
  have HCS := Lib.hid hcsl
  obtain ⟨a0, a1, a2, a3, a4, a5, a6, c0, c1, c2, c3, c4, c5, c6⟩ := p
  dsimp only at HOP ⊢
  clear hm ht hd hb hl hcsl
  go_enter Tryd.func16, Tryd.ntmps16
  go_wp2_with fail
  generalize hW0 : World.alloc _ _ = W0
  have hK0 : Keeps (fun _ => False) w W0 := by rw [← hW0]; repeat (first | exact Keeps.refl _ _ | refine Keeps.drewN ?_ _ | refine Keeps.drew ?_ | refine Keeps.alloc ?_ _ | refine Keeps.set ?_ (Or.inl (by rfl)) _)
  have hb0 : W0.heap[w.heap.size]? = some (.cells #[.slice a0 b.cs.length c0, .slice a1 b.rs.length c1, .slice a2 b.is.length c2, .slice a3 b.incls.length c3, .slice a4 b.roles.length c4, .slice a5 b.facts.length c5, .slice a6 b.links.length c6] 30 (0, 0)) := by rw [← hW0]; exact blkNew rfl
  clear hW0
  refine (HOP.out W0 hK0).mono ?_
  clear HOP
  rintro e w1 ⟨hk1, hr⟩
  have hK1 := hK0.then_ hk1
  have hb1 := hk1.blk hb0 (fun h => h)
  have hz1 := hK0.size
  clear hb0 hk1 hK0
  rcases hr with ⟨hoe, rfl⟩ | ⟨rfl, g, mm, mv, rfl, hg, hsp, hoc⟩
  · have HO : Hid ((me1, me2) = (([] : List Con), oe)) := by unfold Hid; rw [HME.out, if_neg hoe]
    have HNE := Lib.hid hoe
    clear HME HSM HCS
    go_wp2_with fail
    have ho := HO.out
    simp only [Prod.mk.injEq] at ho
    obtain ⟨rfl, rfl⟩ := ho
    exact bodyPost_ret (v := .tuple #[.slice none 0 0, .int .i64 me2]) (by simp [results, Tryd.results16, go_sem]) rfl ⟨_, rfl, OwnCons.nil _ _, hK1⟩
  · have h8 := (HSM.out rfl).1
    obtain ⟨hcl, hrl⟩ := HCS.out rfl
    have HMM : Hid ((me1, me2) = if allOk b.cs.length b.rs.length ms then (ms, 0) else (([] : List Con), (2 : Int))) := by unfold Hid; rw [HME.out, if_pos rfl]
    obtain ⟨AA, capA, rfl, hcapA, hca⟩ := hoc.consAt
    have HCA := Lib.hid hca.lim
    have HOC := Lib.hid (hoc.lower hz1)
    have HSB := Lib.hid hsp.box
    have g7 : w1.cell? ⟨g, 7, none⟩ = some (.slice AA ms.length capA) := by rw [blkCell hsp.box]; rfl
    have HB1 := Lib.hid hb1
    clear HME HSM HCS hca hoc hsp hb1 hz1
    go_wp2_with fail
    go_loopw [25] (fun i wr => ∃ k : Nat, k ≤ ms.length ∧ i = .int .i64 k ∧ Hid (allOk b.cs.length b.rs.length ms = allOk b.cs.length b.rs.length (ms.drop k)) ∧ Hid (Keeps (fun _ => False) w1 wr)) (fun i _ => ms.length - (intOf i).toNat)
    case atStart => exact ⟨0, Nat.zero_le _, rfl, rfl, Keeps.refl _ _⟩
    case round =>
      obtain ⟨k, hk, rfl, HI, HK⟩ := hrel
      have hbx := HK.out.blk HB1.out (fun h => h)
      obtain ⟨x0, x1, x2, x3, x4, x5, x6⟩ := cells7 hbx
      have hw0 := blkLt hbx
      by_cases hlt : k < ms.length
      · obtain ⟨bb, o, A', cap', rfl, hob, hbl, e0, e1, e2, hc⟩ := (HCA.out.keep HK.out (fun _ _ h => h)).get k hlt
        have hd := Lib.hid (allOk_drop b.cs.length b.rs.length ms k hlt)
        have HC := Lib.hid hc
        generalize ms[k] = d at *
        have HTR := Lib.hid (HTW.out.keep (hK1.then_ HK.out) (fun h => h))
        have hsz := HK.out.size
        have hw1 : w.heap.size < wr.heap.size + 1 := by omega
        clear hc hbx
        go_wp2_with fail
        generalize hW4 : World.alloc _ _ = W4
        have hK4 : Keeps (fun _ => False) wr W4 := by rw [← hW4]; repeat (first | exact Keeps.refl _ _ | refine Keeps.drewN ?_ _ | refine Keeps.drew ?_ | refine Keeps.alloc ?_ _ | refine Keeps.set ?_ (Or.inl (by rfl)) _)
        have hg4 : W4.heap[wr.heap.size + 1]? = some (.cells #[.int .i64 400] 3 (0, 0)) := by rw [← hW4]; exact blkNew (by simp)
        clear hW4
        refine (Valid_calls b.cs.length b.rs.length d A' cap' 400 (wr.heap.size + 1) (fun k => W0.heap.size ≤ k ∧ k < w1.heap.size) a0 a1 c0 c1 _ W4 (by omega) (by omega) (HC.out.keep hK4 (fun _ _ h => h)) (fun k hk => by omega) hg4 (HTR.out.keep hK4 (fun h => h)) (by omega) (by omega)).mono ?_
        rintro e w5 ⟨rfl, h5, hk5⟩
        have hk45 : Keeps (fun _ => False) wr w5 := (hK4.of0.then_ hk5).new (fun i hi => by omega)
        cases hvd : (validC b.cs.length b.rs.length d 400 1).1
        · have HO : Hid ((me1, me2) = (([] : List Con), (2 : Int))) := by unfold Hid; rw [HMM.out, HI.out, hd.out]; simp [okC, hvd]
          clear HMM
          go_wp2_with fail
          have ho := HO.out
          simp only [Prod.mk.injEq] at ho
          obtain ⟨rfl, rfl⟩ := ho
          exact bodyPost_ret (v := .tuple #[.slice none 0 0, .int .i64 2]) (by simp [results, Tryd.results16, go_sem]) rfl ⟨_, rfl, OwnCons.nil _ _, (hK1.then_ HK.out).then_ hk45⟩
        · go_wp2_with fail
          go_roundw
          case rel => exact ⟨k + 1, by omega, by go_num, by unfold Hid; rw [HI.out, hd.out]; simp [okC, hvd], HK.out.then_ hk45⟩
          case measure => simp [intOf]; omega
      · obtain rfl : ms.length = k := by omega
        have HO : Hid ((me1, me2) = (ms, (0 : Int))) := by unfold Hid; rw [HMM.out, HI.out]; simp [allOk]
        have g7r : wr.cell? ⟨g, 7, none⟩ = some (.slice AA ms.length capA) := by rw [blkCell (HK.out.blk HSB.out (fun h => h))]; rfl
        have HOR := Lib.hid (HOC.out.keep HK.out (fun _ _ h => h))
        clear HMM HI g7
        go_wp2_with fail
        have ho := HO.out
        simp only [Prod.mk.injEq] at ho
        obtain ⟨rfl, rfl⟩ := ho
        exact bodyPost_ret (v := .tuple #[.slice AA me1.length capA, .int .i64 0]) (by simp [results, Tryd.results16, go_sem]) rfl ⟨_, rfl, HOR.out, hK1.then_ HK.out⟩
end Go.Proofs.YtoafelppnagpbaaDoor
