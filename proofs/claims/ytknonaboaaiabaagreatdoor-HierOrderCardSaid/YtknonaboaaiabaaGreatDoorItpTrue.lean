/- interp.True at a role inclusion of a valid knowledge base and interpretation; interp.Pairs; the law's within. -/
import Derived.Test.YtknonaboaaiabaaGreatDoorHolds
import Derived.Test.YtknonaboaaiabaaGreatDoorItpValid
import Derived.Test.YtknonaboaaiabaaGreatDoorR2
namespace Go.Proofs.YtknonaboaaiabaaGreatDoor
open Go.RowKit
set_option linter.unusedVariables false
set_option linter.unusedSimpArgs false
theorem prs_in (n : Int) : ∀ (l : List (Int × Int)) (p : Option (Int × Int)), prsL n p l = true → ∀ x ∈ l, inP n x = true
  | [], _, _, x, hx => by simp at hx
  | y :: r, p, h, x, hx => by
    unfold prsL at h
    simp only [Bool.and_eq_true] at h
    rcases List.mem_cons.1 hx with rfl | hx
    · exact h.1.1
    · exact prs_in n r _ h.2 x hx
/-- What a valid interpretation says. -/
structure ItpOk (nc nr ni : Nat) (i : Itp) : Prop where
  sz : 1 ≤ i.size ∧ i.size ≤ 256
  cl : i.cons.length = nc
  rl : i.roles.length = nr
  il : i.inds.length = ni
  prs : ∀ l ∈ i.roles, ∀ x ∈ l, 0 ≤ x.1 ∧ x.1 < i.size ∧ 0 ≤ x.2 ∧ x.2 < i.size
theorem itpOk_of {nc nr ni : Nat} {i : Itp} (h : isItpB nc nr ni i = true) : ItpOk nc nr ni i := by
  simp only [isItpB, headBad, Bool.and_eq_true, Bool.not_eq_true', Bool.or_eq_false_iff, decide_eq_false_iff_not, List.all_eq_true, ne_eq, Decidable.not_not] at h
  obtain ⟨⟨h1, h2, h3, h4, h5⟩, _, h6, _⟩ := h
  exact ⟨by omega, by omega, by omega, by omega, fun l hl x hx => inP_iff.1 (prs_in _ l none (h6 l hl) x hx)⟩
theorem sumCount {b : Kb} {k : Nat} (hk : k < b.roles.length) : ((b.incls.length : Int) + k < ((kbCount b : Nat) : Int)) := by unfold kbCount; omega
set_option maxRecDepth 100000 in
set_option maxHeartbeats 4000000 in
theorem itpTrue_calls (b : Kb) (p : KbA) (i : Itp) (q : ItpA) (ok : Nat → Prop) (w : World) (m : Int) (hm : w.cell? ⟨2, 0, none⟩ = some (.int .i64 m)) (ht : ArgsTab w) (hb : KbR ok w b p) (hi : ItpR ok w i q)
    (h3 : b.incls.length ≤ 1000) (h4 : b.roles.length ≤ 1000) (h5 : b.facts.length ≤ 1000) (h6 : b.links.length ≤ 1000) (hv : kbValidB b = true) (hiv : isItpB b.cs.length b.rs.length b.is.length i = true) (hlen : ∀ l ∈ i.roles, l.length ≤ 1000) (k : Nat) (hk : k < b.roles.length) :
    Calls Tryz.prog 25 #[.agg #[.slice p.a0 b.cs.length p.c0, .slice p.a1 b.rs.length p.c1, .slice p.a2 b.is.length p.c2, .slice p.a3 b.incls.length p.c3, .slice p.a4 b.roles.length p.c4, .slice p.a5 b.facts.length p.c5, .slice p.a6 b.links.length p.c6], .agg #[.int .i64 i.size, .slice q.a0 i.cons.length q.c0, .slice q.a1 i.roles.length q.c1, .slice q.a2 i.inds.length q.c2], .int .i64 ((b.incls.length : Int) + k)] w fun e w' => e = .returned (.tuple #[.bool (satB i b.roles[k]), .int .i64 0]) ∧ Keeps (fun _ => False) w w' := by
  obtain ⟨_, _, hro⟩ := kbValid_parts hv
  have hio := itpOk_of hiv
  have hr := hro _ (List.getElem_mem hk)
  have HKV := Lib.hid (fun W (hk : Keeps (fun _ => False) w W) => kbValid_calls b p ok W m (hk.cell hm (fun h => h)) (ht.keep hk (fun h => h)) (hb.keep hk (fun _ _ h => h)) (by omega) (by omega) (by omega) (by omega))
  have HIV := Lib.hid (fun W (hk : Keeps (fun _ => False) w W) => itpValid_calls b.cs b.rs b.is p.a0 p.a1 p.a2 p.c0 p.c1 p.c2 i q ok W (hi.keep hk (fun _ _ h => h)) (fun l hl => by have := hlen l hl; omega))
  have HCO := Lib.hid (fun W => count_calls b p W (by omega) (by omega) (by omega) (by omega))
  have HHO := Lib.hid (fun W (hkw : Keeps (fun _ => False) w W) => holds_calls b p i q ok W (hb.keep hkw (fun _ _ h => h)) (hi.keep hkw (fun _ _ h => h)) k hk ⟨hr.1, hr.2.2.1⟩ (by rw [hio.rl]; omega) (by rw [hio.rl]; omega) (fun l hl => ⟨hlen l hl, fun x hx => by have h1 := hio.prs l hl x hx; have h2 := hio.sz; omega⟩) h3 h4)
  rw [hv] at HKV
  rw [hiv] at HIV
  have hlt := sumCount hk
  generalize kbCount b = cnt at *
  generalize satB i b.roles[k] = rv at *
  have g1 : decide ((b.incls.length : Int) + k < 0) = false := decide_eq_false (by omega)
  have g2 : decide ((cnt : Int) ≤ (b.incls.length : Int) + k) = false := decide_eq_false (by omega)
  obtain ⟨a0, a1, a2, a3, a4, a5, a6, c0, c1, c2, c3, c4, c5, c6⟩ := p
  obtain ⟨q0, q1, q2, d0, d1, d2⟩ := q
  dsimp only at HKV HIV HCO HHO ⊢
  clear hm ht hb hi hv hiv hlen hro hio hr
  go_enter Tryz.func25, Tryz.ntmps25
  go_wp2_with fail
  generalize hW0 : World.alloc _ _ = W0
  have hK0 : Keeps (fun _ => False) w W0 := by rw [← hW0]; repeat (first | exact Keeps.refl _ _ | refine Keeps.drewN ?_ _ | refine Keeps.drew ?_ | refine Keeps.alloc ?_ _ | refine Keeps.set ?_ (Or.inl (by rfl)) _)
  have hbx : W0.heap[w.heap.size]? = some (.cells #[.slice a0 b.cs.length c0, .slice a1 b.rs.length c1, .slice a2 b.is.length c2, .slice a3 b.incls.length c3, .slice a4 b.roles.length c4, .slice a5 b.facts.length c5, .slice a6 b.links.length c6] 30 (0, 0)) := by rw [← hW0]; exact blkAlloc (blkNew rfl) _
  have hix : W0.heap[w.heap.size + 1]? = some (.cells #[.int .i64 i.size, .slice q0 i.cons.length d0, .slice q1 i.roles.length d1, .slice q2 i.inds.length d2] 37 (0, 0)) := by rw [← hW0]; exact blkNew (by simp)
  clear hW0
  refine (HKV.out W0 hK0).mono ?_
  clear HKV
  rintro e w1 ⟨rfl, hk1⟩
  have HK1 := Lib.hid (hK0.then_ hk1)
  have HBX := Lib.hid (hk1.blk hbx (fun h => h))
  have HIX := Lib.hid (hk1.blk hix (fun h => h))
  clear hbx hix hk1 hK0
  obtain ⟨x0, x1, x2, x3, x4, x5, x6⟩ := cells7 HBX.out
  obtain ⟨y0, y1, y2, y3⟩ := cells4 HIX.out
  have hl0 := blkLt HBX.out
  have hl1 := blkLt HIX.out
  go_wp2_with fail
  refine (HIV.out w1 HK1.out).mono ?_
  clear HIV x0 x1 x2 x3 x4 x5 x6 y0 y1 y2 y3 hl0 hl1
  rintro e w2 ⟨rfl, hk2⟩
  have HK2 := Lib.hid (HK1.out.then_ hk2)
  have HBX2 := Lib.hid (hk2.blk HBX.out (fun h => h))
  have HIX2 := Lib.hid (hk2.blk HIX.out (fun h => h))
  clear hk2 HK1 HBX HIX
  obtain ⟨x0, x1, x2, x3, x4, x5, x6⟩ := cells7 HBX2.out
  obtain ⟨y0, y1, y2, y3⟩ := cells4 HIX2.out
  have hl0 := blkLt HBX2.out
  have hl1 := blkLt HIX2.out
  go_wp2_with fail
  refine (HCO.out w2).mono ?_
  clear HCO x0 x1 x2 x3 x4 x5 x6 y0 y1 y2 y3 hl0 hl1
  rintro e w3 ⟨rfl, hk3⟩
  have HK3 := Lib.hid (HK2.out.then_ hk3)
  have HBX3 := Lib.hid (hk3.blk HBX2.out (fun h => h))
  have HIX3 := Lib.hid (hk3.blk HIX2.out (fun h => h))
  clear hk3 HK2 HBX2 HIX2
  obtain ⟨x0, x1, x2, x3, x4, x5, x6⟩ := cells7 HBX3.out
  obtain ⟨y0, y1, y2, y3⟩ := cells4 HIX3.out
  have hl0 := blkLt HBX3.out
  have hl1 := blkLt HIX3.out
  go_wp2_with fail
  refine (HHO.out w3 HK3.out).mono ?_
  clear HHO x0 x1 x2 x3 x4 x5 x6 y0 y1 y2 y3 hl0 hl1
  rintro e w4 ⟨rfl, hk4⟩
  go_wp2_with fail
  exact bodyPost_ret (v := .tuple #[.bool rv, .int .i64 0]) (by simp [results, Tryz.results25, go_sem]) rfl ⟨rfl, HK3.out.then_ hk4⟩
set_option maxRecDepth 100000 in
set_option maxHeartbeats 4000000 in
theorem itpFine_calls (cs rs is : List ByteArray) (A0 A1 A2 : Option Addr) (d0 d1 d2 : Nat) (i : Itp) (q : ItpA) (ok : Nat → Prop) (w : World) (m : Int) (hm : w.cell? ⟨2, 0, none⟩ = some (.int .i64 m))
    (h0 : Row1 ok w Value.string cs A0) (h1 : Row1 ok w Value.string rs A1) (h2 : Row1 ok w Value.string is A2) (hl0 : cs.length ≤ d0) (hl1 : rs.length ≤ d1) (hl2 : is.length ≤ d2) (hs : ∀ s ∈ cs ++ rs ++ is, s.size ≤ maxLen) (hi : ItpR ok w i q) (hvn : validNamesB cs rs is = true) (hiv : isItpB cs.length rs.length is.length i = true) (hlen : ∀ l ∈ i.roles, l.length ≤ 1000) :
    Calls Tryz.prog 142 #[.agg #[.slice A0 cs.length d0, .slice A1 rs.length d1, .slice A2 is.length d2], .agg #[.int .i64 i.size, .slice q.a0 i.cons.length q.c0, .slice q.a1 i.roles.length q.c1, .slice q.a2 i.inds.length q.c2], .slice none 0 0] w fun e w' => e = .returned (.int .i64 0) ∧ Keeps (fun _ => False) w w' := by
  have HVN := Lib.hid (fun W (hk : Keeps (fun _ => False) w W) => validNames_calls cs rs is ok A0 A1 A2 d0 d1 d2 W m (hk.cell hm (fun h => h)) (h0.keep hk (fun _ _ h => h)) (h1.keep hk (fun _ _ h => h)) (h2.keep hk (fun _ _ h => h)) hl0 hl1 hl2 hs)
  have HIV := Lib.hid (fun W (hk : Keeps (fun _ => False) w W) => itpValid_calls cs rs is A0 A1 A2 d0 d1 d2 i q ok W (hi.keep hk (fun _ _ h => h)) (fun l hl => by have := hlen l hl; omega))
  rw [hvn] at HVN
  rw [hiv] at HIV
  obtain ⟨q0, q1, q2, e0, e1, e2⟩ := q
  dsimp only at HIV ⊢
  clear hm h0 h1 h2 hs hi hvn hiv hlen
  go_enter Tryz.func142, Tryz.ntmps142
  go_wp2_with fail
  generalize hW0 : World.alloc _ _ = W0
  have hK0 : Keeps (fun _ => False) w W0 := by rw [← hW0]; repeat (first | exact Keeps.refl _ _ | refine Keeps.drewN ?_ _ | refine Keeps.drew ?_ | refine Keeps.alloc ?_ _ | refine Keeps.set ?_ (Or.inl (by rfl)) _)
  have hbx : W0.heap[w.heap.size]? = some (.cells #[.slice A0 cs.length d0, .slice A1 rs.length d1, .slice A2 is.length d2] 24 (0, 0)) := by rw [← hW0]; exact blkAlloc (blkNew rfl) _
  have hix : W0.heap[w.heap.size + 1]? = some (.cells #[.int .i64 i.size, .slice q0 i.cons.length e0, .slice q1 i.roles.length e1, .slice q2 i.inds.length e2] 37 (0, 0)) := by rw [← hW0]; exact blkNew (by simp)
  clear hW0
  refine (HVN.out W0 hK0).mono ?_
  clear HVN
  rintro ee w1 ⟨rfl, hk1⟩
  have HK1 := Lib.hid (hK0.then_ hk1)
  have HBX := Lib.hid (hk1.blk hbx (fun h => h))
  have HIX := Lib.hid (hk1.blk hix (fun h => h))
  clear hbx hix hk1 hK0
  go_wp2_with fail
  go_loopw [15] (fun i wr => i = .int .i64 0 ∧ Hid (Keeps (fun _ => False) w1 wr)) (fun _ _ => 0)
  case atStart => exact ⟨rfl, Keeps.refl _ _⟩
  case round =>
    obtain ⟨rfl, HK⟩ := hrel
    obtain ⟨x0, x1, x2⟩ := cells3 (HK.out.blk HBX.out (fun h => h))
    obtain ⟨y0, y1, y2, y3⟩ := cells4 (HK.out.blk HIX.out (fun h => h))
    have hz0 := blkLt (HK.out.blk HBX.out (fun h => h))
    have hz1 := blkLt (HK.out.blk HIX.out (fun h => h))
    go_wp2_with fail
    refine (HIV.out wr (HK1.out.then_ HK.out)).mono ?_
    clear HIV x0 x1 x2 y0 y1 y2 y3
    rintro ee w2 ⟨rfl, hk2⟩
    go_wp2_with fail
    go_ret
    exact ⟨rfl, (HK1.out.then_ HK.out).then_ hk2⟩
/-- What Pairs returns. -/
def RetPairs (i : Itp) (r : Nat) (w : World) (e : Ending) (w' : World) : Prop :=
  ∃ (l : List (Int × Int)) (A : Option Addr) (cap : Nat), e = .returned (.tuple #[.slice A l.length cap, .int .i64 0]) ∧ PairsR (fun b => w.heap.size ≤ b) w' l A ∧ l.length ≤ 1000 ∧ (∀ p, p ∈ l ↔ memR i r p) ∧ Keeps (fun _ => False) w w'
set_option maxRecDepth 100000 in
set_option maxHeartbeats 4000000 in
theorem itpPairs_calls (cs rs is : List ByteArray) (A0 A1 A2 : Option Addr) (d0 d1 d2 : Nat) (i : Itp) (q : ItpA) (ok : Nat → Prop) (w : World) (r : Nat) (m : Int) (hm : w.cell? ⟨2, 0, none⟩ = some (.int .i64 m))
    (h0 : Row1 ok w Value.string cs A0) (h1 : Row1 ok w Value.string rs A1) (h2 : Row1 ok w Value.string is A2) (hl0 : cs.length ≤ d0) (hl1 : rs.length ≤ d1) (hl2 : is.length ≤ d2) (hs : ∀ s ∈ cs ++ rs ++ is, s.size ≤ maxLen) (hi : ItpR ok w i q) (hvn : validNamesB cs rs is = true) (hiv : isItpB cs.length rs.length is.length i = true) (hlen : ∀ l ∈ i.roles, l.length ≤ 1000)
    (hr : r < 2 * rs.length) (hrs : rs.length ≤ 1000) :
    Calls Tryz.prog 81 #[.agg #[.slice A0 cs.length d0, .slice A1 rs.length d1, .slice A2 is.length d2], .agg #[.int .i64 i.size, .slice q.a0 i.cons.length q.c0, .slice q.a1 i.roles.length q.c1, .slice q.a2 i.inds.length q.c2], .int .i64 r] w (RetPairs i r w) := by
  have hio := itpOk_of hiv
  have HFI := Lib.hid (fun W (hk : Keeps (fun _ => False) w W) => itpFine_calls cs rs is A0 A1 A2 d0 d1 d2 i q ok W m (hk.cell hm (fun h => h)) (h0.keep hk (fun _ _ h => h)) (h1.keep hk (fun _ _ h => h)) (h2.keep hk (fun _ _ h => h)) hl0 hl1 hl2 hs (hi.keep hk (fun _ _ h => h)) hvn hiv hlen)
  have hrr : r / 2 < i.roles.length := by rw [hio.rl]; omega
  have HRL := Lib.hid (fun W (hk : Keeps (fun _ => False) w W) => related_calls i q ok W r (hi.keep hk (fun _ _ h => h)) hrr (fun x hx => by have h1 := hio.prs _ (List.getElem_mem hrr) x hx; have h2 := hio.sz; omega) (hlen _ (List.getElem_mem hrr)))
  obtain ⟨RV, hRV⟩ : ∃ RV, RV = RetPairs i r w := ⟨_, rfl⟩
  have HRV := Lib.hid hRV
  rw [← hRV]
  obtain ⟨q0, q1, q2, e0, e1, e2⟩ := q
  dsimp only at HFI HRL ⊢
  have g1 : decide ((r : Int) < 0) = false := decide_eq_false (by omega)
  have g2 : decide (2 * (rs.length : Int) ≤ r) = false := decide_eq_false (by omega)
  clear hm h0 h1 h2 hs hi hvn hiv hlen hio hRV hrr
  go_enter Tryz.func81, Tryz.ntmps81
  go_wp2_with fail
  generalize hW0 : World.alloc _ _ = W0
  have hK0 : Keeps (fun _ => False) w W0 := by rw [← hW0]; repeat (first | exact Keeps.refl _ _ | refine Keeps.drewN ?_ _ | refine Keeps.drew ?_ | refine Keeps.alloc ?_ _ | refine Keeps.set ?_ (Or.inl (by rfl)) _)
  have hbx : W0.heap[w.heap.size]? = some (.cells #[.slice A0 cs.length d0, .slice A1 rs.length d1, .slice A2 is.length d2] 24 (0, 0)) := by rw [← hW0]; exact blkAlloc (blkNew rfl) _
  have hix : W0.heap[w.heap.size + 1]? = some (.cells #[.int .i64 i.size, .slice q0 i.cons.length e0, .slice q1 i.roles.length e1, .slice q2 i.inds.length e2] 37 (0, 0)) := by rw [← hW0]; exact blkNew (by simp)
  clear hW0
  refine (HFI.out W0 hK0).mono ?_
  clear HFI
  rintro ee w1 ⟨rfl, hk1⟩
  have HK1 := Lib.hid (hK0.then_ hk1)
  have HBX := Lib.hid (hk1.blk hbx (fun h => h))
  have HIX := Lib.hid (hk1.blk hix (fun h => h))
  clear hbx hix hk1 hK0
  obtain ⟨x0, x1, x2⟩ := cells3 HBX.out
  obtain ⟨y0, y1, y2, y3⟩ := cells4 HIX.out
  have hz0 := blkLt HBX.out
  have hz1 := blkLt HIX.out
  go_wp2_with fail
  refine (HRL.out w1 HK1.out).mono ?_
  clear HRL x0 x1 x2 y0 y1 y2 y3
  rintro ee w2 ⟨l, A, cap, rfl, hp, hn, hmm, hk2⟩
  have HP := Lib.hid hp
  have HMM := Lib.hid hmm
  have HK2 := Lib.hid hk2
  clear hp hmm hk2
  go_wp2_with fail
  have hfin : RV (.returned (.tuple #[.slice A l.length cap, .int .i64 0])) w2 := by
    rw [HRV.out]
    refine ⟨l, A, cap, rfl, fun hl => ?_, hn, HMM.out, HK1.out.then_ HK2.out⟩
    obtain ⟨b, o, e, hb, hc⟩ := HP.out hl
    exact ⟨b, o, e, by have := HK1.out.size; omega, hc⟩
  exact hfin
end Go.Proofs.YtknonaboaaiabaaGreatDoor
