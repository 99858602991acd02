/- What concept.small, Normal and Not compute. -/
import Derived.Test.YtoafelppnagpbaaDoorFine
import Derived.Test.YtoafelppnagpbaaDoorEither
import Derived.Deep.RegionHeld3
namespace Go.Proofs.YtoafelppnagpbaaDoor
open Go.RowKit
set_option linter.unusedVariables false
set_option linter.unusedSimpArgs false
def smallV (v : Bool) (x : Value) : Value := if v then x else .agg #[.int .i64 0, .int .i64 0, .slice none 0 0]
def smallN (v : Bool) : Int := if v then 0 else 2
set_option maxRecDepth 100000 in
set_option maxHeartbeats 4000000 in
theorem csmall_calls (nc nr : Nat) (c : Con) (A : Option Addr) (cap : Nat) (ok : Nat → Prop) (A0 A1 : Option Addr) (c0 c1 : Nat) (v2 : Value) (w : World)
    (hc : ConR ok w c [.int .i64 c.op, .int .i64 c.n, .slice A c.args.length cap]) (ht : ArgsTab w) (hnc : nc ≤ 100000) (hnr : nr ≤ 100000) :
    Calls Tryd.prog 41 #[.agg #[.slice A0 nc c0, .slice A1 nr c1, v2], .agg #[.int .i64 c.op, .int .i64 c.n, .slice A c.args.length cap]] w fun e w' =>
      e = .returned (.tuple #[smallV (okC nc nr c) (.agg #[.int .i64 c.op, .int .i64 c.n, .slice A c.args.length cap]), .int .i64 (smallN (okC nc nr c))]) ∧ Keeps (fun _ => False) w w' := by
  have HC := Lib.hid hc.lim
  have HT := Lib.hid ht
  clear hc ht
  go_enter Tryd.func41, Tryd.ntmps41
  go_wp2_with fail
  generalize hW0 : World.alloc _ _ = W0
  have hK0 : Keeps (fun _ => False) w W0 := by rw [← hW0]; repeat (first | exact Keeps.refl _ _ | refine Keeps.drewN ?_ _ | refine Keeps.drew ?_ | refine Keeps.alloc ?_ _ | refine Keeps.set ?_ (Or.inl (by rfl)) _)
  have hb0 : W0.heap[w.heap.size]? = some (.cells #[.slice A0 nc c0, .slice A1 nr c1, v2] 24 (0, 0)) := by rw [← hW0]; exact blkAlloc (blkAlloc (blkAlloc (blkNew rfl) _) _) _
  have hb1 : W0.heap[w.heap.size + 1]? = some (.cells #[.int .i64 c.op, .int .i64 c.n, .slice A c.args.length cap] 48 (0, 0)) := by rw [← hW0]; exact blkAlloc (blkAlloc (blkNew (by simp)) _) _
  have hb2 : W0.heap[w.heap.size + 1 + 1]? = some (.cells #[.int .i64 0, .int .i64 0, .slice none 0 0] 48 (0, 0)) := by rw [← hW0]; exact blkAlloc (blkNew (by simp)) _
  have hb3 : W0.heap[w.heap.size + 1 + 1 + 1]? = some (.cells #[.int .i64 400] 3 (0, 0)) := by rw [← hW0]; exact blkNew (by simp)
  clear hW0
  have hs0 := hK0.size
  refine (Valid_calls nc nr c A cap 400 (w.heap.size + 1 + 1 + 1) (fun k => ok k ∧ k < w.heap.size) A0 A1 c0 c1 v2 W0 (by omega) (by omega) (HC.out.keep hK0 (fun _ _ h => h)) (fun k hk => by omega) hb3 (HT.out.keep hK0 (fun h => h)) hnc hnr).mono ?_
  rintro e w1 ⟨rfl, h5, hk5⟩
  have hk1 : Keeps (fun _ => False) w w1 := (hK0.of0.then_ hk5).new (fun i hi => by omega)
  have hd1 := hk5.blk hb1 (by omega)
  have hd2 := hk5.blk hb2 (by omega)
  obtain ⟨y0, y1, y2⟩ := cells3 hd1
  obtain ⟨z0, z1, z2⟩ := cells3 hd2
  have f0 := blkFree hd2 0
  have f1 := blkFree hd2 1
  have f2 := blkFree hd2 2
  have hlt2 := blkLt hd2
  have HK1 := Lib.hid hk1
  have HD2 := Lib.hid hd2
  clear hb0 hb1 hb2 hb3 hk5 hk1 hd1 hd2 h5 hK0 hs0
  cases hvd : (validC nc nr c 400 1).1
  · have HV := Lib.hid (show okC nc nr c = false from hvd)
    go_wp2_with fail
    generalize hW2 : World.setCell _ _ _ = W2
    have hb : W2.heap[w.heap.size + 1 + 1]? = some (.cells #[.int .i64 0, .int .i64 0, .slice none 0 0] 48 (0, 0)) := by rw [← hW2]; exact blkSet (blkSet (blkSet HD2.out 0 _) 1 _) 2 _
    have hK2 : Keeps (fun i => i = w.heap.size + 1 + 1) w1 W2 := by rw [← hW2]; repeat (first | exact Keeps.refl _ _ | refine Keeps.drewN ?_ _ | refine Keeps.drew ?_ | refine Keeps.alloc ?_ _ | refine Keeps.set ?_ (Or.inl (by rfl)) _)
    clear hW2
    obtain ⟨t0, t1, t2⟩ := cells3 hb
    refine bodyPost_ret (v := .tuple #[.agg #[.int .i64 0, .int .i64 0, .slice none 0 0], .int .i64 2]) (by simp [results, Tryd.results41, go_sem, t0, t1, t2]) rfl ⟨by rw [HV.out]; rfl, (HK1.out.of0.then_ hK2).new (fun i hi => by omega)⟩
  · have HV := Lib.hid (show okC nc nr c = true from hvd)
    go_wp2_with fail
    generalize hW2 : World.setCell _ _ _ = W2
    have hb : W2.heap[w.heap.size + 1 + 1]? = some (.cells #[.int .i64 c.op, .int .i64 c.n, .slice A c.args.length cap] 48 (0, 0)) := by rw [← hW2]; exact blkSet (blkSet (blkSet HD2.out 0 _) 1 _) 2 _
    have hK2 : Keeps (fun i => i = w.heap.size + 1 + 1) w1 W2 := by rw [← hW2]; repeat (first | exact Keeps.refl _ _ | refine Keeps.drewN ?_ _ | refine Keeps.drew ?_ | refine Keeps.alloc ?_ _ | refine Keeps.set ?_ (Or.inl (by rfl)) _)
    clear hW2
    obtain ⟨t0, t1, t2⟩ := cells3 hb
    refine bodyPost_ret (v := .tuple #[.agg #[.int .i64 c.op, .int .i64 c.n, .slice A c.args.length cap], .int .i64 0]) (by simp [results, Tryd.results41, go_sem, t0, t1, t2]) rfl ⟨by rw [HV.out]; rfl, (HK1.out.of0.then_ hK2).new (fun i hi => by omega)⟩
theorem csmall_yes (nc nr : Nat) (c : Con) (A : Option Addr) (cap : Nat) (ok : Nat → Prop) (A0 A1 : Option Addr) (c0 c1 : Nat) (v2 : Value) (w : World)
    (hc : ConR ok w c [.int .i64 c.op, .int .i64 c.n, .slice A c.args.length cap]) (ht : ArgsTab w) (hnc : nc ≤ 100000) (hnr : nr ≤ 100000) (hv : okC nc nr c = true) :
    Calls Tryd.prog 41 #[.agg #[.slice A0 nc c0, .slice A1 nr c1, v2], .agg #[.int .i64 c.op, .int .i64 c.n, .slice A c.args.length cap]] w fun e w' =>
      e = .returned (.tuple #[.agg #[.int .i64 c.op, .int .i64 c.n, .slice A c.args.length cap], .int .i64 0]) ∧ Keeps (fun _ => False) w w' := by
  have h := csmall_calls nc nr c A cap ok A0 A1 c0 c1 v2 w hc ht hnc hnr
  rw [hv] at h; exact h
theorem csmall_no (nc nr : Nat) (c : Con) (A : Option Addr) (cap : Nat) (ok : Nat → Prop) (A0 A1 : Option Addr) (c0 c1 : Nat) (v2 : Value) (w : World)
    (hc : ConR ok w c [.int .i64 c.op, .int .i64 c.n, .slice A c.args.length cap]) (ht : ArgsTab w) (hnc : nc ≤ 100000) (hnr : nr ≤ 100000) (hv : okC nc nr c = false) :
    Calls Tryd.prog 41 #[.agg #[.slice A0 nc c0, .slice A1 nr c1, v2], .agg #[.int .i64 c.op, .int .i64 c.n, .slice A c.args.length cap]] w fun e w' =>
      e = .returned (.tuple #[.agg #[.int .i64 0, .int .i64 0, .slice none 0 0], .int .i64 2]) ∧ Keeps (fun _ => False) w w' := by
  have h := csmall_calls nc nr c A cap ok A0 A1 c0 c1 v2 w hc ht hnc hnr
  rw [hv] at h; exact h
/-- What a region reads of two boxes of three cells, and that three cells may be written. -/
abbrev Hold9 (w : World) (gn gc gr : Nat) (a b c x y z : Value) : Prop :=
  w.cell? ⟨gn, 0, none⟩ = some a ∧ w.cell? ⟨gn, 1, none⟩ = some b ∧ w.cell? ⟨gn, 2, none⟩ = some c ∧ w.cell? ⟨gc, 0, none⟩ = some x ∧ w.cell? ⟨gc, 1, none⟩ = some y ∧ w.cell? ⟨gc, 2, none⟩ = some z ∧
      w.cell? ⟨gr, 0, none⟩ = some (cellAt w gr 0) ∧ w.cell? ⟨gr, 1, none⟩ = some (cellAt w gr 1) ∧ w.cell? ⟨gr, 2, none⟩ = some (cellAt w gr 2) ∧ w.frozen? ⟨gr, 0, none⟩ = false ∧ w.frozen? ⟨gr, 1, none⟩ = false ∧ w.frozen? ⟨gr, 2, none⟩ = false
/-- Two boxes and a third, as blocks. -/
structure Blk9 (w : World) (gn gc gr : Nat) (a b c x y z : Value) : Prop where
  n : w.heap[gn]? = some (.cells #[a, b, c] 24 (0, 0))
  c : w.heap[gc]? = some (.cells #[x, y, z] 48 (0, 0))
  r : ∃ u0 u1 u2, w.heap[gr]? = some (.cells #[u0, u1, u2] 48 (0, 0))
  d1 : gn ≠ gr
  d2 : gc ≠ gr
theorem Blk9.hold {w : World} {gn gc gr : Nat} {a b c x y z : Value} (h : Blk9 w gn gc gr a b c x y z) : Hold9 w gn gc gr a b c x y z := by
  obtain ⟨u0, u1, u2, hr⟩ := h.r
  obtain ⟨x0, x1, x2⟩ := cells3 h.n
  obtain ⟨y0, y1, y2⟩ := cells3 h.c
  obtain ⟨z0, z1, z2⟩ := cells3 hr
  exact ⟨x0, x1, x2, y0, y1, y2, cellAt_eq z0, cellAt_eq z1, cellAt_eq z2, blkFree hr 0, blkFree hr 1, blkFree hr 2⟩
theorem Blk9.keep {w w' : World} {gn gc gr : Nat} {a b c x y z : Value} (h : Blk9 w gn gc gr a b c x y z) (hk : Keeps (fun _ => False) w w') : Blk9 w' gn gc gr a b c x y z := by
  obtain ⟨u0, u1, u2, hr⟩ := h.r
  exact ⟨hk.blk h.n (fun h => h), hk.blk h.c (fun h => h), ⟨u0, u1, u2, hk.blk hr (fun h => h)⟩, h.d1, h.d2⟩
theorem Blk9.set {w : World} {gn gc gr : Nat} {a b c x y z : Value} (h : Blk9 w gn gc gr a b c x y z) (t0 t1 t2 : Value) : Blk9 (((w.setCell ⟨gr, 0, none⟩ t0).setCell ⟨gr, 1, none⟩ t1).setCell ⟨gr, 2, none⟩ t2) gn gc gr a b c x y z := by
  obtain ⟨u0, u1, u2, hr⟩ := h.r
  have hk : Keeps (fun i => i = gr) w (((w.setCell ⟨gr, 0, none⟩ t0).setCell ⟨gr, 1, none⟩ t1).setCell ⟨gr, 2, none⟩ t2) := (((Keeps.refl (fun i => i = gr) w).set (g := gr) (Or.inl rfl) t0).set (g := gr) (Or.inl rfl) t1).set (g := gr) (Or.inl rfl) t2
  exact ⟨hk.blk h.n h.d1, hk.blk h.c h.d2, ⟨t0, t1, t2, blkSet (blkSet (blkSet hr 0 _) 1 _) 2 _⟩, h.d1, h.d2⟩
/-- A normal form is returned, or ErrLarge. -/
def RetNormal (v : Bool) (r : Con) (w : World) (e : Ending) (w' : World) : Prop :=
  Keeps (fun _ => False) w w' ∧ ∃ A cap, e = .returned (.tuple #[smallV v (.agg #[.int .i64 r.op, .int .i64 r.n, .slice A r.args.length cap]), .int .i64 (smallN v)]) ∧ ConR (fun k => w.heap.size ≤ k) w' r [.int .i64 r.op, .int .i64 r.n, .slice A r.args.length cap]
set_option maxRecDepth 100000 in
set_option maxHeartbeats 4000000 in
theorem normal_calls (cs rs is : List ByteArray) (c : Con) (A : Option Addr) (cap : Nat) (ok : Nat → Prop) (A0 A1 A2 : Option Addr) (c0 c1 c2 : Nat) (w : World) (m : Int) (hm : w.cell? ⟨2, 0, none⟩ = some (.int .i64 m)) (ht : ArgsTab w) (hd : DualsTab w)
    (h0 : Row1 ok w Value.string cs A0) (h1 : Row1 ok w Value.string rs A1) (h2 : Row1 ok w Value.string is A2) (hl0 : cs.length ≤ c0) (hl1 : rs.length ≤ c1) (hl2 : is.length ≤ c2) (hs : ∀ s ∈ cs ++ rs ++ is, s.size ≤ maxLen)
    (hc : ConR ok w c [.int .i64 c.op, .int .i64 c.n, .slice A c.args.length cap]) (hsh : shapeC c = true) (hfine : fineE (validNamesB cs rs is) cs.length rs.length [c] = 0) (hnc : cs.length ≤ 100000) (hnr : rs.length ≤ 100000) :
    Calls Tryd.prog 21 #[.agg #[.slice A0 cs.length c0, .slice A1 rs.length c1, .slice A2 is.length c2], .agg #[.int .i64 c.op, .int .i64 c.n, .slice A c.args.length cap]] w
      (RetNormal (okC cs.length rs.length (nnfC c false)) (nnfC c false) w) := by
  have HFI := Lib.hid (fun W (hk : Keeps (fun _ => False) w W) => cfine_calls cs rs is [c] (fun _ => True) A0 A1 A2 (some ⟨w.heap.size + 1 + 1 + 1, 0, none⟩) c0 c1 c2 1 W m (hk.cell hm (fun h => h)) (ht.keep hk (fun h => h)) ((h0.keep hk (fun _ _ h => h)).mono (fun _ _ => trivial)) ((h1.keep hk (fun _ _ h => h)).mono (fun _ _ => trivial)) ((h2.keep hk (fun _ _ h => h)).mono (fun _ _ => trivial)) hl0 hl1 hl2 hs)
  rw [hfine] at HFI
  have HNN := Lib.hid (fun W (hk : Keeps (fun _ => False) w W) => nnf_calls (c.size + 1) c false A cap ok W (by omega) hsh (hc.keep hk (fun _ _ h => h)) (hd.keep hk (fun h => h)))
  have HC := Lib.hid hc
  have HT := Lib.hid ht
  generalize nnfC c false = r at *
  clear hm ht hd h0 h1 h2 hc hfine hsh hs
  go_enter Tryd.func21, Tryd.ntmps21
  go_wp2_with fail
  generalize hW0 : World.alloc _ _ = W0
  have hK0 : Keeps (fun _ => False) w W0 := by rw [← hW0]; repeat (first | exact Keeps.refl _ _ | refine Keeps.drewN ?_ _ | refine Keeps.drew ?_ | refine Keeps.alloc ?_ _ | refine Keeps.set ?_ (Or.inl (by rfl)) _)
  have hb0 : W0.heap[w.heap.size]? = some (.cells #[.slice A0 cs.length c0, .slice A1 rs.length c1, .slice A2 is.length c2] 24 (0, 0)) := by rw [← hW0]; exact blkAlloc (blkAlloc (blkAlloc (blkNew rfl) _) _) _
  have hb1 : W0.heap[w.heap.size + 1]? = some (.cells #[.int .i64 c.op, .int .i64 c.n, .slice A c.args.length cap] 48 (0, 0)) := by rw [← hW0]; exact blkAlloc (blkAlloc (blkNew (by simp)) _) _
  have hb2 : W0.heap[w.heap.size + 1 + 1]? = some (.cells #[.int .i64 0, .int .i64 0, .slice none 0 0] 48 (0, 0)) := by rw [← hW0]; exact blkAlloc (blkNew (by simp)) _
  have hb3 : W0.heap[w.heap.size + 1 + 1 + 1]? = some (.cells #[.int .i64 c.op, .int .i64 c.n, .slice A c.args.length cap] 48 (0, 0)) := by rw [← hW0]; exact blkNew (by simp)
  clear hW0
  have HB0 : Hid (Blk9 W0 w.heap.size (w.heap.size + 1) (w.heap.size + 1 + 1) (.slice A0 cs.length c0) (.slice A1 rs.length c1) (.slice A2 is.length c2) (.int .i64 c.op) (.int .i64 c.n) (.slice A c.args.length cap)) := Lib.hid ⟨hb0, hb1, ⟨_, _, _, hb2⟩, by omega, by omega⟩
  have hl : ConsAt (fun _ => True) W0 [c] (some ⟨w.heap.size + 1 + 1 + 1, 0, none⟩) := fun _ => by
    obtain ⟨x0, x1, x2⟩ := cells3 hb3
    refine ⟨_, 0, rfl, trivial, ?_⟩
    simp only [ConsR]
    exact ⟨⟨_, _, _, x0, x1, x2, (HC.out.keep hK0 (fun _ _ h => h)).mono (fun _ _ => trivial)⟩, trivial⟩
  refine (HFI.out W0 hK0 hl (by simp)).mono ?_
  clear HFI
  rintro e w1 ⟨rfl, hk1⟩
  have HB1 := Lib.hid (HB0.out.keep hk1)
  have HK1 := Lib.hid (hK0.then_ hk1)
  clear HB0 hk1 hK0 hl hb0 hb1 hb2 hb3
  go_wp2_with fail
  cases hv : okC cs.length rs.length r
  all_goals have HV := Lib.hid hv
  all_goals clear hv
  · go_region_held3 (fun w' => Hold9 w' w.heap.size (w.heap.size + 1) (w.heap.size + 1 + 1) (.slice A0 cs.length c0) (.slice A1 rs.length c1) (.slice A2 is.length c2) (.int .i64 c.op) (.int .i64 c.n) (.slice A c.args.length cap))
      (first
        | exact HB1.out.hold
        | with_reducible exact HB2.out.hold
        | with_reducible exact HB3.out.hold
        | with_reducible exact (HB3.out.set _ _ _).hold
        | fail)
      (first
        | (go_at_call 36; refine (HNN.out _ (HK1.out.drew)).mono ?_; clear HNN; rintro e w2 ⟨B, d, rfl, hr2, hk2⟩; have HK2 := Lib.hid (HK1.out.drew.then_ hk2); have HB2 := Lib.hid (HB1.out.keep ((Keeps.refl (fun _ => False) w1).drew.then_ hk2)); have HR2 := Lib.hid (hr2.mono (ok' := fun k => w1.heap.size ≤ k) (fun k hk => hk)); clear hr2 hk2)
        | (go_at_call 41; refine (csmall_no cs.length rs.length r B d _ A0 A1 c0 c1 _ _ HR2.out (HT.out.keep HK2.out (fun h => h)) hnc hnr HV.out).mono ?_; rintro e w3 ⟨rfl, hk3⟩; have HK3 := Lib.hid (HK2.out.then_ hk3); have HB3 := Lib.hid (HB2.out.keep hk3); have HR3 := Lib.hid (HR2.out.keep hk3 (fun _ _ h => h)); clear hk3))
    rename_i hHeld
    clear hHeld
    obtain ⟨u0, u1, u2, hr⟩ := HB3.out.r
    generalize hW4 : World.setCell _ _ _ = W4
    have hb : W4.heap[w.heap.size + 1 + 1]? = some (.cells #[.int .i64 0, .int .i64 0, .slice none 0 0] 48 (0, 0)) := by rw [← hW4]; exact blkSet (blkSet (blkSet hr 0 _) 1 _) 2 _
    have hK4 : Keeps (fun i => i = w.heap.size + 1 + 1) w3 W4 := by rw [← hW4]; repeat (first | exact Keeps.refl _ _ | refine Keeps.drewN ?_ _ | refine Keeps.drew ?_ | refine Keeps.alloc ?_ _ | refine Keeps.set ?_ (Or.inl (by rfl)) _)
    clear hW4
    have hl2 : w.heap.size + 1 + 1 < w3.heap.size := blkLt hr
    have HK4 := Lib.hid ((HK3.out.of0.then_ hK4).new (fun i hi => by omega))
    go_wp2_with fail
    obtain ⟨t0, t1, t2⟩ := cells3 hb
    refine bodyPost_ret (v := .tuple #[.agg #[.int .i64 0, .int .i64 0, .slice none 0 0], .int .i64 2]) (by simp [results, Tryd.results21, go_sem, t0, t1, t2]) rfl ⟨HK4.out, B, d, by rw [HV.out]; rfl, ?_⟩
    obtain ⟨_, _, _, hr1⟩ := HB1.out.r
    have hl1 := blkLt hr1
    have hs1 := HK1.out.size
    exact (HR3.out.keep hK4 (fun k hk he => by omega)).mono (fun k hk => by omega)
  · go_region_held3 (fun w' => Hold9 w' w.heap.size (w.heap.size + 1) (w.heap.size + 1 + 1) (.slice A0 cs.length c0) (.slice A1 rs.length c1) (.slice A2 is.length c2) (.int .i64 c.op) (.int .i64 c.n) (.slice A c.args.length cap))
      (first
        | exact HB1.out.hold
        | with_reducible exact HB2.out.hold
        | with_reducible exact HB3.out.hold
        | with_reducible exact (HB3.out.set _ _ _).hold
        | fail)
      (first
        | (go_at_call 36; refine (HNN.out _ (HK1.out.drew)).mono ?_; clear HNN; rintro e w2 ⟨B, d, rfl, hr2, hk2⟩; have HK2 := Lib.hid (HK1.out.drew.then_ hk2); have HB2 := Lib.hid (HB1.out.keep ((Keeps.refl (fun _ => False) w1).drew.then_ hk2)); have HR2 := Lib.hid (hr2.mono (ok' := fun k => w1.heap.size ≤ k) (fun k hk => hk)); clear hr2 hk2)
        | (go_at_call 41; refine (csmall_yes cs.length rs.length r B d _ A0 A1 c0 c1 _ _ HR2.out (HT.out.keep HK2.out (fun h => h)) hnc hnr HV.out).mono ?_; rintro e w3 ⟨rfl, hk3⟩; have HK3 := Lib.hid (HK2.out.then_ hk3); have HB3 := Lib.hid (HB2.out.keep hk3); have HR3 := Lib.hid (HR2.out.keep hk3 (fun _ _ h => h)); clear hk3))
    rename_i hHeld
    clear hHeld
    obtain ⟨u0, u1, u2, hr⟩ := HB3.out.r
    generalize hW4 : World.setCell _ _ _ = W4
    have hb : W4.heap[w.heap.size + 1 + 1]? = some (.cells #[.int .i64 r.op, .int .i64 r.n, .slice B r.args.length d] 48 (0, 0)) := by rw [← hW4]; exact blkSet (blkSet (blkSet hr 0 _) 1 _) 2 _
    have hK4 : Keeps (fun i => i = w.heap.size + 1 + 1) w3 W4 := by rw [← hW4]; repeat (first | exact Keeps.refl _ _ | refine Keeps.drewN ?_ _ | refine Keeps.drew ?_ | refine Keeps.alloc ?_ _ | refine Keeps.set ?_ (Or.inl (by rfl)) _)
    clear hW4
    have hl2 : w.heap.size + 1 + 1 < w3.heap.size := blkLt hr
    have HK4 := Lib.hid ((HK3.out.of0.then_ hK4).new (fun i hi => by omega))
    go_wp2_with fail
    obtain ⟨t0, t1, t2⟩ := cells3 hb
    refine bodyPost_ret (v := .tuple #[.agg #[.int .i64 r.op, .int .i64 r.n, .slice B r.args.length d], .int .i64 0]) (by simp [results, Tryd.results21, go_sem, t0, t1, t2]) rfl ⟨HK4.out, B, d, by rw [HV.out]; rfl, ?_⟩
    obtain ⟨_, _, _, hr1⟩ := HB1.out.r
    have hl1 := blkLt hr1
    have hs1 := HK1.out.size
    exact (HR3.out.keep hK4 (fun k hk he => by omega)).mono (fun k hk => by omega)
set_option maxRecDepth 100000 in
set_option maxHeartbeats 4000000 in
theorem not_calls (cs rs is : List ByteArray) (c : Con) (A : Option Addr) (cap : Nat) (ok : Nat → Prop) (A0 A1 A2 : Option Addr) (c0 c1 c2 : Nat) (w : World) (m : Int) (hm : w.cell? ⟨2, 0, none⟩ = some (.int .i64 m)) (ht : ArgsTab w) (hd : DualsTab w)
    (h0 : Row1 ok w Value.string cs A0) (h1 : Row1 ok w Value.string rs A1) (h2 : Row1 ok w Value.string is A2) (hl0 : cs.length ≤ c0) (hl1 : rs.length ≤ c1) (hl2 : is.length ≤ c2) (hs : ∀ s ∈ cs ++ rs ++ is, s.size ≤ maxLen)
    (hc : ConR ok w c [.int .i64 c.op, .int .i64 c.n, .slice A c.args.length cap]) (hsh : shapeC c = true) (hfine : fineE (validNamesB cs rs is) cs.length rs.length [c] = 0) (hnc : cs.length ≤ 100000) (hnr : rs.length ≤ 100000) :
    Calls Tryd.prog 22 #[.agg #[.slice A0 cs.length c0, .slice A1 rs.length c1, .slice A2 is.length c2], .agg #[.int .i64 c.op, .int .i64 c.n, .slice A c.args.length cap]] w
      (RetNormal (okC cs.length rs.length (nnfC c true)) (nnfC c true) w) := by
  have HFI := Lib.hid (fun W (hk : Keeps (fun _ => False) w W) => cfine_calls cs rs is [c] (fun _ => True) A0 A1 A2 (some ⟨w.heap.size + 1 + 1 + 1, 0, none⟩) c0 c1 c2 1 W m (hk.cell hm (fun h => h)) (ht.keep hk (fun h => h)) ((h0.keep hk (fun _ _ h => h)).mono (fun _ _ => trivial)) ((h1.keep hk (fun _ _ h => h)).mono (fun _ _ => trivial)) ((h2.keep hk (fun _ _ h => h)).mono (fun _ _ => trivial)) hl0 hl1 hl2 hs)
  rw [hfine] at HFI
  have HNN := Lib.hid (fun W (hk : Keeps (fun _ => False) w W) => nnf_calls (c.size + 1) c true A cap ok W (by omega) hsh (hc.keep hk (fun _ _ h => h)) (hd.keep hk (fun h => h)))
  have HC := Lib.hid hc
  have HT := Lib.hid ht
  generalize nnfC c true = r at *
  clear hm ht hd h0 h1 h2 hc hfine hsh hs
  go_enter Tryd.func22, Tryd.ntmps22
  go_wp2_with fail
  generalize hW0 : World.alloc _ _ = W0
  have hK0 : Keeps (fun _ => False) w W0 := by rw [← hW0]; repeat (first | exact Keeps.refl _ _ | refine Keeps.drewN ?_ _ | refine Keeps.drew ?_ | refine Keeps.alloc ?_ _ | refine Keeps.set ?_ (Or.inl (by rfl)) _)
  have hb0 : W0.heap[w.heap.size]? = some (.cells #[.slice A0 cs.length c0, .slice A1 rs.length c1, .slice A2 is.length c2] 24 (0, 0)) := by rw [← hW0]; exact blkAlloc (blkAlloc (blkAlloc (blkNew rfl) _) _) _
  have hb1 : W0.heap[w.heap.size + 1]? = some (.cells #[.int .i64 c.op, .int .i64 c.n, .slice A c.args.length cap] 48 (0, 0)) := by rw [← hW0]; exact blkAlloc (blkAlloc (blkNew (by simp)) _) _
  have hb2 : W0.heap[w.heap.size + 1 + 1]? = some (.cells #[.int .i64 0, .int .i64 0, .slice none 0 0] 48 (0, 0)) := by rw [← hW0]; exact blkAlloc (blkNew (by simp)) _
  have hb3 : W0.heap[w.heap.size + 1 + 1 + 1]? = some (.cells #[.int .i64 c.op, .int .i64 c.n, .slice A c.args.length cap] 48 (0, 0)) := by rw [← hW0]; exact blkNew (by simp)
  clear hW0
  have HB0 : Hid (Blk9 W0 w.heap.size (w.heap.size + 1) (w.heap.size + 1 + 1) (.slice A0 cs.length c0) (.slice A1 rs.length c1) (.slice A2 is.length c2) (.int .i64 c.op) (.int .i64 c.n) (.slice A c.args.length cap)) := Lib.hid ⟨hb0, hb1, ⟨_, _, _, hb2⟩, by omega, by omega⟩
  have hl : ConsAt (fun _ => True) W0 [c] (some ⟨w.heap.size + 1 + 1 + 1, 0, none⟩) := fun _ => by
    obtain ⟨x0, x1, x2⟩ := cells3 hb3
    refine ⟨_, 0, rfl, trivial, ?_⟩
    simp only [ConsR]
    exact ⟨⟨_, _, _, x0, x1, x2, (HC.out.keep hK0 (fun _ _ h => h)).mono (fun _ _ => trivial)⟩, trivial⟩
  refine (HFI.out W0 hK0 hl (by simp)).mono ?_
  clear HFI
  rintro e w1 ⟨rfl, hk1⟩
  have HB1 := Lib.hid (HB0.out.keep hk1)
  have HK1 := Lib.hid (hK0.then_ hk1)
  clear HB0 hk1 hK0 hl hb0 hb1 hb2 hb3
  go_wp2_with fail
  cases hv : okC cs.length rs.length r
  all_goals have HV := Lib.hid hv
  all_goals clear hv
  · go_region_held3 (fun w' => Hold9 w' w.heap.size (w.heap.size + 1) (w.heap.size + 1 + 1) (.slice A0 cs.length c0) (.slice A1 rs.length c1) (.slice A2 is.length c2) (.int .i64 c.op) (.int .i64 c.n) (.slice A c.args.length cap))
      (first
        | exact HB1.out.hold
        | with_reducible exact HB2.out.hold
        | with_reducible exact HB3.out.hold
        | with_reducible exact (HB3.out.set _ _ _).hold
        | fail)
      (first
        | (go_at_call 36; refine (HNN.out _ (HK1.out.drew)).mono ?_; clear HNN; rintro e w2 ⟨B, d, rfl, hr2, hk2⟩; have HK2 := Lib.hid (HK1.out.drew.then_ hk2); have HB2 := Lib.hid (HB1.out.keep ((Keeps.refl (fun _ => False) w1).drew.then_ hk2)); have HR2 := Lib.hid (hr2.mono (ok' := fun k => w1.heap.size ≤ k) (fun k hk => hk)); clear hr2 hk2)
        | (go_at_call 41; refine (csmall_no cs.length rs.length r B d _ A0 A1 c0 c1 _ _ HR2.out (HT.out.keep HK2.out (fun h => h)) hnc hnr HV.out).mono ?_; rintro e w3 ⟨rfl, hk3⟩; have HK3 := Lib.hid (HK2.out.then_ hk3); have HB3 := Lib.hid (HB2.out.keep hk3); have HR3 := Lib.hid (HR2.out.keep hk3 (fun _ _ h => h)); clear hk3))
    rename_i hHeld
    clear hHeld
    obtain ⟨u0, u1, u2, hr⟩ := HB3.out.r
    generalize hW4 : World.setCell _ _ _ = W4
    have hb : W4.heap[w.heap.size + 1 + 1]? = some (.cells #[.int .i64 0, .int .i64 0, .slice none 0 0] 48 (0, 0)) := by rw [← hW4]; exact blkSet (blkSet (blkSet hr 0 _) 1 _) 2 _
    have hK4 : Keeps (fun i => i = w.heap.size + 1 + 1) w3 W4 := by rw [← hW4]; repeat (first | exact Keeps.refl _ _ | refine Keeps.drewN ?_ _ | refine Keeps.drew ?_ | refine Keeps.alloc ?_ _ | refine Keeps.set ?_ (Or.inl (by rfl)) _)
    clear hW4
    have hl2 : w.heap.size + 1 + 1 < w3.heap.size := blkLt hr
    have HK4 := Lib.hid ((HK3.out.of0.then_ hK4).new (fun i hi => by omega))
    go_wp2_with fail
    obtain ⟨t0, t1, t2⟩ := cells3 hb
    refine bodyPost_ret (v := .tuple #[.agg #[.int .i64 0, .int .i64 0, .slice none 0 0], .int .i64 2]) (by simp [results, Tryd.results22, go_sem, t0, t1, t2]) rfl ⟨HK4.out, B, d, by rw [HV.out]; rfl, ?_⟩
    obtain ⟨_, _, _, hr1⟩ := HB1.out.r
    have hl1 := blkLt hr1
    have hs1 := HK1.out.size
    exact (HR3.out.keep hK4 (fun k hk he => by omega)).mono (fun k hk => by omega)
  · go_region_held3 (fun w' => Hold9 w' w.heap.size (w.heap.size + 1) (w.heap.size + 1 + 1) (.slice A0 cs.length c0) (.slice A1 rs.length c1) (.slice A2 is.length c2) (.int .i64 c.op) (.int .i64 c.n) (.slice A c.args.length cap))
      (first
        | exact HB1.out.hold
        | with_reducible exact HB2.out.hold
        | with_reducible exact HB3.out.hold
        | with_reducible exact (HB3.out.set _ _ _).hold
        | fail)
      (first
        | (go_at_call 36; refine (HNN.out _ (HK1.out.drew)).mono ?_; clear HNN; rintro e w2 ⟨B, d, rfl, hr2, hk2⟩; have HK2 := Lib.hid (HK1.out.drew.then_ hk2); have HB2 := Lib.hid (HB1.out.keep ((Keeps.refl (fun _ => False) w1).drew.then_ hk2)); have HR2 := Lib.hid (hr2.mono (ok' := fun k => w1.heap.size ≤ k) (fun k hk => hk)); clear hr2 hk2)
        | (go_at_call 41; refine (csmall_yes cs.length rs.length r B d _ A0 A1 c0 c1 _ _ HR2.out (HT.out.keep HK2.out (fun h => h)) hnc hnr HV.out).mono ?_; rintro e w3 ⟨rfl, hk3⟩; have HK3 := Lib.hid (HK2.out.then_ hk3); have HB3 := Lib.hid (HB2.out.keep hk3); have HR3 := Lib.hid (HR2.out.keep hk3 (fun _ _ h => h)); clear hk3))
    rename_i hHeld
    clear hHeld
    obtain ⟨u0, u1, u2, hr⟩ := HB3.out.r
    generalize hW4 : World.setCell _ _ _ = W4
    have hb : W4.heap[w.heap.size + 1 + 1]? = some (.cells #[.int .i64 r.op, .int .i64 r.n, .slice B r.args.length d] 48 (0, 0)) := by rw [← hW4]; exact blkSet (blkSet (blkSet hr 0 _) 1 _) 2 _
    have hK4 : Keeps (fun i => i = w.heap.size + 1 + 1) w3 W4 := by rw [← hW4]; repeat (first | exact Keeps.refl _ _ | refine Keeps.drewN ?_ _ | refine Keeps.drew ?_ | refine Keeps.alloc ?_ _ | refine Keeps.set ?_ (Or.inl (by rfl)) _)
    clear hW4
    have hl2 : w.heap.size + 1 + 1 < w3.heap.size := blkLt hr
    have HK4 := Lib.hid ((HK3.out.of0.then_ hK4).new (fun i hi => by omega))
    go_wp2_with fail
    obtain ⟨t0, t1, t2⟩ := cells3 hb
    refine bodyPost_ret (v := .tuple #[.agg #[.int .i64 r.op, .int .i64 r.n, .slice B r.args.length d], .int .i64 0]) (by simp [results, Tryd.results22, go_sem, t0, t1, t2]) rfl ⟨HK4.out, B, d, by rw [HV.out]; rfl, ?_⟩
    obtain ⟨_, _, _, hr1⟩ := HB1.out.r
    have hl1 := blkLt hr1
    have hs1 := HK1.out.size
    exact (HR3.out.keep hK4 (fun k hk he => by omega)).mono (fun k hk => by omega)
end Go.Proofs.YtoafelppnagpbaaDoor
