/- What isagogeref01.CopyNames and isagogeref02.Copy compute: the same data, in new memory. -/
import Derived.Test.YtoafelppnagpbaaDoorCopyR
import Derived.Test.YtoafelppnagpbaaDoorRow
import Derived.Test.YtoafelppnagpbaaDoorNames
import Derived.Test.YtoafelppnagpbaaDoorReads
import Derived.Deep.RegionHeld3
namespace Go.Proofs.YtoafelppnagpbaaDoor
open Go.RowKit
set_option linter.unusedVariables false
set_option linter.unusedSimpArgs false
def encS (s : ByteArray) : List Value := [.string s]
def encRo (x : Int × Int) : List Value := [.int .i64 x.1, .int .i64 x.2]
def encLi (x : Int × Int × Int) : List Value := [.int .i64 x.1, .int .i64 x.2.1, .int .i64 x.2.2]
theorem strSrc {ok : Nat → Prop} {w : World} {l : List ByteArray} {A : Option Addr} {cap : Nat} (h : Row1 ok w Value.string l A) : ∀ w', Keeps (fun _ => False) w w' → Src Tryd.prog 1 22 (.slice A l.length cap) l.length (l.flatMap encS) w' :=
  rowSrc (ok := ok) (fun _ => rfl) (by decide) (fun x u hu => by simp only [encS, List.mem_singleton] at hu; subst hu; rfl) Tryd.underlying22 (fun hl => by
    obtain ⟨b, o, e, hb, hc⟩ := h hl
    refine ⟨b, o, e, hb, fun i hi j hj => ?_⟩
    obtain rfl : j = 0 := by omega
    rw [Nat.mul_one, Nat.add_zero, hc i hi]; rfl)
theorem roleSrc {ok : Nat → Prop} {w : World} {l : List (Int × Int)} {A : Option Addr} {cap : Nat} (h : RolesR ok w l A) : ∀ w', Keeps (fun _ => False) w w' → Src Tryd.prog 2 26 (.slice A l.length cap) l.length (l.flatMap encRo) w' :=
  rowSrc (ok := ok) (fun _ => rfl) (by decide) (fun x u hu => by simp only [encRo, List.mem_cons, List.not_mem_nil, or_false] at hu; rcases hu with rfl | rfl <;> rfl) Tryd.underlying26 (fun hl => by
    obtain ⟨b, o, e, hb, hc⟩ := h hl
    refine ⟨b, o, e, hb, fun i hi j hj => ?_⟩
    match j, hj with
    | 0, _ => rw [Nat.add_zero, (hc i hi).1]; rfl
    | 1, _ => rw [(hc i hi).2]; rfl)
theorem linkSrc {ok : Nat → Prop} {w : World} {l : List (Int × Int × Int)} {A : Option Addr} {cap : Nat} (h : LinksR ok w l A) : ∀ w', Keeps (fun _ => False) w w' → Src Tryd.prog 3 28 (.slice A l.length cap) l.length (l.flatMap encLi) w' :=
  rowSrc (ok := ok) (fun _ => rfl) (by decide) (fun x u hu => by simp only [encLi, List.mem_cons, List.not_mem_nil, or_false] at hu; rcases hu with rfl | rfl | rfl <;> rfl) Tryd.underlying28 (fun hl => by
    obtain ⟨b, o, e, hb, hc⟩ := h hl
    refine ⟨b, o, e, hb, fun i hi j hj => ?_⟩
    match j, hj with
    | 0, _ => rw [Nat.add_zero, (hc i hi).1]; rfl
    | 1, _ => rw [(hc i hi).2.1]; rfl
    | 2, _ => rw [(hc i hi).2.2]; rfl)
/-- A row of the call's own that holds such elements. -/
theorem ownedFlat {α : Type} {w : World} {base e k n : Nat} {v : Value} {enc : α → List Value} {l : List α} (hk : ∀ x, (enc x).length = k) (h : w.ownsRow base e k v n (l.flatMap enc)) (hn : n = l.length) :
    ∃ A c, v = .slice A l.length c ∧ l.length ≤ c ∧ (l ≠ [] → ∃ b o, A = some ⟨b, o, none⟩ ∧ base ≤ b ∧ ∀ i (h : i < l.length) j, j < k → w.cell? ⟨b, o + i * k + j, none⟩ = (enc l[i])[j]?) := by
  subst hn
  rcases h.2 with ⟨rfl, h0⟩ | ⟨g, cap, cur, rfl, hg, hh, hc, _, _, ht⟩
  · exact ⟨none, 0, by rw [h0], by omega, fun hl => absurd (List.eq_nil_of_length_eq_zero h0) hl⟩
  · refine ⟨_, cap, rfl, hc, fun _ => ⟨g, 0, rfl, hg, fun i hi j hj => ?_⟩⟩
    have hx := flatE_at hk l i hi j hj
    have hb : i * k + j < l.length * k := by
      have := Nat.mul_le_mul_right k (show i + 1 ≤ l.length by omega)
      rw [Nat.add_mul] at this
      omega
    rw [← hx, blkCell hh, Nat.zero_add, ← ht, List.getElem?_take_of_lt hb]
    simp
theorem ownedStrs {w : World} {base n : Nat} {v : Value} {l : List ByteArray} (h : w.ownsRow base 9 1 v n (l.flatMap encS)) (hn : n = l.length) : ∃ A c, v = .slice A l.length c ∧ l.length ≤ c ∧ Row1 (fun k => base ≤ k) w Value.string l A := by
  obtain ⟨A, c, e, hc, hr⟩ := ownedFlat (k := 1) (enc := encS) (fun _ => rfl) h hn
  refine ⟨A, c, e, hc, fun hl => ?_⟩
  obtain ⟨b, o, e, hb, hr⟩ := hr hl
  exact ⟨b, o, e, hb, fun i hi => by have := hr i hi 0 (by omega); rw [Nat.mul_one, Nat.add_zero] at this; rw [this]; rfl⟩
theorem ownedRoles {w : World} {base n : Nat} {v : Value} {l : List (Int × Int)} (h : w.ownsRow base 68 2 v n (l.flatMap encRo)) (hn : n = l.length) : ∃ A c, v = .slice A l.length c ∧ l.length ≤ c ∧ RolesR (fun k => base ≤ k) w l A := by
  obtain ⟨A, c, e, hc, hr⟩ := ownedFlat (k := 2) (enc := encRo) (fun _ => rfl) h hn
  refine ⟨A, c, e, hc, fun hl => ?_⟩
  obtain ⟨b, o, e, hb, hr⟩ := hr hl
  exact ⟨b, o, e, hb, fun i hi => ⟨by have := hr i hi 0 (by omega); rw [Nat.add_zero] at this; rw [this]; rfl, by rw [hr i hi 1 (by omega)]; rfl⟩⟩
theorem ownedLinks {w : World} {base n : Nat} {v : Value} {l : List (Int × Int × Int)} (h : w.ownsRow base 89 3 v n (l.flatMap encLi)) (hn : n = l.length) : ∃ A c, v = .slice A l.length c ∧ l.length ≤ c ∧ LinksR (fun k => base ≤ k) w l A := by
  obtain ⟨A, c, e, hc, hr⟩ := ownedFlat (k := 3) (enc := encLi) (fun _ => rfl) h hn
  refine ⟨A, c, e, hc, fun hl => ?_⟩
  obtain ⟨b, o, e, hb, hr⟩ := hr hl
  exact ⟨b, o, e, hb, fun i hi => ⟨by have := hr i hi 0 (by omega); rw [Nat.add_zero] at this; rw [this]; rfl, by rw [hr i hi 1 (by omega)]; rfl, by rw [hr i hi 2 (by omega)]; rfl⟩⟩
theorem Keeps.emp {w w' : World} (h : Keeps (fun k => (Value.slice none 0 0).ownBlock = some k) w w') : Keeps (fun _ => False) w w' := ⟨h.os, h.tape, h.output, h.size, fun k hk _ => h.block k hk (by simp [Value.ownBlock])⟩
/-- A box that is read, and one that is written. -/
structure BlkNR (w : World) (gn gr : Nat) (a b c : Value) : Prop where
  n : w.heap[gn]? = some (.cells #[a, b, c] 24 (0, 0))
  r : ∃ u0 u1 u2, w.heap[gr]? = some (.cells #[u0, u1, u2] 24 (0, 0))
  d : gn ≠ gr
abbrev HoldNR (w : World) (gn gr : Nat) (a b c : Value) : Prop :=
  w.cell? ⟨gn, 0, none⟩ = some a ∧ w.cell? ⟨gn, 1, none⟩ = some b ∧ w.cell? ⟨gn, 2, none⟩ = some c ∧
    w.cell? ⟨gr, 0, none⟩ = some (cellAt w gr 0) ∧ w.cell? ⟨gr, 1, none⟩ = some (cellAt w gr 1) ∧ w.cell? ⟨gr, 2, none⟩ = some (cellAt w gr 2) ∧ w.frozen? ⟨gr, 0, none⟩ = false ∧ w.frozen? ⟨gr, 1, none⟩ = false ∧ w.frozen? ⟨gr, 2, none⟩ = false
theorem BlkNR.hold {w : World} {gn gr : Nat} {a b c : Value} (h : BlkNR w gn gr a b c) : HoldNR w gn gr a b c := by
  obtain ⟨u0, u1, u2, hr⟩ := h.r
  obtain ⟨x0, x1, x2⟩ := cells3 h.n
  obtain ⟨z0, z1, z2⟩ := cells3 hr
  exact ⟨x0, x1, x2, cellAt_eq z0, cellAt_eq z1, cellAt_eq z2, blkFree hr 0, blkFree hr 1, blkFree hr 2⟩
theorem BlkNR.keep {w w' : World} {gn gr : Nat} {a b c : Value} (h : BlkNR w gn gr a b c) (hk : Keeps (fun _ => False) w w') : BlkNR w' gn gr a b c := by
  obtain ⟨u0, u1, u2, hr⟩ := h.r
  exact ⟨hk.blk h.n (fun h => h), ⟨u0, u1, u2, hk.blk hr (fun h => h)⟩, h.d⟩
theorem BlkNR.set {w : World} {gn gr : Nat} {a b c : Value} (h : BlkNR w gn gr a b c) (t0 t1 t2 : Value) : BlkNR (((w.setCell ⟨gr, 0, none⟩ t0).setCell ⟨gr, 1, none⟩ t1).setCell ⟨gr, 2, none⟩ t2) gn gr a b c := by
  obtain ⟨u0, u1, u2, hr⟩ := h.r
  have hk : Keeps (fun i => i = gr) w (((w.setCell ⟨gr, 0, none⟩ t0).setCell ⟨gr, 1, none⟩ t1).setCell ⟨gr, 2, none⟩ t2) := (((Keeps.refl (fun i => i = gr) w).set (g := gr) (Or.inl rfl) t0).set (g := gr) (Or.inl rfl) t1).set (g := gr) (Or.inl rfl) t2
  exact ⟨hk.blk h.n h.d, ⟨t0, t1, t2, blkSet (blkSet (blkSet hr 0 _) 1 _) 2 _⟩, h.d⟩
theorem infoStr1 : (Tryd.prog.info? 9).map (fun i => (i.zero, i.size, i.bytes)) = some (some (.string ⟨#[]⟩), 1, 16) := by kernel_rfl
theorem infoRole1 : (Tryd.prog.info? 68).map (fun i => (i.zero, i.size, i.bytes)) = some (some (.agg #[.int .i64 0, .int .i64 0]), 2, 16) := by kernel_rfl
theorem infoLink1 : (Tryd.prog.info? 89).map (fun i => (i.zero, i.size, i.bytes)) = some (some (.agg #[.int .i64 0, .int .i64 0, .int .i64 0]), 3, 24) := by kernel_rfl
theorem infoIncl1 : (Tryd.prog.info? 66).map (fun i => (i.zero, i.size, i.bytes)) = some (some (.agg #[.int .i64 0, .int .i64 0, .slice none 0 0, .int .i64 0, .int .i64 0, .slice none 0 0]), 6, 80) := by kernel_rfl
theorem infoFact1 : (Tryd.prog.info? 74).map (fun i => (i.zero, i.size, i.bytes)) = some (some (.agg #[.int .i64 0, .int .i64 0, .int .i64 0, .slice none 0 0]), 4, 48) := by kernel_rfl
/-- Names are returned, in new memory. -/
def RetNames (cs rs is : List ByteArray) (w : World) (e : Ending) (w' : World) : Prop :=
  ∃ B0 B1 B2 d0 d1 d2, e = .returned (.agg #[.slice B0 cs.length d0, .slice B1 rs.length d1, .slice B2 is.length d2]) ∧ (cs.length ≤ d0 ∧ rs.length ≤ d1 ∧ is.length ≤ d2) ∧
    Row1 (fun k => w.heap.size ≤ k) w' Value.string cs B0 ∧ Row1 (fun k => w.heap.size ≤ k) w' Value.string rs B1 ∧ Row1 (fun k => w.heap.size ≤ k) w' Value.string is B2 ∧ Keeps (fun _ => False) w w'
set_option maxRecDepth 100000 in
set_option maxHeartbeats 4000000 in
theorem copyNames_calls (cs rs is : List ByteArray) (ok : Nat → Prop) (A0 A1 A2 : Option Addr) (c0 c1 c2 : Nat) (w : World) (h0 : Row1 ok w Value.string cs A0) (h1 : Row1 ok w Value.string rs A1) (h2 : Row1 ok w Value.string is A2) (n0 : cs.length ≤ 1000) (n1 : rs.length ≤ 1000) (n2 : is.length ≤ 1000) :
    Calls Tryd.prog 32 #[.agg #[.slice A0 cs.length c0, .slice A1 rs.length c1, .slice A2 is.length c2]] w (RetNames cs rs is w) := by
  have HS0 := Lib.hid (strSrc (cap := c0) h0)
  have HS1 := Lib.hid (strSrc (cap := c1) h1)
  have HS2 := Lib.hid (strSrc (cap := c2) h2)
  clear h0 h1 h2
  go_enter Tryd.func32, Tryd.ntmps32
  go_wp2_with fail
  generalize hW0 : World.alloc _ _ = W0
  have hK0 : Keeps (fun _ => False) w W0 := by rw [← hW0]; repeat (first | exact Keeps.refl _ _ | refine Keeps.drewN ?_ _ | refine Keeps.drew ?_ | refine Keeps.alloc ?_ _ | refine Keeps.set ?_ (Or.inl (by rfl)) _)
  have hb0 : W0.heap[w.heap.size]? = some (.cells #[.slice A0 cs.length c0, .slice A1 rs.length c1, .slice A2 is.length c2] 24 (0, 0)) := by rw [← hW0]; exact blkAlloc (blkNew rfl) _
  have hb1 : W0.heap[w.heap.size + 1]? = some (.cells #[.slice none 0 0, .slice none 0 0, .slice none 0 0] 24 (0, 0)) := by rw [← hW0]; exact blkNew (by simp)
  clear hW0
  have HB0 : Hid (BlkNR W0 w.heap.size (w.heap.size + 1) (.slice A0 cs.length c0) (.slice A1 rs.length c1) (.slice A2 is.length c2)) := Lib.hid ⟨hb0, ⟨_, _, _, hb1⟩, by omega⟩
  have HK0 := Lib.hid hK0
  have hz0 := hK0.size
  clear hb0 hb1 hK0
  go_region_held3 (fun w' => HoldNR w' w.heap.size (w.heap.size + 1) (.slice A0 cs.length c0) (.slice A1 rs.length c1) (.slice A2 is.length c2))
    (first
      | exact HB0.out.hold
      | with_reducible exact HB5.out.hold
      | with_reducible exact HB6.out.hold
      | with_reducible exact HB7.out.hold
      | with_reducible exact (HB7.out.set _ _ _).hold
      | fail)
    (first
      | (refine step_appG rfl _ _ 22 22 (by rfl) W0.heap.size 9 _ 1 16 Tryd.underlying22 infoStr1 rfl (by decide) (by decide) (.slice none 0 0) 0 [] (World.ownsRow_nil _ _ _ _) (by rfl) (.slice A0 cs.length c0) cs.length (cs.flatMap encS) (HS0.out _ (HK0.out.drew)) (by rfl) (by omega) (by first | exact Nat.le_refl _ | omega) ?_; intro v5 w5 ho5 hk5; rw [List.nil_append] at ho5; obtain ⟨B0, d0, rfl, hd0, hr0⟩ := ownedStrs ho5 (by omega); have HK5 := Lib.hid (HK0.out.drew.then_ hk5.emp); have HB5 := Lib.hid (HB0.out.keep ((Keeps.refl (fun _ => False) W0).drew.then_ hk5.emp)); have hz5 : W0.heap.size ≤ w5.heap.size := hk5.size; have HR05 := Lib.hid hr0; clear hr0 ho5 hk5)
      | (refine step_appG rfl _ _ 22 22 (by rfl) W0.heap.size 9 _ 1 16 Tryd.underlying22 infoStr1 rfl (by decide) (by decide) (.slice none 0 0) 0 [] (World.ownsRow_nil _ _ _ _) (by rfl) (.slice A1 rs.length c1) rs.length (rs.flatMap encS) (HS1.out _ (HK5.out)) (by rfl) (by omega) (by omega) ?_; intro v6 w6 ho6 hk6; rw [List.nil_append] at ho6; obtain ⟨B1, d1, rfl, hd1, hr1⟩ := ownedStrs ho6 (by omega); have HK6 := Lib.hid (HK5.out.then_ hk6.emp); have HB6 := Lib.hid (HB5.out.keep hk6.emp); have hz6 : W0.heap.size ≤ w6.heap.size := Nat.le_trans hz5 hk6.size; have HR16 := Lib.hid hr1; have HR06 := Lib.hid (HR05.out.keep hk6.emp (fun _ _ h => h)); clear hr1 ho6 hk6)
      | (refine step_appG rfl _ _ 22 22 (by rfl) W0.heap.size 9 _ 1 16 Tryd.underlying22 infoStr1 rfl (by decide) (by decide) (.slice none 0 0) 0 [] (World.ownsRow_nil _ _ _ _) (by rfl) (.slice A2 is.length c2) is.length (is.flatMap encS) (HS2.out _ (HK6.out)) (by rfl) (by omega) (by omega) ?_; intro v7 w7 ho7 hk7; rw [List.nil_append] at ho7; obtain ⟨B2, d2, rfl, hd2, hr2⟩ := ownedStrs ho7 (by omega); have HK7 := Lib.hid (HK6.out.then_ hk7.emp); have HB7 := Lib.hid (HB6.out.keep hk7.emp); have hz7 : W0.heap.size ≤ w7.heap.size := Nat.le_trans hz6 hk7.size; have HR27 := Lib.hid hr2; have HR07 := Lib.hid (HR06.out.keep hk7.emp (fun _ _ h => h)); have HR17 := Lib.hid (HR16.out.keep hk7.emp (fun _ _ h => h)); clear hr2 ho7 hk7)
      | fail)
  rename_i hHeld
  clear hHeld
  obtain ⟨u0, u1, u2, hr⟩ := HB7.out.r
  generalize hW8 : World.setCell _ _ _ = W8
  have hb : W8.heap[w.heap.size + 1]? = some (.cells #[.slice B0 cs.length d0, .slice B1 rs.length d1, .slice B2 is.length d2] 24 (0, 0)) := by rw [← hW8]; exact blkSet (blkSet (blkSet hr 0 _) 1 _) 2 _
  have hK8 : Keeps (fun i => i = w.heap.size + 1) w7 W8 := by rw [← hW8]; repeat (first | exact Keeps.refl _ _ | refine Keeps.drewN ?_ _ | refine Keeps.drew ?_ | refine Keeps.alloc ?_ _ | refine Keeps.set ?_ (Or.inl (by rfl)) _)
  clear hW8
  have hl8 := blkLt hr
  have HK8 := Lib.hid ((HK7.out.of0.then_ hK8).new (fun i hi => by omega))
  obtain ⟨_, _, _, hr0⟩ := HB0.out.r
  have hl0 := blkLt hr0
  have HF := Lib.hid (And.intro ((HR07.out.keep hK8 (fun k hk he => by omega)).mono (ok' := fun k => w.heap.size ≤ k) (fun k hk => by omega)) (And.intro ((HR17.out.keep hK8 (fun k hk he => by omega)).mono (ok' := fun k => w.heap.size ≤ k) (fun k hk => by omega)) ((HR27.out.keep hK8 (fun k hk he => by omega)).mono (ok' := fun k => w.heap.size ≤ k) (fun k hk => by omega))))
  clear hr hr0 hK8 HR07 HR17 HR27
  go_wp2_with fail
  obtain ⟨t0, t1, t2⟩ := cells3 hb
  refine bodyPost_ret (v := .agg #[.slice B0 cs.length d0, .slice B1 rs.length d1, .slice B2 is.length d2]) (by simp [results, Tryd.results32, go_sem, t0, t1, t2]) rfl ⟨B0, B1, B2, d0, d1, d2, rfl, ⟨hd0, hd1, hd2⟩, HF.out.1, HF.out.2.1, HF.out.2.2, HK8.out⟩
def rdIncl (ok : Nat → Prop) (w : World) (x : Con × Con) (vs : List Value) : Prop :=
  ∃ A1 c1 A2 c2, vs = [.int .i64 x.1.op, .int .i64 x.1.n, .slice A1 x.1.args.length c1, .int .i64 x.2.op, .int .i64 x.2.n, .slice A2 x.2.args.length c2] ∧ ConR ok w x.1 [.int .i64 x.1.op, .int .i64 x.1.n, .slice A1 x.1.args.length c1] ∧ ConR ok w x.2 [.int .i64 x.2.op, .int .i64 x.2.n, .slice A2 x.2.args.length c2]
theorem rdIncl_ok : RowRd rdIncl where
  keep := fun h hk hs => by obtain ⟨A1, c1, A2, c2, e, h1, h2⟩ := h; exact ⟨A1, c1, A2, c2, e, h1.keep hk hs, h2.keep hk hs⟩
  mono := fun h ho => by obtain ⟨A1, c1, A2, c2, e, h1, h2⟩ := h; exact ⟨A1, c1, A2, c2, e, h1.mono ho, h2.mono ho⟩
  lim := fun h => by obtain ⟨A1, c1, A2, c2, e, h1, h2⟩ := h; exact ⟨A1, c1, A2, c2, e, h1.lim, h2.lim⟩
def rdFact (ok : Nat → Prop) (w : World) (x : Int × Con) (vs : List Value) : Prop :=
  ∃ A1 c1, vs = [.int .i64 x.1, .int .i64 x.2.op, .int .i64 x.2.n, .slice A1 x.2.args.length c1] ∧ ConR ok w x.2 [.int .i64 x.2.op, .int .i64 x.2.n, .slice A1 x.2.args.length c1]
theorem rdFact_ok : RowRd rdFact where
  keep := fun h hk hs => by obtain ⟨A1, c1, e, h1⟩ := h; exact ⟨A1, c1, e, h1.keep hk hs⟩
  mono := fun h ho => by obtain ⟨A1, c1, e, h1⟩ := h; exact ⟨A1, c1, e, h1.mono ho⟩
  lim := fun h => by obtain ⟨A1, c1, e, h1⟩ := h; exact ⟨A1, c1, e, h1.lim⟩
theorem inclsOf {w : World} {base : Nat} {v : Value} {l : List (Con × Con)} (h : OwnRow 66 6 rdIncl w base v l) : ∃ A cap, v = .slice A l.length cap ∧ l.length ≤ cap ∧ InclsR (fun k => base ≤ k) w l A := by
  obtain ⟨A, cap, e, hc, hr⟩ := h.at_ rdIncl_ok
  refine ⟨A, cap, e, hc, fun hl => ?_⟩
  obtain ⟨b, rfl, hb, hr⟩ := hr hl
  refine ⟨b, 0, rfl, hb, fun i hi => ?_⟩
  obtain ⟨vs, _, hc, A1, c1, A2, c2, rfl, h1, h2⟩ := hr i hi
  exact ⟨A1, c1, A2, c2, hc 0 (by omega), hc 1 (by omega), hc 2 (by omega), hc 3 (by omega), hc 4 (by omega), hc 5 (by omega), h1, h2⟩
theorem factsOf {w : World} {base : Nat} {v : Value} {l : List (Int × Con)} (h : OwnRow 74 4 rdFact w base v l) : ∃ A cap, v = .slice A l.length cap ∧ l.length ≤ cap ∧ FactsR (fun k => base ≤ k) w l A := by
  obtain ⟨A, cap, e, hc, hr⟩ := h.at_ rdFact_ok
  refine ⟨A, cap, e, hc, fun hl => ?_⟩
  obtain ⟨b, rfl, hb, hr⟩ := hr hl
  refine ⟨b, 0, rfl, hb, fun i hi => ?_⟩
  obtain ⟨vs, _, hc, A1, c1, rfl, h1⟩ := hr i hi
  exact ⟨A1, c1, hc 0 (by omega), hc 1 (by omega), hc 2 (by omega), hc 3 (by omega), h1⟩
/-- A knowledge base is returned, in new memory. -/
def RetKb (b : Kb) (w : World) (e : Ending) (w' : World) : Prop :=
  ∃ q : KbA, e = .returned (.agg #[.slice q.a0 b.cs.length q.c0, .slice q.a1 b.rs.length q.c1, .slice q.a2 b.is.length q.c2, .slice q.a3 b.incls.length q.c3, .slice q.a4 b.roles.length q.c4, .slice q.a5 b.facts.length q.c5, .slice q.a6 b.links.length q.c6]) ∧ KbR (fun k => w.heap.size ≤ k) w' b q ∧ Keeps (fun _ => False) w w'
abbrev HoldK7 (w : World) (g : Nat) (v0 v1 v2 v3 v4 v5 v6 : Value) : Prop :=
  w.cell? ⟨g, 0, none⟩ = some v0 ∧ w.cell? ⟨g, 1, none⟩ = some v1 ∧ w.cell? ⟨g, 2, none⟩ = some v2 ∧ w.cell? ⟨g, 3, none⟩ = some v3 ∧ w.cell? ⟨g, 4, none⟩ = some v4 ∧ w.cell? ⟨g, 5, none⟩ = some v5 ∧ w.cell? ⟨g, 6, none⟩ = some v6
theorem RolesR.lim {ok : Nat → Prop} {w : World} {l : List (Int × Int)} {A : Option Addr} (h : RolesR ok w l A) : RolesR (fun k => ok k ∧ k < w.heap.size) w l A := fun hl => by
  obtain ⟨b, o, e, hb, hc⟩ := h hl
  exact ⟨b, o, e, ⟨hb, World.block_lt_of_cell? w _ (hc 0 (List.length_pos_iff.2 hl)).1⟩, hc⟩
theorem LinksR.lim {ok : Nat → Prop} {w : World} {l : List (Int × Int × Int)} {A : Option Addr} (h : LinksR ok w l A) : LinksR (fun k => ok k ∧ k < w.heap.size) w l A := fun hl => by
  obtain ⟨b, o, e, hb, hc⟩ := h hl
  exact ⟨b, o, e, ⟨hb, World.block_lt_of_cell? w _ (hc 0 (List.length_pos_iff.2 hl)).1⟩, hc⟩
/-- Names, roles and links of a knowledge base, whatever else it has. -/
structure PartR (ok : Nat → Prop) (w : World) (b : Kb) (B0 B1 B2 B4 B6 : Option Addr) (d0 d1 d2 d4 d6 : Nat) : Prop where
  cs : Row1 ok w Value.string b.cs B0
  rs : Row1 ok w Value.string b.rs B1
  is : Row1 ok w Value.string b.is B2
  roles : RolesR ok w b.roles B4
  links : LinksR ok w b.links B6
  l0 : b.cs.length ≤ d0
  l1 : b.rs.length ≤ d1
  l2 : b.is.length ≤ d2
  l4 : b.roles.length ≤ d4
  l6 : b.links.length ≤ d6
theorem PartR.keep {ok S : Nat → Prop} {w w' : World} {b : Kb} {B0 B1 B2 B4 B6 : Option Addr} {d0 d1 d2 d4 d6 : Nat} (h : PartR ok w b B0 B1 B2 B4 B6 d0 d1 d2 d4 d6) (hk : Keeps S w w') (hs : ∀ k, ok k → ¬ S k) : PartR ok w' b B0 B1 B2 B4 B6 d0 d1 d2 d4 d6 :=
  { h with cs := h.cs.keep hk hs, rs := h.rs.keep hk hs, is := h.is.keep hk hs, roles := h.roles.keep hk hs, links := h.links.keep hk hs }
theorem Keeps.setNe {x g o : Nat} (hne : g ≠ x) {a w : World} (h : Keeps (fun i => i ≠ x) a w) (u : Value) : Keeps (fun i => i ≠ x) a (w.setCell ⟨g, o, none⟩ u) := h.set (g := g) (Or.inl hne) u
/-- What stands behind the making of the copy's box: where it lies, what it holds. -/
def CopyCut (b : Kb) (W0 : World) (v : Value) (wc : World) : Prop :=
  ∃ go B0 B1 B2 B4 B6 d0 d1 d2 d4 d6, v = .pointer (some ⟨go, 0, none⟩) ∧ W0.heap.size ≤ go ∧ wc.heap[go]? = some (.cells #[.slice B0 b.cs.length d0, .slice B1 b.rs.length d1, .slice B2 b.is.length d2, .slice none 0 0, .slice B4 b.roles.length d4, .slice none 0 0, .slice B6 b.links.length d6] 30 (0, 0)) ∧
    PartR (fun k => W0.heap.size ≤ k ∧ k ≠ go) wc b B0 B1 B2 B4 B6 d0 d1 d2 d4 d6 ∧ Keeps (fun _ => False) W0 wc
theorem partR_of {ok0 ok4 ok6 ok : Nat → Prop} {w : World} {b : Kb} {B0 B1 B2 B4 B6 : Option Addr} {d0 d1 d2 d4 d6 : Nat} (hd : b.cs.length ≤ d0 ∧ b.rs.length ≤ d1 ∧ b.is.length ≤ d2) (hd4 : b.roles.length ≤ d4) (hd6 : b.links.length ≤ d6)
    (r0 : Row1 ok0 w Value.string b.cs B0) (r1 : Row1 ok0 w Value.string b.rs B1) (r2 : Row1 ok0 w Value.string b.is B2) (r4 : RolesR ok4 w b.roles B4) (r6 : LinksR ok6 w b.links B6) (h0 : ∀ k, ok0 k → ok k) (h4 : ∀ k, ok4 k → ok k) (h6 : ∀ k, ok6 k → ok k) : PartR ok w b B0 B1 B2 B4 B6 d0 d1 d2 d4 d6 where
  cs := r0.mono h0
  rs := r1.mono h0
  is := r2.mono h0
  roles := fun hl => by obtain ⟨c, o, e, hb, hc⟩ := r4 hl; exact ⟨c, o, e, h4 c hb, hc⟩
  links := fun hl => by obtain ⟨c, o, e, hb, hc⟩ := r6 hl; exact ⟨c, o, e, h6 c hb, hc⟩
  l0 := hd.1
  l1 := hd.2.1
  l2 := hd.2.2
  l4 := hd4
  l6 := hd6
theorem blkSet7 {w : World} {g : Nat} {t : TypeId} {z0 z1 z2 z3 z4 z5 z6 : Value} (h : w.heap[g]? = some (.cells #[z0, z1, z2, z3, z4, z5, z6] t (0, 0))) (v0 v1 v2 v3 v4 v5 v6 : Value) : (((((((w.setCell ⟨g, 0, none⟩ v0).setCell ⟨g, 1, none⟩ v1).setCell ⟨g, 2, none⟩ v2).setCell ⟨g, 3, none⟩ v3).setCell ⟨g, 4, none⟩ v4).setCell ⟨g, 5, none⟩ v5).setCell ⟨g, 6, none⟩ v6).heap[g]? = some (.cells #[v0, v1, v2, v3, v4, v5, v6] t (0, 0)) := by
  have h0 := blkSet h 0 v0
  rw [show (#[z0, z1, z2, z3, z4, z5, z6] : Array Value).setIfInBounds 0 v0 = #[v0, z1, z2, z3, z4, z5, z6] from rfl] at h0
  have h1 := blkSet h0 1 v1
  rw [show (#[v0, z1, z2, z3, z4, z5, z6] : Array Value).setIfInBounds 1 v1 = #[v0, v1, z2, z3, z4, z5, z6] from rfl] at h1
  have h2 := blkSet h1 2 v2
  rw [show (#[v0, v1, z2, z3, z4, z5, z6] : Array Value).setIfInBounds 2 v2 = #[v0, v1, v2, z3, z4, z5, z6] from rfl] at h2
  have h3 := blkSet h2 3 v3
  rw [show (#[v0, v1, v2, z3, z4, z5, z6] : Array Value).setIfInBounds 3 v3 = #[v0, v1, v2, v3, z4, z5, z6] from rfl] at h3
  have h4 := blkSet h3 4 v4
  rw [show (#[v0, v1, v2, v3, z4, z5, z6] : Array Value).setIfInBounds 4 v4 = #[v0, v1, v2, v3, v4, z5, z6] from rfl] at h4
  have h5 := blkSet h4 5 v5
  rw [show (#[v0, v1, v2, v3, v4, z5, z6] : Array Value).setIfInBounds 5 v5 = #[v0, v1, v2, v3, v4, v5, z6] from rfl] at h5
  have h6 := blkSet h5 6 v6
  rw [show (#[v0, v1, v2, v3, v4, v5, z6] : Array Value).setIfInBounds 6 v6 = #[v0, v1, v2, v3, v4, v5, v6] from rfl] at h6
  exact h6
theorem keeps7 (w : World) (g : Nat) (v0 v1 v2 v3 v4 v5 v6 : Value) : Keeps (fun i => i = g) w (((((((w.setCell ⟨g, 0, none⟩ v0).setCell ⟨g, 1, none⟩ v1).setCell ⟨g, 2, none⟩ v2).setCell ⟨g, 3, none⟩ v3).setCell ⟨g, 4, none⟩ v4).setCell ⟨g, 5, none⟩ v5).setCell ⟨g, 6, none⟩ v6) :=
  ((((((((Keeps.refl (fun i => i = g) w).set (g := g) (Or.inl rfl) v0).set (g := g) (Or.inl rfl) v1).set (g := g) (Or.inl rfl) v2).set (g := g) (Or.inl rfl) v3).set (g := g) (Or.inl rfl) v4).set (g := g) (Or.inl rfl) v5).set (g := g) (Or.inl rfl) v6)
theorem copyCut_set {b : Kb} {W0 w7 : World} {go lo0 hi0 lo4 hi4 lo6 hi6 : Nat} {B0 B1 B2 B4 B6 : Option Addr} {d0 d1 d2 d4 d6 : Nat} {z0 z1 z2 z3 z4 z5 z6 : Value} (hgo : W0.heap.size ≤ go) (hg : w7.heap[go]? = some (.cells #[z0, z1, z2, z3, z4, z5, z6] 30 (0, 0))) (hk : Keeps (fun _ => False) W0 w7) (hd : b.cs.length ≤ d0 ∧ b.rs.length ≤ d1 ∧ b.is.length ≤ d2) (hd4 : b.roles.length ≤ d4) (hd6 : b.links.length ≤ d6)
    (r0 : Row1 (fun k => lo0 ≤ k ∧ k < hi0) w7 Value.string b.cs B0) (r1 : Row1 (fun k => lo0 ≤ k ∧ k < hi0) w7 Value.string b.rs B1) (r2 : Row1 (fun k => lo0 ≤ k ∧ k < hi0) w7 Value.string b.is B2) (r4 : RolesR (fun k => lo4 ≤ k ∧ k < hi4) w7 b.roles B4) (r6 : LinksR (fun k => lo6 ≤ k ∧ k < hi6) w7 b.links B6)
    (n0 : W0.heap.size ≤ lo0 ∧ (go < lo0 ∨ hi0 ≤ go)) (n4 : W0.heap.size ≤ lo4 ∧ (go < lo4 ∨ hi4 ≤ go)) (n6 : W0.heap.size ≤ lo6 ∧ (go < lo6 ∨ hi6 ≤ go)) :
    CopyCut b W0 (.pointer (some ⟨go, 0, none⟩)) (((((((w7.setCell ⟨go, 0, none⟩ (.slice B0 b.cs.length d0)).setCell ⟨go, 1, none⟩ (.slice B1 b.rs.length d1)).setCell ⟨go, 2, none⟩ (.slice B2 b.is.length d2)).setCell ⟨go, 3, none⟩ (.slice none 0 0)).setCell ⟨go, 4, none⟩ (.slice B4 b.roles.length d4)).setCell ⟨go, 5, none⟩ (.slice none 0 0)).setCell ⟨go, 6, none⟩ (.slice B6 b.links.length d6)) := by
  have hkf : Keeps (fun i => i = go) w7 (((((((w7.setCell ⟨go, 0, none⟩ (.slice B0 b.cs.length d0)).setCell ⟨go, 1, none⟩ (.slice B1 b.rs.length d1)).setCell ⟨go, 2, none⟩ (.slice B2 b.is.length d2)).setCell ⟨go, 3, none⟩ (.slice none 0 0)).setCell ⟨go, 4, none⟩ (.slice B4 b.roles.length d4)).setCell ⟨go, 5, none⟩ (.slice none 0 0)).setCell ⟨go, 6, none⟩ (.slice B6 b.links.length d6)) := (((((((Keeps.refl (fun i => i = go) w7).set (g := go) (Or.inl rfl) _).set (g := go) (Or.inl rfl) _).set (g := go) (Or.inl rfl) _).set (g := go) (Or.inl rfl) _).set (g := go) (Or.inl rfl) _).set (g := go) (Or.inl rfl) _).set (g := go) (Or.inl rfl) _
  refine ⟨go, B0, B1, B2, B4, B6, d0, d1, d2, d4, d6, rfl, hgo, blkSet7 hg _ _ _ _ _ _ _, ?_, (hk.of0.then_ hkf).new (fun i hi => by omega)⟩
  exact (partR_of hd hd4 hd6 r0 r1 r2 r4 r6 (ok := fun k => W0.heap.size ≤ k ∧ k ≠ go) (fun k hk => by omega) (fun k hk => by omega) (fun k hk => by omega)).keep hkf (fun k hk he => by omega)
theorem copyCut_new {b : Kb} {W0 w7 : World} {lo0 hi0 lo4 hi4 lo6 hi6 : Nat} {B0 B1 B2 B4 B6 : Option Addr} {d0 d1 d2 d4 d6 : Nat} (hk : Keeps (fun _ => False) W0 w7) (hd : b.cs.length ≤ d0 ∧ b.rs.length ≤ d1 ∧ b.is.length ≤ d2) (hd4 : b.roles.length ≤ d4) (hd6 : b.links.length ≤ d6)
    (r0 : Row1 (fun k => lo0 ≤ k ∧ k < hi0) w7 Value.string b.cs B0) (r1 : Row1 (fun k => lo0 ≤ k ∧ k < hi0) w7 Value.string b.rs B1) (r2 : Row1 (fun k => lo0 ≤ k ∧ k < hi0) w7 Value.string b.is B2) (r4 : RolesR (fun k => lo4 ≤ k ∧ k < hi4) w7 b.roles B4) (r6 : LinksR (fun k => lo6 ≤ k ∧ k < hi6) w7 b.links B6)
    (n0 : W0.heap.size ≤ lo0 ∧ hi0 ≤ w7.heap.size) (n4 : W0.heap.size ≤ lo4 ∧ hi4 ≤ w7.heap.size) (n6 : W0.heap.size ≤ lo6 ∧ hi6 ≤ w7.heap.size) :
    CopyCut b W0 (.pointer (some ⟨w7.heap.size, 0, none⟩)) (w7.alloc (.cells #[.slice B0 b.cs.length d0, .slice B1 b.rs.length d1, .slice B2 b.is.length d2, .slice none 0 0, .slice B4 b.roles.length d4, .slice none 0 0, .slice B6 b.links.length d6] 30)) := by
  have hs := hk.size
  refine ⟨w7.heap.size, B0, B1, B2, B4, B6, d0, d1, d2, d4, d6, rfl, hs, blkNew rfl, ?_, hk.alloc _⟩
  exact (partR_of hd hd4 hd6 r0 r1 r2 r4 r6 (ok := fun k => W0.heap.size ≤ k ∧ k ≠ w7.heap.size) (fun k hk => by omega) (fun k hk => by omega) (fun k hk => by omega)).keep (S := fun _ => False) ((Keeps.refl _ _).alloc _) (fun _ _ h => h)
set_option maxRecDepth 100000 in
set_option maxHeartbeats 16000000 in
theorem copyKb_calls (b : Kb) (p : KbA) (ok : Nat → Prop) (w : World) (hb : KbR ok w b p) (n0 : b.cs.length ≤ 1000) (n1 : b.rs.length ≤ 1000) (n2 : b.is.length ≤ 1000) (n3 : b.incls.length ≤ 1000) (n4 : b.roles.length ≤ 1000) (n5 : b.facts.length ≤ 1000) (n6 : b.links.length ≤ 1000)
    (hz3 : ∀ x ∈ b.incls, x.1.size ≤ 1000 ∧ x.2.size ≤ 1000) (hz5 : ∀ x ∈ b.facts, x.2.size ≤ 1000) :
    Calls Tryd.prog 14 #[.agg #[.slice p.a0 b.cs.length p.c0, .slice p.a1 b.rs.length p.c1, .slice p.a2 b.is.length p.c2, .slice p.a3 b.incls.length p.c3, .slice p.a4 b.roles.length p.c4, .slice p.a5 b.facts.length p.c5, .slice p.a6 b.links.length p.c6]] w (RetKb b w) := by
  have HCN := Lib.hid (fun W (hk : Keeps (fun _ => False) w W) => copyNames_calls b.cs b.rs b.is ok p.a0 p.a1 p.a2 p.c0 p.c1 p.c2 W (hb.cs.keep hk (fun _ _ h => h)) (hb.rs.keep hk (fun _ _ h => h)) (hb.is.keep hk (fun _ _ h => h)) n0 n1 n2)
  have HSR := Lib.hid (roleSrc (cap := p.c4) hb.roles)
  have HSL := Lib.hid (linkSrc (cap := p.c6) hb.links)
  have HB := Lib.hid hb.lim
  have HZ3 := Lib.hid hz3
  have HZ5 := Lib.hid hz5
  obtain ⟨a0, a1, a2, a3, a4, a5, a6, c0, c1, c2, c3, c4, c5, c6⟩ := p
  dsimp only at HCN HSR HSL ⊢
  clear hb hz3 hz5
  go_enter Tryd.func14, Tryd.ntmps14
  go_wp2_with fail
  generalize hW0 : World.alloc _ _ = W0
  have hK0 : Keeps (fun _ => False) w W0 := by rw [← hW0]; repeat (first | exact Keeps.refl _ _ | refine Keeps.drewN ?_ _ | refine Keeps.drew ?_ | refine Keeps.alloc ?_ _ | refine Keeps.set ?_ (Or.inl (by rfl)) _)
  have hb0 : W0.heap[w.heap.size]? = some (.cells #[.slice a0 b.cs.length c0, .slice a1 b.rs.length c1, .slice a2 b.is.length c2, .slice a3 b.incls.length c3, .slice a4 b.roles.length c4, .slice a5 b.facts.length c5, .slice a6 b.links.length c6] 30 (0, 0)) := by rw [← hW0]; exact blkAlloc (blkNew rfl) _
  have hb1 : W0.heap[w.heap.size + 1]? = some (.cells #[.slice none 0 0, .slice none 0 0, .slice none 0 0, .slice none 0 0, .slice none 0 0, .slice none 0 0, .slice none 0 0] 30 (0, 0)) := by rw [← hW0]; exact blkNew (by simp)
  have hz0 : W0.heap.size = w.heap.size + 2 := by rw [← hW0]; simp
  clear hW0
  have HB0 := Lib.hid hb0
  have HB1 := Lib.hid hb1
  have HK0 := Lib.hid hK0
  have HZ0 := Lib.hid hz0
  clear hb0 hb1 hK0 hz0
  have hlx := blkLt HB0.out
  have HBD : Hid (W0.drew.heap[w.heap.size]? = some (.cells #[.slice a0 b.cs.length c0, .slice a1 b.rs.length c1, .slice a2 b.is.length c2, .slice a3 b.incls.length c3, .slice a4 b.roles.length c4, .slice a5 b.facts.length c5, .slice a6 b.links.length c6] 30 (0, 0))) := Lib.hid HB0.out
  have HBA : Hid (∀ o, (W0.alloc o).drew.heap[w.heap.size]? = some (.cells #[.slice a0 b.cs.length c0, .slice a1 b.rs.length c1, .slice a2 b.is.length c2, .slice a3 b.incls.length c3, .slice a4 b.roles.length c4, .slice a5 b.facts.length c5, .slice a6 b.links.length c6] 30 (0, 0))) := Lib.hid (fun o => blkAlloc HB0.out o)
  go_cut [3] from 8 (fun v wc => CopyCut b W0 v wc)
  case first =>
    go_region_held3 (fun w' => HoldK7 w' w.heap.size (.slice a0 b.cs.length c0) (.slice a1 b.rs.length c1) (.slice a2 b.is.length c2) (.slice a3 b.incls.length c3) (.slice a4 b.roles.length c4) (.slice a5 b.facts.length c5) (.slice a6 b.links.length c6))
      (first
        | with_reducible exact cells7 HB0.out
        | with_reducible exact cells7 HBD.out
        | with_reducible exact cells7 (blkAlloc HB0.out _)
        | with_reducible exact cells7 (blkAlloc HBD.out _)
        | with_reducible exact cells7 HB5.out
        | with_reducible exact cells7 (blkAlloc HB5.out _)
        | with_reducible exact cells7 HB6.out
        | with_reducible exact cells7 (blkAlloc HB6.out _)
        | with_reducible exact cells7 HB7.out
        | with_reducible exact cells7 (blkAlloc HB7.out _)
        | with_reducible exact cells7 (HBA.out _)
        | (with_reducible refine cells7 (Keeps.blk (S := fun i => i ≠ w.heap.size) (w := w7) ?_ HB7.out (fun h => absurd rfl h)); repeat (first | exact Keeps.refl _ _ | (refine Keeps.alloc ?_ _) | (refine Keeps.setNe (by omega) ?_ _)))
        | fail)
      (first
        | (go_at_call 32; refine (HCN.out _ (by repeat (first | exact HK0.out | refine Keeps.drewN ?_ _ | refine Keeps.drew ?_ | refine Keeps.alloc ?_ _))).mono ?_; clear HCN; rintro e w5 ⟨B0, B1, B2, d0, d1, d2, rfl, hdd, hr0, hr1, hr2, hk5⟩; have HK5 := Lib.hid ((show Keeps (fun _ => False) w _ from (by repeat (first | exact HK0.out | refine Keeps.drewN ?_ _ | refine Keeps.drew ?_ | refine Keeps.alloc ?_ _))).then_ hk5); have HB5 := Lib.hid (((show Keeps (fun _ => False) W0 _ from (by repeat (first | exact Keeps.refl _ _ | refine Keeps.drewN ?_ _ | refine Keeps.drew ?_ | refine Keeps.alloc ?_ _))).then_ hk5).blk HB0.out (fun h => h)); (first | (have hz5 : W0.heap.size + 1 ≤ w5.heap.size := by have h : (World.alloc W0 _).heap.size ≤ _ := hk5.size; simp at h; omega) | (have hz5 : W0.heap.size ≤ w5.heap.size := hk5.size)); (first | (have HG := Lib.hid (hk5.blk HG.out (fun h => h))) | (have HG := Lib.hid (hk5.blk (blkNew (w := W0) rfl) (fun h => h))) | skip); (first | ((have HR0 : Hid (Row1 (fun k => W0.heap.size + 1 ≤ k ∧ k < w5.heap.size) w5 Value.string b.cs B0) := by (refine hr0.lim.mono (fun k hk => ⟨?_, hk.2⟩); have h := hk.1; first | exact h | (have h : (World.alloc W0 _).heap.size ≤ k := h; simp at h; omega))); (have HR1 : Hid (Row1 (fun k => W0.heap.size + 1 ≤ k ∧ k < w5.heap.size) w5 Value.string b.rs B1) := by (refine hr1.lim.mono (fun k hk => ⟨?_, hk.2⟩); have h := hk.1; first | exact h | (have h : (World.alloc W0 _).heap.size ≤ k := h; simp at h; omega))); (have HR2 : Hid (Row1 (fun k => W0.heap.size + 1 ≤ k ∧ k < w5.heap.size) w5 Value.string b.is B2) := by (refine hr2.lim.mono (fun k hk => ⟨?_, hk.2⟩); have h := hk.1; first | exact h | (have h : (World.alloc W0 _).heap.size ≤ k := h; simp at h; omega)))) | ((have HR0 : Hid (Row1 (fun k => W0.heap.size ≤ k ∧ k < w5.heap.size) w5 Value.string b.cs B0) := by (refine hr0.lim.mono (fun k hk => ⟨?_, hk.2⟩); have h := hk.1; first | exact h | (have h : (World.alloc W0 _).heap.size ≤ k := h; simp at h; omega))); (have HR1 : Hid (Row1 (fun k => W0.heap.size ≤ k ∧ k < w5.heap.size) w5 Value.string b.rs B1) := by (refine hr1.lim.mono (fun k hk => ⟨?_, hk.2⟩); have h := hk.1; first | exact h | (have h : (World.alloc W0 _).heap.size ≤ k := h; simp at h; omega))); (have HR2 : Hid (Row1 (fun k => W0.heap.size ≤ k ∧ k < w5.heap.size) w5 Value.string b.is B2) := by (refine hr2.lim.mono (fun k hk => ⟨?_, hk.2⟩); have h := hk.1; first | exact h | (have h : (World.alloc W0 _).heap.size ≤ k := h; simp at h; omega))))); have HQ5 := Lib.hid ((show Keeps (fun _ => False) W0 _ from (by repeat (first | exact Keeps.refl _ _ | refine Keeps.drewN ?_ _ | refine Keeps.drew ?_ | refine Keeps.alloc ?_ _))).then_ hk5); clear hr0 hr1 hr2 hk5)
        | (refine step_appG rfl _ _ 26 26 (by rfl) (w5.heap.size + 1) 68 _ 2 16 Tryd.underlying26 infoRole1 rfl (by decide) (by decide) (.slice none 0 0) 0 [] (World.ownsRow_nil _ _ _ _) (by rfl) (.slice a4 b.roles.length c4) b.roles.length (b.roles.flatMap encRo) (HSR.out _ (by repeat (first | exact HK5.out | refine Keeps.drewN ?_ _ | refine Keeps.drew ?_ | refine Keeps.alloc ?_ _))) (by rfl) (by omega) (by first | exact Nat.le_refl _ | (simp; done) | (simp; omega)) ?_; intro v6 w6 ho6 hka; rw [List.nil_append] at ho6; obtain ⟨B4, d4, rfl, hd4, hr4⟩ := ownedRoles ho6 (by omega); have hk6 := hka.emp; have hkk := (show Keeps (fun _ => False) w5 _ from (by repeat (first | exact Keeps.refl _ _ | refine Keeps.drewN ?_ _ | refine Keeps.drew ?_ | refine Keeps.alloc ?_ _))).then_ hk6; have HK6 := Lib.hid (HK5.out.then_ hkk); have HQ6 := Lib.hid (HQ5.out.then_ hkk); have HB6 := Lib.hid (hkk.blk HB5.out (fun h => h)); (first | (have hz6 : w5.heap.size + 1 ≤ w6.heap.size := by have h : (World.alloc w5 _).heap.size ≤ _ := hk6.size; simp at h; omega) | (have hz6 : w5.heap.size ≤ w6.heap.size := hk6.size)); (first | (have HG := Lib.hid (hk6.blk HG.out (fun h => h))) | (have HG := Lib.hid (hk6.blk (blkNew (w := w5) rfl) (fun h => h))) | skip); have HR0 := Lib.hid (HR0.out.keep hkk (fun _ _ h => h)); have HR1 := Lib.hid (HR1.out.keep hkk (fun _ _ h => h)); have HR2 := Lib.hid (HR2.out.keep hkk (fun _ _ h => h)); have HR4 := Lib.hid hr4.lim; clear hr4 ho6 hk6 hka hkk)
        | (refine step_appG rfl _ _ 26 26 (by rfl) (w5.heap.size) 68 _ 2 16 Tryd.underlying26 infoRole1 rfl (by decide) (by decide) (.slice none 0 0) 0 [] (World.ownsRow_nil _ _ _ _) (by rfl) (.slice a4 b.roles.length c4) b.roles.length (b.roles.flatMap encRo) (HSR.out _ (by repeat (first | exact HK5.out | refine Keeps.drewN ?_ _ | refine Keeps.drew ?_ | refine Keeps.alloc ?_ _))) (by rfl) (by omega) (by first | exact Nat.le_refl _ | (simp; done) | (simp; omega)) ?_; intro v6 w6 ho6 hka; rw [List.nil_append] at ho6; obtain ⟨B4, d4, rfl, hd4, hr4⟩ := ownedRoles ho6 (by omega); have hk6 := hka.emp; have hkk := (show Keeps (fun _ => False) w5 _ from (by repeat (first | exact Keeps.refl _ _ | refine Keeps.drewN ?_ _ | refine Keeps.drew ?_ | refine Keeps.alloc ?_ _))).then_ hk6; have HK6 := Lib.hid (HK5.out.then_ hkk); have HQ6 := Lib.hid (HQ5.out.then_ hkk); have HB6 := Lib.hid (hkk.blk HB5.out (fun h => h)); (first | (have hz6 : w5.heap.size + 1 ≤ w6.heap.size := by have h : (World.alloc w5 _).heap.size ≤ _ := hk6.size; simp at h; omega) | (have hz6 : w5.heap.size ≤ w6.heap.size := hk6.size)); (first | (have HG := Lib.hid (hk6.blk HG.out (fun h => h))) | (have HG := Lib.hid (hk6.blk (blkNew (w := w5) rfl) (fun h => h))) | skip); have HR0 := Lib.hid (HR0.out.keep hkk (fun _ _ h => h)); have HR1 := Lib.hid (HR1.out.keep hkk (fun _ _ h => h)); have HR2 := Lib.hid (HR2.out.keep hkk (fun _ _ h => h)); have HR4 := Lib.hid hr4.lim; clear hr4 ho6 hk6 hka hkk)
        | (refine step_appG rfl _ _ 28 28 (by rfl) (w6.heap.size + 1) 89 _ 3 24 Tryd.underlying28 infoLink1 rfl (by decide) (by decide) (.slice none 0 0) 0 [] (World.ownsRow_nil _ _ _ _) (by rfl) (.slice a6 b.links.length c6) b.links.length (b.links.flatMap encLi) (HSL.out _ (by repeat (first | exact HK6.out | refine Keeps.drewN ?_ _ | refine Keeps.drew ?_ | refine Keeps.alloc ?_ _))) (by rfl) (by omega) (by first | exact Nat.le_refl _ | (simp; done) | (simp; omega)) ?_; intro v7 w7 ho7 hka; rw [List.nil_append] at ho7; obtain ⟨B6, d6, rfl, hd6, hr6⟩ := ownedLinks ho7 (by omega); have hk7 := hka.emp; have hkk := (show Keeps (fun _ => False) w6 _ from (by repeat (first | exact Keeps.refl _ _ | refine Keeps.drewN ?_ _ | refine Keeps.drew ?_ | refine Keeps.alloc ?_ _))).then_ hk7; have HK7 := Lib.hid (HK6.out.then_ hkk); have HQ7 := Lib.hid (HQ6.out.then_ hkk); have HB7 := Lib.hid (hkk.blk HB6.out (fun h => h)); (first | (have hz7 : w6.heap.size + 1 ≤ w7.heap.size := by have h : (World.alloc w6 _).heap.size ≤ _ := hk7.size; simp at h; omega) | (have hz7 : w6.heap.size ≤ w7.heap.size := hk7.size)); (first | (have HG := Lib.hid (hk7.blk HG.out (fun h => h))) | (have HG := Lib.hid (hk7.blk (blkNew (w := w6) rfl) (fun h => h))) | skip); have HR0 := Lib.hid (HR0.out.keep hkk (fun _ _ h => h)); have HR1 := Lib.hid (HR1.out.keep hkk (fun _ _ h => h)); have HR2 := Lib.hid (HR2.out.keep hkk (fun _ _ h => h)); have HR4 := Lib.hid (HR4.out.keep hkk (fun _ _ h => h)); have HR6 := Lib.hid hr6.lim; clear hr6 ho7 hk7 hka hkk; (try (obtain ⟨g70, g71, g72, g73, g74, g75, g76⟩ := cells7 HG.out; have gf0 := blkFree HG.out 0; have gf1 := blkFree HG.out 1; have gf2 := blkFree HG.out 2; have gf3 := blkFree HG.out 3; have gf4 := blkFree HG.out 4; have gf5 := blkFree HG.out 5; have gf6 := blkFree HG.out 6)))
        | (refine step_appG rfl _ _ 28 28 (by rfl) (w6.heap.size) 89 _ 3 24 Tryd.underlying28 infoLink1 rfl (by decide) (by decide) (.slice none 0 0) 0 [] (World.ownsRow_nil _ _ _ _) (by rfl) (.slice a6 b.links.length c6) b.links.length (b.links.flatMap encLi) (HSL.out _ (by repeat (first | exact HK6.out | refine Keeps.drewN ?_ _ | refine Keeps.drew ?_ | refine Keeps.alloc ?_ _))) (by rfl) (by omega) (by first | exact Nat.le_refl _ | (simp; done) | (simp; omega)) ?_; intro v7 w7 ho7 hka; rw [List.nil_append] at ho7; obtain ⟨B6, d6, rfl, hd6, hr6⟩ := ownedLinks ho7 (by omega); have hk7 := hka.emp; have hkk := (show Keeps (fun _ => False) w6 _ from (by repeat (first | exact Keeps.refl _ _ | refine Keeps.drewN ?_ _ | refine Keeps.drew ?_ | refine Keeps.alloc ?_ _))).then_ hk7; have HK7 := Lib.hid (HK6.out.then_ hkk); have HQ7 := Lib.hid (HQ6.out.then_ hkk); have HB7 := Lib.hid (hkk.blk HB6.out (fun h => h)); (first | (have hz7 : w6.heap.size + 1 ≤ w7.heap.size := by have h : (World.alloc w6 _).heap.size ≤ _ := hk7.size; simp at h; omega) | (have hz7 : w6.heap.size ≤ w7.heap.size := hk7.size)); (first | (have HG := Lib.hid (hk7.blk HG.out (fun h => h))) | (have HG := Lib.hid (hk7.blk (blkNew (w := w6) rfl) (fun h => h))) | skip); have HR0 := Lib.hid (HR0.out.keep hkk (fun _ _ h => h)); have HR1 := Lib.hid (HR1.out.keep hkk (fun _ _ h => h)); have HR2 := Lib.hid (HR2.out.keep hkk (fun _ _ h => h)); have HR4 := Lib.hid (HR4.out.keep hkk (fun _ _ h => h)); have HR6 := Lib.hid hr6.lim; clear hr6 ho7 hk7 hka hkk; (try (obtain ⟨g70, g71, g72, g73, g74, g75, g76⟩ := cells7 HG.out; have gf0 := blkFree HG.out 0; have gf1 := blkFree HG.out 1; have gf2 := blkFree HG.out 2; have gf3 := blkFree HG.out 3; have gf4 := blkFree HG.out 4; have gf5 := blkFree HG.out 5; have gf6 := blkFree HG.out 6)))
        | fail)
    all_goals
      go_wp2_with fail
      go_meet
      first
        | with_reducible exact copyCut_new HQ7.out hdd hd4 hd6 HR0.out HR1.out HR2.out HR4.out HR6.out (by omega) (by omega) (by omega)
        | with_reducible exact copyCut_set (by first | exact Nat.le_refl _ | omega) HG.out HQ7.out hdd hd4 hd6 HR0.out HR1.out HR2.out HR4.out HR6.out (by omega) (by omega) (by omega)
        | fail
  case rest =>
    obtain ⟨go, B0, B1, B2, B4, B6, d0, d1, d2, d4, d6, rfl, hgo, hg, hpr, hkc⟩ := hcut
    have HK1 := Lib.hid (HK0.out.then_ hkc)
    have HBX := Lib.hid (hkc.blk HB0.out (fun h => h))
    have HBR := Lib.hid (hkc.blk HB1.out (fun h => h))
    have HGO := Lib.hid hg
    have HPR := Lib.hid hpr
    have hlo := blkLt hg
    have hz0 := HZ0.out
    obtain ⟨x0, x1, x2, x3, x4, x5, x6⟩ := cells7 HBX.out
    clear hg hpr hkc HSR HSL HCN HBD HBA
    go_wp2_with fail
    go_loopw [21] (fun i wr => ∃ (k : Nat) (v : Value), k ≤ b.incls.length ∧ i = .int .i64 k ∧ Hid (wr.heap[go]? = some (.cells #[.slice B0 b.cs.length d0, .slice B1 b.rs.length d1, .slice B2 b.is.length d2, v, .slice B4 b.roles.length d4, .slice none 0 0, .slice B6 b.links.length d6] 30 (0, 0))) ∧ Hid (OwnRow 66 6 rdIncl wr wc.heap.size v (b.incls.take k)) ∧ Hid (Keeps (fun i => i = go) wc wr)) (fun i _ => b.incls.length - (intOf i).toNat)
    case atStart => exact ⟨0, _, Nat.zero_le _, rfl, HGO, OwnRow.nil _ _ _ _ _, Keeps.refl _ _⟩
    case round =>
      obtain ⟨k, v, hk, rfl, HG, HO, HK⟩ := hrel
      by_cases hlt : k < b.incls.length
      · have hne : b.incls ≠ [] := by intro h; rw [h] at hlt; simp at hlt
        have hkw : Keeps (fun i => i = go) w wr := (HK1.out.of0.then_ HK.out)
        obtain ⟨ba, oa, hA, _, hca⟩ := (HB.out.incls.keep hkw (fun i hi e => by omega)) hne
        dsimp only at hA
        subst hA
        obtain ⟨A1, e1, A2, e2, p0, p1, p2, p3, p4, p5, hp1, hp2⟩ := hca k hlt
        have hzk := HZ3.out b.incls[k] (List.getElem_mem hlt)
        have HTK := Lib.hid (List.take_succ_eq_append_getElem hlt)
        have hlen : (b.incls.take k).length = k := by simp; omega
        generalize b.incls[k] = pr at *
        obtain ⟨c, d⟩ := pr
        dsimp only at p0 p1 p2 p3 p4 p5 hp1 hp2 hzk
        have HCP1 := Lib.hid (fun W (hk : Keeps (fun _ => False) wr W) => copyR_calls (c.size + 1) c A1 e1 _ W (Nat.lt_succ_self _) hzk.1 (hp1.keep hk (fun _ _ h => h)))
        have HCP2 := Lib.hid (fun W (hk : Keeps (fun _ => False) wr W) => copyR_calls (d.size + 1) d A2 e2 _ W (Nat.lt_succ_self _) hzk.2 (hp2.keep hk (fun _ _ h => h)))
        obtain ⟨cells, ho, _⟩ := HO.out
        have HVL := Lib.hid (fun i (e : v.ownBlock = some i) => ho.lt i e)
        have hgb := HG.out
        have hgl := blkLt hgb
        have hkz := HK.out.size
        have i1 : (k : Int) < b.incls.length := by omega
        have HOW := Lib.hid ho
        clear hca hp1 hp2 hzk hne ho
        go_wp2_with fail
        generalize hW4 : World.alloc _ _ = W4
        have hK4 : Keeps (fun _ => False) wr W4 := by rw [← hW4]; repeat (first | exact Keeps.refl _ _ | refine Keeps.drewN ?_ _ | refine Keeps.drew ?_ | refine Keeps.alloc ?_ _ | refine Keeps.set ?_ (Or.inl (by rfl)) _)
        have hg4 : W4.heap[wr.heap.size]? = some (.cells #[.int .i64 c.op, .int .i64 c.n, .slice A1 c.args.length e1, .int .i64 d.op, .int .i64 d.n, .slice A2 d.args.length e2] 66 (0, 0)) := by rw [← hW4]; exact blkNew rfl
        clear hW4 p0 p1 p2 p3 p4 p5
        have hgg := hK4.blk hgb (fun h => h)
        have gv4 := blkCell hgg 3
        simp only [List.getElem?_toArray, List.getElem?_cons_zero, List.getElem?_cons_succ] at gv4
        have gf4 := blkFree hgg 3
        have gl4 := blkLt hgg
        have tl4 := blkLt hg4
        obtain ⟨t0, t1, t2, t3, t4, t5⟩ := cells6 hg4
        have HGT4 := Lib.hid hg4
        have HGG4 := Lib.hid hgg
        have HW4 := Lib.hid hK4
        clear hg4 hK4 hgb hgg
        go_region_law
          (first
            | (refine step_call (by rfl) 15 #[.agg #[.int .i64 c.op, .int .i64 c.n, .slice A1 c.args.length e1]] (by first | (go_simp; done) | (go_simp; rfl)) ?_; refine (HCP1.out _ (by repeat (first | exact HW4.out | refine Keeps.drewN ?_ _ | refine Keeps.drew ?_ | refine Keeps.alloc ?_ _))).mono ?_; clear HCP1; rintro e w5 ⟨D1, f1, rfl, hr, hk5⟩; refine ⟨_, rfl, ?_⟩; go_must (have hkk := (show Keeps (fun _ => False) W4 _ from (by repeat (first | exact Keeps.refl _ _ | refine Keeps.drewN ?_ _ | refine Keeps.drew ?_ | refine Keeps.alloc ?_ _))).then_ hk5; have HW5 := Lib.hid (HW4.out.then_ hkk); have HGT5 := Lib.hid (hkk.blk HGT4.out (fun h => h)); have HGG5 := Lib.hid (hkk.blk HGG4.out (fun h => h)); have HR5 : Hid (ConR (fun i => wr.heap.size < i) w5 _ _) := Lib.hid (hr.mono (fun i hi => by have h1 := blkLt HGT4.out; have h2 : W4.heap.size ≤ i := hi; omega)); have gv5 := blkCell HGG5.out 3; simp only [List.getElem?_toArray, List.getElem?_cons_zero, List.getElem?_cons_succ] at gv5; have gl5 := blkLt HGG5.out; have tl5 := blkLt HGT5.out; obtain ⟨t50, t51, t52, t53, t54, t55⟩ := cells6 HGT5.out; clear hr hk5 hkk))
            | (refine step_call (by rfl) 15 #[.agg #[.int .i64 d.op, .int .i64 d.n, .slice A2 d.args.length e2]] (by first | (go_simp; done) | (go_simp; rfl)) ?_; refine (HCP2.out _ (by repeat (first | exact HW5.out | refine Keeps.drewN ?_ _ | refine Keeps.drew ?_ | refine Keeps.alloc ?_ _))).mono ?_; clear HCP2; rintro e w6 ⟨D2, f2, rfl, hr, hk5⟩; refine ⟨_, rfl, ?_⟩; go_must (have hkk := (show Keeps (fun _ => False) w5 _ from (by repeat (first | exact Keeps.refl _ _ | refine Keeps.drewN ?_ _ | refine Keeps.drew ?_ | refine Keeps.alloc ?_ _))).then_ hk5; have HW6 := Lib.hid (HW5.out.then_ hkk); have HGT6 := Lib.hid (hkk.blk HGT5.out (fun h => h)); have HGG6 := Lib.hid (hkk.blk HGG5.out (fun h => h)); have HR6 : Hid (ConR (fun i => wr.heap.size < i) w6 _ _) := Lib.hid (hr.mono (fun i hi => by have h1 := blkLt HGT5.out; have h2 : w5.heap.size ≤ i := hi; omega)); have gv6 := blkCell HGG6.out 3; simp only [List.getElem?_toArray, List.getElem?_cons_zero, List.getElem?_cons_succ] at gv6; have gl6 := blkLt HGG6.out; have tl6 := blkLt HGT6.out; obtain ⟨t60, t61, t62, t63, t64, t65⟩ := cells6 HGT6.out; have HR56 := Lib.hid (HR5.out.keep hkk (fun _ _ h => h)); clear hr hk5 hkk))
            | (refine step_app rfl _ _ 25 25 (by rfl) wc.heap.size 66 _ 6 80 Tryd.underlying25 infoIncl1 rfl (by decide) (by decide) v (b.incls.take k).length cells (by refine ownsKeep (S := fun _ => False) HOW.out ?_ (fun _ _ h => h); repeat (first | exact HW6.out | refine Keeps.drewN ?_ _ | refine Keeps.drew ?_ | refine Keeps.alloc ?_ _)) (by rfl) (.slice (some ⟨w6.heap.size, 0, none⟩) 1 1) 1 [.int .i64 c.op, .int .i64 c.n, .slice D1 c.args.length f1, .int .i64 d.op, .int .i64 d.n, .slice D2 d.args.length f2] (Src.ofBlock Tryd.underlying25 (cs := #[.int .i64 c.op, .int .i64 c.n, .slice D1 c.args.length f1, .int .i64 d.op, .int .i64 d.n, .slice D2 d.args.length f2]) (blkNew (by first | rfl | simp)) (by rfl) (by simp [Value.oneCell'])) (by rfl) (by decide) (by omega) (by simp; omega) ?_; intro g cap3 w7 ho3 hk3 hat hcap3 hlt3; have HO3 := Lib.hid ho3; have HK3 := Lib.hid hk3; have HAT := Lib.hid hat; have HG7 := Lib.hid (hk3.blk (blkAlloc HGG6.out _) (fun h => by have := HVL.out _ h; omega)); have gf7 := blkFree HG7.out 3; have gv7 := blkCell HG7.out 3; simp only [List.getElem?_toArray, List.getElem?_cons_zero, List.getElem?_cons_succ] at gv7; clear ho3 hk3 hat)
            | fail)
        all_goals
          go_wp2_with fail
          go_roundw
          case rel =>
            have hkw7 : Keeps (fun _ => False) wr (w6.alloc (.cells #[.int .i64 c.op, .int .i64 c.n, .slice D1 c.args.length f1, .int .i64 d.op, .int .i64 d.n, .slice D2 d.args.length f2] 66)) := HW6.out.alloc _
            have hvl := HVL.out
            have hoc := (HO.out.keep rdIncl_ok hkw7 (fun _ _ h => h)).app rdIncl_ok (ownsKeep HOW.out hkw7 (fun _ _ h => h)) (x := (c, d)) (vs := [.int .i64 c.op, .int .i64 c.n, .slice D1 c.args.length f1, .int .i64 d.op, .int .i64 d.n, .slice D2 d.args.length f2]) rfl
              (⟨_, _, _, _, rfl, (HR56.out.keep (S := fun _ => False) ((Keeps.refl _ _).alloc _) (fun _ _ h => h)).mono (fun i hi => ⟨by omega, fun e => by have := hvl i e; omega⟩), (HR6.out.keep (S := fun _ => False) ((Keeps.refl _ _).alloc _) (fun _ _ h => h)).mono (fun i hi => ⟨by omega, fun e => by have := hvl i e; omega⟩)⟩) HO3.out HK3.out HAT.out
            rw [hlen] at hoc
            refine ⟨k + 1, .slice (some ⟨g, 0, none⟩) _ _, by omega, by go_num, blkSet HG7.out 3 _, ?_, ?_⟩
            · unfold Hid
              rw [HTK.out]
              exact hoc.keep rdIncl_ok (S := fun i => i = go) (Keeps.set1 _ go 3 _) (fun i hi e => by omega)
            · exact Keeps.set (g := go) ((HK.out.then_ hkw7.of0).trans HK3.out (fun i hi => .inr (hvl i hi).1)) (.inl rfl) _
          case measure => simp [intOf]; omega
      · obtain rfl : b.incls.length = k := by omega
        have HO3 := HO
        rw [List.take_length] at HO3
        have HKA := Lib.hid (HK1.out.of0.then_ HK.out)
        have HKC := Lib.hid HK.out
        have HGA := Lib.hid HG.out
        have HBXA := Lib.hid (HK.out.blk HBX.out (fun e => by omega))
        obtain ⟨v3, rfl⟩ : ∃ v3, v3 = v := ⟨_, rfl⟩
        obtain ⟨wa, rfl⟩ : ∃ wa : World, wa = wr := ⟨_, rfl⟩
        obtain ⟨x0, x1, x2, x3, x4, x5, x6⟩ := cells7 HBXA.out
        have hla := blkLt HGA.out
        have hca := HKC.out.size
        clear HK HG HO hk hlt
        go_wp2_with fail
        clear x0 x1 x2 x3 x4 x5 x6
        go_loopw [41] (fun i wr => ∃ (k : Nat) (v : Value), k ≤ b.facts.length ∧ i = .int .i64 k ∧ Hid (wr.heap[go]? = some (.cells #[.slice B0 b.cs.length d0, .slice B1 b.rs.length d1, .slice B2 b.is.length d2, v3, .slice B4 b.roles.length d4, v, .slice B6 b.links.length d6] 30 (0, 0))) ∧ Hid (OwnRow 74 4 rdFact wr wa.heap.size v (b.facts.take k)) ∧ Hid (Keeps (fun i => i = go) wa wr)) (fun i _ => b.facts.length - (intOf i).toNat)
        case atStart => exact ⟨0, _, Nat.zero_le _, rfl, HGA, OwnRow.nil _ _ _ _ _, Keeps.refl _ _⟩
        case round =>
          obtain ⟨k, v, hk, rfl, HG, HO, HK⟩ := hrel
          by_cases hlt : k < b.facts.length
          · have hne : b.facts ≠ [] := by intro h; rw [h] at hlt; simp at hlt
            have hkw : Keeps (fun i => i = go) w wr := (HKA.out.then_ HK.out)
            obtain ⟨ba, oa, hA, _, hca⟩ := (HB.out.facts.keep hkw (fun i hi e => by omega)) hne
            dsimp only at hA
            subst hA
            obtain ⟨A1, e1, p0, p1, p2, p3, hp1⟩ := hca k hlt
            have hzk := HZ5.out b.facts[k] (List.getElem_mem hlt)
            have HTK := Lib.hid (List.take_succ_eq_append_getElem hlt)
            have hlen : (b.facts.take k).length = k := by simp; omega
            generalize b.facts[k] = pr at *
            obtain ⟨c, d⟩ := pr
            dsimp only at p0 p1 p2 p3 hp1 hzk
            have HCP2 := Lib.hid (fun W (hk : Keeps (fun _ => False) wr W) => copyR_calls (d.size + 1) d A1 e1 _ W (Nat.lt_succ_self _) hzk (hp1.keep hk (fun _ _ h => h)))
            obtain ⟨cells, ho, _⟩ := HO.out
            have HVL := Lib.hid (fun i (e : v.ownBlock = some i) => ho.lt i e)
            have hgb := HG.out
            have hgl := blkLt hgb
            have hkz := HK.out.size
            have i1 : (k : Int) < b.facts.length := by omega
            have HOW := Lib.hid ho
            clear hca hp1 hzk hne ho
            go_wp2_with fail
            generalize hW4 : World.alloc _ _ = W4
            have hK4 : Keeps (fun _ => False) wr W4 := by rw [← hW4]; repeat (first | exact Keeps.refl _ _ | refine Keeps.drewN ?_ _ | refine Keeps.drew ?_ | refine Keeps.alloc ?_ _ | refine Keeps.set ?_ (Or.inl (by rfl)) _)
            have hg4 : W4.heap[wr.heap.size]? = some (.cells #[.int .i64 c, .int .i64 d.op, .int .i64 d.n, .slice A1 d.args.length e1] 74 (0, 0)) := by rw [← hW4]; exact blkNew rfl
            clear hW4 p0 p1 p2 p3
            have hgg := hK4.blk hgb (fun h => h)
            have gv4 := blkCell hgg 5
            simp only [List.getElem?_toArray, List.getElem?_cons_zero, List.getElem?_cons_succ] at gv4
            have gf4 := blkFree hgg 5
            have gl4 := blkLt hgg
            have tl4 := blkLt hg4
            obtain ⟨t0, t1, t2, t3⟩ := cells4 hg4
            have HGT4 := Lib.hid hg4
            have HGG4 := Lib.hid hgg
            have HW4 := Lib.hid hK4
            clear hg4 hK4 hgb hgg
            go_region_law
              (first
                | (refine step_call (by rfl) 15 #[.agg #[.int .i64 d.op, .int .i64 d.n, .slice A1 d.args.length e1]] (by first | (go_simp; done) | (go_simp; rfl)) ?_; refine (HCP2.out _ (by repeat (first | exact HW4.out | refine Keeps.drewN ?_ _ | refine Keeps.drew ?_ | refine Keeps.alloc ?_ _))).mono ?_; clear HCP2; rintro e w5 ⟨D1, f1, rfl, hr, hk5⟩; refine ⟨_, rfl, ?_⟩; go_must (have hkk := (show Keeps (fun _ => False) W4 _ from (by repeat (first | exact Keeps.refl _ _ | refine Keeps.drewN ?_ _ | refine Keeps.drew ?_ | refine Keeps.alloc ?_ _))).then_ hk5; have HW5 := Lib.hid (HW4.out.then_ hkk); have HGT5 := Lib.hid (hkk.blk HGT4.out (fun h => h)); have HGG5 := Lib.hid (hkk.blk HGG4.out (fun h => h)); have HR5 : Hid (ConR (fun i => wr.heap.size < i) w5 _ _) := Lib.hid (hr.mono (fun i hi => by have h1 := blkLt HGT4.out; have h2 : W4.heap.size ≤ i := hi; omega)); have gv5 := blkCell HGG5.out 5; simp only [List.getElem?_toArray, List.getElem?_cons_zero, List.getElem?_cons_succ] at gv5; have gl5 := blkLt HGG5.out; have tl5 := blkLt HGT5.out; obtain ⟨t50, t51, t52, t53⟩ := cells4 HGT5.out; clear hr hk5 hkk))
                | (refine step_app rfl _ _ 27 27 (by rfl) wa.heap.size 74 _ 4 48 Tryd.underlying27 infoFact1 rfl (by decide) (by decide) v (b.facts.take k).length cells (by refine ownsKeep (S := fun _ => False) HOW.out ?_ (fun _ _ h => h); repeat (first | exact HW5.out | refine Keeps.drewN ?_ _ | refine Keeps.drew ?_ | refine Keeps.alloc ?_ _)) (by rfl) (.slice (some ⟨w5.heap.size, 0, none⟩) 1 1) 1 [.int .i64 c, .int .i64 d.op, .int .i64 d.n, .slice D1 d.args.length f1] (Src.ofBlock Tryd.underlying27 (cs := #[.int .i64 c, .int .i64 d.op, .int .i64 d.n, .slice D1 d.args.length f1]) (blkNew (by first | rfl | simp)) (by rfl) (by simp [Value.oneCell'])) (by rfl) (by decide) (by omega) (by simp; omega) ?_; intro g cap3 w7 ho3 hk3 hat hcap3 hlt3; have HO3 := Lib.hid ho3; have HK3 := Lib.hid hk3; have HAT := Lib.hid hat; have HG7 := Lib.hid (hk3.blk (blkAlloc HGG5.out _) (fun h => by have := HVL.out _ h; omega)); have gf7 := blkFree HG7.out 5; have gv7 := blkCell HG7.out 5; simp only [List.getElem?_toArray, List.getElem?_cons_zero, List.getElem?_cons_succ] at gv7; clear ho3 hk3 hat)
                | fail)
            all_goals
              go_wp2_with fail
              go_roundw
              case rel =>
                have hkw7 : Keeps (fun _ => False) wr (w5.alloc (.cells #[.int .i64 c, .int .i64 d.op, .int .i64 d.n, .slice D1 d.args.length f1] 74)) := HW5.out.alloc _
                have hvl := HVL.out
                have hoc := (HO.out.keep rdFact_ok hkw7 (fun _ _ h => h)).app rdFact_ok (ownsKeep HOW.out hkw7 (fun _ _ h => h)) (x := (c, d)) (vs := [.int .i64 c, .int .i64 d.op, .int .i64 d.n, .slice D1 d.args.length f1]) rfl
                  (⟨_, _, rfl, (HR5.out.keep (S := fun _ => False) ((Keeps.refl _ _).alloc _) (fun _ _ h => h)).mono (fun i hi => ⟨by omega, fun e => by have := hvl i e; omega⟩)⟩) HO3.out HK3.out HAT.out
                rw [hlen] at hoc
                refine ⟨k + 1, .slice (some ⟨g, 0, none⟩) _ _, by omega, by go_num, blkSet HG7.out 5 _, ?_, ?_⟩
                · unfold Hid
                  rw [HTK.out]
                  exact hoc.keep rdFact_ok (S := fun i => i = go) (Keeps.set1 _ go 5 _) (fun i hi e => by omega)
                · exact Keeps.set (g := go) ((HK.out.then_ hkw7.of0).trans HK3.out (fun i hi => .inr (hvl i hi).1)) (.inl rfl) _
              case measure => simp [intOf]; omega
          · obtain rfl : b.facts.length = k := by omega
            rw [List.take_length] at HO
            have hbr := HK.out.blk (HKC.out.blk HBR.out (fun e => by omega)) (fun e => by omega)
            obtain ⟨y0, y1, y2, y3, y4, y5, y6⟩ := cells7 hbr
            obtain ⟨g0, g1, g2, g3, g4, g5, g6⟩ := cells7 HG.out
            have q0 := blkFree hbr 0
            have q1 := blkFree hbr 1
            have q2 := blkFree hbr 2
            have q3 := blkFree hbr 3
            have q4 := blkFree hbr 4
            have q5 := blkFree hbr 5
            have q6 := blkFree hbr 6
            have hlr := blkLt hbr
            obtain ⟨A3, e3, rfl, hn3, hr3⟩ := inclsOf (HO3.out.keep rdIncl_ok HK.out (fun i hi e => by omega))
            obtain ⟨A5, e5, rfl, hn5, hr5⟩ := factsOf HO.out
            have HBR2 := Lib.hid hbr
            have HI := Lib.hid hr3
            have HF := Lib.hid hr5
            have HP2 := Lib.hid ((HPR.out.keep HKC.out (fun i hi e => hi.2 e)).keep HK.out (fun i hi e => hi.2 e))
            have HKW := Lib.hid ((HKA.out.then_ HK.out).new (fun i hi => by omega))
            have HL := Lib.hid (And.intro hn3 hn5)
            clear hbr hr3 hr5 hn3 hn5 HO HO3
            go_wp2_with fail
            generalize hW9 : World.setCell _ _ _ = W9
            have hb9 : W9.heap[w.heap.size + 1]? = some (.cells #[.slice B0 b.cs.length d0, .slice B1 b.rs.length d1, .slice B2 b.is.length d2, .slice A3 b.incls.length e3, .slice B4 b.roles.length d4, .slice A5 b.facts.length e5, .slice B6 b.links.length d6] 30 (0, 0)) := by rw [← hW9]; exact blkSet7 HBR2.out _ _ _ _ _ _ _
            have hK9 : Keeps (fun i => i = w.heap.size + 1) wr W9 := by rw [← hW9]; exact keeps7 _ _ _ _ _ _ _ _ _
            clear hW9
            obtain ⟨s0, s1, s2, s3, s4, s5, s6⟩ := cells7 hb9
            have hp9 := HP2.out.keep hK9 (fun i hi e => by omega)
            have hi9 := HI.out.keep hK9 (fun i hi e => by omega)
            have hf9 := HF.out.keep hK9 (fun i hi e => by omega)
            refine bodyPost_ret (v := .agg #[.slice B0 b.cs.length d0, .slice B1 b.rs.length d1, .slice B2 b.is.length d2, .slice A3 b.incls.length e3, .slice B4 b.roles.length d4, .slice A5 b.facts.length e5, .slice B6 b.links.length d6]) (by simp [results, Tryd.results14, go_sem, s0, s1, s2, s3, s4, s5, s6]) rfl ⟨⟨B0, B1, B2, A3, B4, A5, B6, d0, d1, d2, e3, d4, e5, d6⟩, rfl, ?_, (HKW.out.of0.then_ hK9).new (fun i hi => by omega)⟩
            exact
            { cs := hp9.cs.mono (fun i hi => by omega)
              rs := hp9.rs.mono (fun i hi => by omega)
              is := hp9.is.mono (fun i hi => by omega)
              incls := fun hl => by obtain ⟨c, o, e, hb, hc⟩ := hi9 hl; exact ⟨c, o, e, by omega, fun i hi => by obtain ⟨a1, a2, a3, a4, k0, k1, k2, k3, k4, k5, k6, k7⟩ := hc i hi; exact ⟨a1, a2, a3, a4, k0, k1, k2, k3, k4, k5, k6.mono (fun i hi => by omega), k7.mono (fun i hi => by omega)⟩⟩
              roles := fun hl => by obtain ⟨c, o, e, hb, hc⟩ := hp9.roles hl; exact ⟨c, o, e, by omega, hc⟩
              facts := fun hl => by obtain ⟨c, o, e, hb, hc⟩ := hf9 hl; exact ⟨c, o, e, by omega, fun i hi => by obtain ⟨a1, a2, k0, k1, k2, k3, k4⟩ := hc i hi; exact ⟨a1, a2, k0, k1, k2, k3, k4.mono (fun i hi => by omega)⟩⟩
              links := fun hl => by obtain ⟨c, o, e, hb, hc⟩ := hp9.links hl; exact ⟨c, o, e, by omega, hc⟩
              l0 := hp9.l0
              l1 := hp9.l1
              l2 := hp9.l2
              l3 := HL.out.1
              l4 := hp9.l4
              l5 := HL.out.2
              l6 := hp9.l6
              strs := HB.out.strs
              rng := HB.out.rng }
end Go.Proofs.YtoafelppnagpbaaDoor
