/- Interpretations as data; what an argument reads as. -/
import Derived.Test.YtknonaboaaiabaaGreatDoorCardKit
namespace Go.Proofs.YtknonaboaaiabaaGreatDoor
open Go.RowKit Go.WideShapes Go.ChangeShapes Go.ChangeAt
set_option linter.unusedVariables false
set_option linter.unusedSimpArgs false
/-- Ints in a row. -/
abbrev IntsR (ok : Nat → Prop) (w : World) (l : List Int) (A : Option Addr) : Prop := Row1 ok w (Value.int .i64) l A
/-- Pairs of ints in a row. -/
def PairsR (ok : Nat → Prop) (w : World) (l : List (Int × Int)) (A : Option Addr) : Prop :=
  l ≠ [] → ∃ b o, A = some ⟨b, o, none⟩ ∧ ok b ∧ ∀ i (h : i < l.length), w.cell? ⟨b, o + i * 2, none⟩ = some (.int .i64 l[i].1) ∧ w.cell? ⟨b, o + i * 2 + 1, none⟩ = some (.int .i64 l[i].2)
theorem PairsR.keep {ok S : Nat → Prop} {w w' : World} {l : List (Int × Int)} {A : Option Addr} (h : PairsR ok w l A) (hk : Keeps S w w') (hs : ∀ k, ok k → ¬ S k) : PairsR ok w' l A := fun hl => by
  obtain ⟨b, o, e, hb, hc⟩ := h hl
  exact ⟨b, o, e, hb, fun i hi => ⟨hk.cell (hc i hi).1 (hs b hb), hk.cell (hc i hi).2 (hs b hb)⟩⟩
theorem PairsR.mono {ok ok' : Nat → Prop} {w : World} {l : List (Int × Int)} {A : Option Addr} (h : PairsR ok w l A) (ho : ∀ k, ok k → ok' k) : PairsR ok' w l A := fun hl => by
  obtain ⟨b, o, e, hb, hc⟩ := h hl
  exact ⟨b, o, e, ho b hb, hc⟩
theorem PairsR.lim {ok : Nat → Prop} {w : World} {l : List (Int × Int)} {A : Option Addr} (h : PairsR ok w l A) : PairsR (fun k => ok k ∧ k < w.heap.size) w l A := fun hl => by
  obtain ⟨b, o, e, hb, hc⟩ := h hl
  exact ⟨b, o, e, ⟨hb, World.block_lt_of_cell? w _ (hc 0 (List.length_pos_iff.2 hl)).1⟩, hc⟩
/-- A row of slices; each leads to what 'R' says. -/
def RowsR {α : Type} (R : (Nat → Prop) → World → List α → Option Addr → Prop) (ok : Nat → Prop) (w : World) (l : List (List α)) (A : Option Addr) : Prop :=
  l ≠ [] → ∃ b o, A = some ⟨b, o, none⟩ ∧ ok b ∧ ∀ i (h : i < l.length), ∃ B c, w.cell? ⟨b, o + i, none⟩ = some (.slice B l[i].length c) ∧ l[i].length ≤ c ∧ c ≤ maxLen ∧ R ok w l[i] B
structure Itp where
  size : Int
  cons : List (List Int)
  roles : List (List (Int × Int))
  inds : List Int
structure ItpA where
  a0 : Option Addr
  a1 : Option Addr
  a2 : Option Addr
  c0 : Nat
  c1 : Nat
  c2 : Nat
structure ItpR (ok : Nat → Prop) (w : World) (i : Itp) (p : ItpA) : Prop where
  cons : RowsR IntsR ok w i.cons p.a0
  roles : RowsR PairsR ok w i.roles p.a1
  inds : IntsR ok w i.inds p.a2
  l0 : i.cons.length ≤ p.c0
  l1 : i.roles.length ≤ p.c1
  l2 : i.inds.length ≤ p.c2
  m0 : p.c0 ≤ maxLen
  m1 : p.c1 ≤ maxLen
  m2 : p.c2 ≤ maxLen
  rs : i64ok i.size
  ri : ∀ x ∈ i.inds, i64ok x
  rc : ∀ l ∈ i.cons, ∀ x ∈ l, i64ok x
  rr : ∀ l ∈ i.roles, ∀ x ∈ l, i64ok x.1 ∧ i64ok x.2
theorem ItpR.keep {ok S : Nat → Prop} {w w' : World} {i : Itp} {p : ItpA} (h : ItpR ok w i p) (hk : Keeps S w w') (hs : ∀ k, ok k → ¬ S k) : ItpR ok w' i p :=
  { h with
    cons := fun hl => by
      obtain ⟨b, o, e, hb, hc⟩ := h.cons hl
      exact ⟨b, o, e, hb, fun i hi => by obtain ⟨B, c, h1, h2, h3, h4⟩ := hc i hi; exact ⟨B, c, hk.cell h1 (hs b hb), h2, h3, h4.keep hk hs⟩⟩
    roles := fun hl => by
      obtain ⟨b, o, e, hb, hc⟩ := h.roles hl
      exact ⟨b, o, e, hb, fun i hi => by obtain ⟨B, c, h1, h2, h3, h4⟩ := hc i hi; exact ⟨B, c, hk.cell h1 (hs b hb), h2, h3, h4.keep hk hs⟩⟩
    inds := h.inds.keep hk hs }
section
variable {H : Type} {enc : TypeId × Value → H} {w : World} {sp : Nat → Bool} {held : Bool} {base : Nat} {v : Value} {d : DataW H} {ps : List MemPlace}
theorem cellsIntS : Tryz.prog.cellsOf 35 = 1 := by kernel_rfl
theorem cellsPair : Tryz.prog.cellsOf 99 = 2 := by kernel_rfl
theorem cellsPairS : Tryz.prog.cellsOf 100 = 1 := by kernel_rfl
theorem cellsIntSS : Tryz.prog.cellsOf 33 = 1 := by kernel_rfl
theorem cellsPairSS : Tryz.prog.cellsOf 34 = 1 := by kernel_rfl
theorem cellsItp : Tryz.prog.cellsOf 37 = 4 := by kernel_rfl
end
theorem readItp : Readable 37 := ⟨by kernel_rfl, of_decide_eq_true (by kernel_rfl)⟩
end Go.Proofs.YtknonaboaaiabaaGreatDoor
/- Interpretations as arguments: what their lists take. -/
namespace Go.Proofs.YtknonaboaaiabaaGreatDoor
open Go.RowKit Go.WideShapes Go.ChangeShapes Go.ChangeAt
set_option linter.unusedVariables false
set_option linter.unusedSimpArgs false
section
variable {H : Type} {enc : TypeId × Value → H} {w : World} {sp : Nat → Bool} {held : Bool} {base : Nat} {v : Value} {d : DataW H} {ps : List MemPlace}
/-- No slice of the datum takes more than N bytes. -/
def Light (t : TypeId) (N : Nat) (d : DataW H) : Prop := ∀ n ∈ d.weights Tryz.prog t, n ≤ N
theorem weightsAll_mem {e : TypeId} : ∀ {es : List (DataW H)} {i : Nat} (hi : i < es.length), ∀ n ∈ es[i].weights Tryz.prog e, n ∈ DataW.weightsAll Tryz.prog e es
  | x :: r, 0, _, n, hn => by simp only [DataW.weightsAll, List.mem_append]; exact .inl hn
  | x :: r, i + 1, hi, n, hn => by simp only [DataW.weightsAll, List.mem_append]; exact .inr (weightsAll_mem (es := r) (i := i) (by simpa using hi) n hn)
theorem openSliceW {e t : TypeId} {k N : Nat} (hk : Tryz.prog.cellsOf e = k) (hk0 : 0 < k) (ht : Tryz.prog.underlying t = some (.slice e)) {fuel : Nat} {cs : List Value} {x : DataW H × List MemPlace} (h : DataW.trod enc Tryz.prog w 0 sp held fuel t cs = some x) (hN : Light t N x.1) :
    ∃ A len cap, cs = [.slice A len cap] ∧ len ≤ cap ∧ cap ≤ maxLen ∧ len * Tryz.prog.bytesOf e ≤ N ∧ (len ≠ 0 → ∃ b o m, A = some ⟨b, o, none⟩ ∧ fuel = m + 1 ∧ ∀ i, i < len → ∃ ds y, ds.length = k ∧ (∀ j, j < k → w.cell? ⟨b, o + i * k + j, none⟩ = ds[j]?) ∧ DataW.trod enc Tryz.prog w 0 sp held m e ds = some y ∧ Light e N y.1) := by
  rcases DataW.trod_slice ht h with ⟨rfl, _⟩ | ⟨a, len, cap, elems, rest, n, rfl, rfl, hx, _, hlc, hcm, hel, he, _⟩
  · exact ⟨none, 0, 0, rfl, Nat.le_refl _, Nat.zero_le _, by omega, fun h => absurd rfl h⟩
  · have hw : Light t N (DataW.slice (elems.map (·.1)) (rest.map (·.1))) := by rw [hx] at hN; exact hN
    have hw1 : (elems.length + rest.length) * Tryz.prog.bytesOf e ≤ N := by
      have := hw ((elems.length + rest.length) * Tryz.prog.bytesOf e) (by simp [DataW.weights, ht])
      exact this
    refine ⟨some a, len, cap, rfl, hlc, hcm, Nat.le_trans (Nat.mul_le_mul_right _ (by omega)) hw1, fun hne => ?_⟩
    rw [hk] at he
    have hone : ∀ i, i < len → ∃ ds y, w.cells? 0 (a.add (i * k)) k = some ds ∧ DataW.trod enc Tryz.prog w 0 sp held n e ds = some y ∧ Light e N y.1 := by
      intro i hi
      have h1 := he i hi
      rw [List.getElem?_eq_getElem (by omega)] at h1
      obtain ⟨ds, h2, h3⟩ := Option.bind_eq_some_iff.1 h1
      refine ⟨ds, _, h2, h3, fun m hm => hw m ?_⟩
      have hi2 : i < (elems.map (·.1)).length := by simp; omega
      have := weightsAll_mem (e := e) hi2 m (by simpa using hm)
      simp only [DataW.weights, ht, List.mem_cons, List.mem_append]
      exact .inr (.inl this)
    obtain ⟨b, o, spot⟩ := a
    have hspot : spot = none := by
      obtain ⟨ds, y, h2, h3, _⟩ := hone 0 (by omega)
      obtain ⟨_, hl, hc⟩ := World.cells?_some h2
      have h4 := hc 0 hk0
      rw [List.getElem?_eq_getElem (by omega)] at h4
      simpa [Addr.add] using World.cell?_spot h4
    subst hspot
    refine ⟨b, o, n, rfl, rfl, fun i hi => ?_⟩
    obtain ⟨ds, y, h2, h3, h4⟩ := hone i hi
    obtain ⟨_, hl, hc⟩ := World.cells?_some h2
    refine ⟨ds, y, hl, fun j hj => ?_, h3, h4⟩
    have := hc j hj
    rwa [Go.WideShapes.add_plain, Go.WideShapes.add_plain] at this
theorem bytesInt : Tryz.prog.bytesOf 3 = 8 := by kernel_rfl
theorem bytesPair : Tryz.prog.bytesOf 99 = 16 := by kernel_rfl
theorem openIntsW {fuel N : Nat} {cs : List Value} {x : DataW H × List MemPlace} (h : DataW.trod enc Tryz.prog w 0 sp held fuel 35 cs = some x) (hN : Light 35 N x.1) :
    ∃ (l : List Int) (A : Option Addr) (cap : Nat), cs = [.slice A l.length cap] ∧ l.length ≤ cap ∧ cap ≤ maxLen ∧ IntsR (fun _ => True) w l A ∧ (∀ s ∈ l, i64ok s) ∧ l.length * 8 ≤ N := by
  obtain ⟨A, len, cap, rfl, hlc, hcm, hby, hs⟩ := openSliceW cellsInt (by decide) Tryz.underlying35 h hN
  rw [bytesInt] at hby
  by_cases hz : len = 0
  · subst hz
    exact ⟨[], A, cap, rfl, hlc, hcm, fun h => absurd rfl h, fun s hs => by simp at hs, by simp⟩
  · obtain ⟨b, o, m, rfl, rfl, hel⟩ := hs hz
    obtain ⟨l, hl, hr⟩ := listOf (Q := fun i (s : Int) => w.cell? ⟨b, o + i, none⟩ = some (.int .i64 s) ∧ i64ok s) (len := len) (fun i hi => by
      obtain ⟨ds, y, hd, hc, ht, _⟩ := hel i hi
      obtain ⟨v0, rfl⟩ := len1 hd
      obtain ⟨a, e0, _, w0⟩ := DataW.trod_int Tryz.underlying3 ht
      obtain rfl : v0 = .int .i64 a := by simpa using e0
      exact ⟨a, by simpa using hc 0 (by omega), bounds_i64 w0⟩)
    subst hl
    refine ⟨l, _, cap, rfl, hlc, hcm, fun _ => ⟨b, o, rfl, trivial, fun i hi => (hr i hi).1⟩, fun s hs => ?_, hby⟩
    obtain ⟨i, hi, rfl⟩ := List.mem_iff_getElem.1 hs
    exact (hr i hi).2
set_option maxRecDepth 100000 in
theorem openPairsW {fuel N : Nat} {cs : List Value} {x : DataW H × List MemPlace} (h : DataW.trod enc Tryz.prog w 0 sp held fuel 100 cs = some x) (hN : Light 100 N x.1) :
    ∃ (l : List (Int × Int)) (A : Option Addr) (cap : Nat), cs = [.slice A l.length cap] ∧ l.length ≤ cap ∧ cap ≤ maxLen ∧ PairsR (fun _ => True) w l A ∧ (∀ s ∈ l, i64ok s.1 ∧ i64ok s.2) ∧ l.length * 16 ≤ N := by
  obtain ⟨A, len, cap, rfl, hlc, hcm, hby, hs⟩ := openSliceW cellsPair (by decide) Tryz.underlying100 h hN
  rw [bytesPair] at hby
  by_cases hz : len = 0
  · subst hz
    exact ⟨[], A, cap, rfl, hlc, hcm, fun h => absurd rfl h, fun s hs => by simp at hs, by simp⟩
  · obtain ⟨b, o, m, rfl, rfl, hel⟩ := hs hz
    obtain ⟨l, hl, hr⟩ := listOf (Q := fun i (s : Int × Int) => (w.cell? ⟨b, o + i * 2, none⟩ = some (.int .i64 s.1) ∧ w.cell? ⟨b, o + i * 2 + 1, none⟩ = some (.int .i64 s.2)) ∧ i64ok s.1 ∧ i64ok s.2) (len := len) (fun i hi => by
      obtain ⟨ds, y, hd, hc, ht, _⟩ := hel i hi
      obtain ⟨v0, v1, rfl⟩ := len2 hd
      obtain ⟨xs, n, _, _, _, hxs, hf⟩ := DataW.trod_array Tryz.underlying99 ht
      have h0 := hf 0 (by omega)
      have h1 := hf 1 (by omega)
      rw [List.getElem?_eq_getElem (by omega), cellsInt] at h0 h1
      obtain ⟨a, e0, _, w0⟩ := DataW.trod_int Tryz.underlying3 h0
      obtain ⟨c, e1, _, w1⟩ := DataW.trod_int Tryz.underlying3 h1
      obtain rfl : v0 = .int .i64 a := by simpa using e0
      obtain rfl : v1 = .int .i64 c := by simpa using e1
      exact ⟨(a, c), ⟨by simpa using hc 0 (by omega), by simpa using hc 1 (by omega)⟩, bounds_i64 w0, bounds_i64 w1⟩)
    subst hl
    refine ⟨l, _, cap, rfl, hlc, hcm, fun _ => ⟨b, o, rfl, trivial, fun i hi => (hr i hi).1⟩, fun s hs => ?_, hby⟩
    obtain ⟨i, hi, rfl⟩ := List.mem_iff_getElem.1 hs
    exact (hr i hi).2
set_option maxRecDepth 100000 in
theorem openRowsW {α : Type} {R : (Nat → Prop) → World → List α → Option Addr → Prop} {G : List α → Prop} {t e : TypeId} {N : Nat} (hcell : Tryz.prog.cellsOf e = 1) (ht : Tryz.prog.underlying t = some (.slice e))
    (hone : ∀ {fuel : Nat} {cs : List Value} {x : DataW H × List MemPlace}, DataW.trod enc Tryz.prog w 0 sp held fuel e cs = some x → Light e N x.1 → ∃ (l : List α) (A : Option Addr) (cap : Nat), cs = [.slice A l.length cap] ∧ l.length ≤ cap ∧ cap ≤ maxLen ∧ R (fun _ => True) w l A ∧ G l)
    {fuel : Nat} {cs : List Value} {x : DataW H × List MemPlace} (h : DataW.trod enc Tryz.prog w 0 sp held fuel t cs = some x) (hN : Light t N x.1) :
    ∃ (l : List (List α)) (A : Option Addr) (cap : Nat), cs = [.slice A l.length cap] ∧ l.length ≤ cap ∧ cap ≤ maxLen ∧ RowsR R (fun _ => True) w l A ∧ ∀ s ∈ l, G s := by
  obtain ⟨A, len, cap, rfl, hlc, hcm, _, hs⟩ := openSliceW hcell (by decide) ht h hN
  by_cases hz : len = 0
  · subst hz
    exact ⟨[], A, cap, rfl, hlc, hcm, fun h => absurd rfl h, fun s hs => by simp at hs⟩
  · obtain ⟨b, o, m, rfl, rfl, hel⟩ := hs hz
    obtain ⟨l, hl, hr⟩ := listOf (Q := fun i (s : List α) => (∃ B c, w.cell? ⟨b, o + i, none⟩ = some (.slice B s.length c) ∧ s.length ≤ c ∧ c ≤ maxLen ∧ R (fun _ => True) w s B) ∧ G s) (len := len) (fun i hi => by
      obtain ⟨ds, y, hd, hc, ht, hy⟩ := hel i hi
      obtain ⟨v0, rfl⟩ := len1 hd
      obtain ⟨l, B, c, e0, h1, h2, h3, h4⟩ := hone ht hy
      obtain rfl : v0 = .slice B l.length c := by simpa using e0
      exact ⟨l, ⟨B, c, by simpa using hc 0 (by omega), h1, h2, h3⟩, h4⟩)
    subst hl
    refine ⟨l, _, cap, rfl, hlc, hcm, fun _ => ⟨b, o, rfl, trivial, fun i hi => (hr i hi).1⟩, fun s hs => ?_⟩
    obtain ⟨i, hi, rfl⟩ := List.mem_iff_getElem.1 hs
    exact (hr i hi).2
/-- The lists of an interpretation are no longer than memory holds. -/
def ItpLight (N : Nat) (i : Itp) : Prop := (∀ l ∈ i.cons, l.length * 8 ≤ N) ∧ (∀ l ∈ i.roles, l.length * 16 ≤ N) ∧ i.inds.length * 8 ≤ N
set_option maxRecDepth 100000 in
theorem openItpW {fuel N : Nat} {cs : List Value} {x : DataW H × List MemPlace} (h : DataW.trod enc Tryz.prog w 0 sp held fuel 37 cs = some x) (hN : Light 37 N x.1) :
    ∃ (i : Itp) (p : ItpA), cs = [.int .i64 i.size, .slice p.a0 i.cons.length p.c0, .slice p.a1 i.roles.length p.c1, .slice p.a2 i.inds.length p.c2] ∧ ItpR (fun _ => True) w i p ∧ ItpLight N i := by
  have hu := Tryz.underlying37
  obtain ⟨xs, n, rfl, hx, hl, hxs, hf⟩ := DataW.trod_struct hu h
  rw [cellsItp] at hl
  obtain ⟨v0, v1, v2, v3, rfl⟩ := len4 hl
  have hxs : xs.length = 4 := hxs
  have h0 := hf 0 _ rfl
  have h1 := hf 1 _ rfl
  have h2 := hf 2 _ rfl
  have h3 := hf 3 _ rfl
  rw [List.getElem?_eq_getElem (by omega)] at h0 h1 h2 h3
  have hw : Light 37 N (DataW.agg (xs.map (·.1))) := by rw [hx] at hN; exact hN
  have hwj : ∀ (j : Nat) (t : TypeId) (hj : j < xs.length), ([3, 33, 34, 35] : List TypeId)[j]? = some t → Light t N xs[j].1 := fun j t hj ht m hm => hw m (by
    simp only [DataW.weights, hu]
    exact DataW.weights_mem_each (j := j) (t := t) (d := xs[j].1) ht (by simp [hj]) m hm)
  simp only [List.getElem_toArray, List.getElem_cons_zero, List.getElem_cons_succ] at h0 h1 h2 h3
  rw [cellsInt] at h0
  rw [cellsIntSS] at h1
  rw [cellsPairSS] at h2
  rw [cellsIntS] at h3
  obtain ⟨a, e0, _, w0⟩ := DataW.trod_int Tryz.underlying3 h0
  obtain ⟨l1, A1, k1, e1, q1, m1, r1, s1⟩ := openRowsW (R := IntsR) (G := fun l => (∀ x ∈ l, i64ok x) ∧ l.length * 8 ≤ N) cellsIntS Tryz.underlying33 openIntsW h1 (hwj 1 _ (by omega) rfl)
  obtain ⟨l2, A2, k2, e2, q2, m2, r2, s2⟩ := openRowsW (R := PairsR) (G := fun l => (∀ x ∈ l, i64ok x.1 ∧ i64ok x.2) ∧ l.length * 16 ≤ N) cellsPairS Tryz.underlying34 openPairsW h2 (hwj 2 _ (by omega) rfl)
  obtain ⟨l3, A3, k3, e3, q3, m3, r3, s3, b3⟩ := openIntsW h3 (hwj 3 _ (by omega) rfl)
  simp at e0 e1 e2 e3
  subst e0 e1 e2 e3
  exact ⟨⟨a, l1, l2, l3⟩, ⟨A1, A2, A3, k1, k2, k3⟩, rfl, ⟨r1, r2, r3, q1, q2, q3, m1, m2, m3, bounds_i64 w0, s3, fun l hl => (s1 l hl).1, fun l hl => (s2 l hl).1⟩, fun l hl => (s1 l hl).2, fun l hl => (s2 l hl).2, b3⟩
set_option maxRecDepth 100000 in
theorem argItpW {N : Nat} (hval : Value.okWide Tryz.prog w .any base 37 v) (h : DataW.Trod enc Tryz.prog w 0 sp held 37 v d ps) (hN : Light 37 N d) :
    ∃ (i : Itp) (p : ItpA), v = .agg #[.int .i64 i.size, .slice p.a0 i.cons.length p.c0, .slice p.a1 i.roles.length p.c1, .slice p.a2 i.inds.length p.c2] ∧ ItpR (fun _ => True) w i p ∧ ItpLight N i := by
  obtain ⟨cs, rfl, _⟩ := okWide_struct Tryz.underlying37 hval
  obtain ⟨fuel, hf⟩ := h
  obtain ⟨i, p, hcs, hb⟩ := openItpW hf hN
  exact ⟨i, p, congrArg Value.agg (Array.toList_inj.1 hcs), hb⟩
theorem lightOf {ts : List TypeId} {ds : List (DataW H)} {j : Nat} {t : TypeId} (h : (DataW.weightsEach Tryz.prog ts ds).all (· ≤ reachBytes) = true) (ht : ts[j]? = some t) (hd : ds[j]? = some d) : Light t reachBytes d := fun n hn => by
  have := List.all_eq_true.1 h n (DataW.weights_mem_each ht hd n hn)
  simpa using this
end
end Go.Proofs.YtknonaboaaiabaaGreatDoor
