/- What the arguments of a law read as: concepts as trees, knowledge bases as data. -/
import Derived.Test.YthiclhbnggehoaaGreatDoorMem
import Derived.Test.YthiclhbnggehoaaGreatDoorProg
import Derived.OpenShut
import Derived.ChangeArms
namespace Go.Proofs.YthiclhbnggehoaaGreatDoor
open Go.RowKit
set_option linter.unusedVariables false
set_option linter.unusedSimpArgs false
section
variable {H : Type} {enc : TypeId × Value → H} {w : World} {sp : Nat → Bool} {held : Bool}
theorem cellsInt : Tryz.prog.cellsOf 3 = 1 := by kernel_rfl
theorem cellsStr : Tryz.prog.cellsOf 9 = 1 := by kernel_rfl
theorem cellsCon : Tryz.prog.cellsOf 37 = 3 := by kernel_rfl
theorem cellsConS : Tryz.prog.cellsOf 35 = 1 := by kernel_rfl
theorem cellsStrS : Tryz.prog.cellsOf 22 = 1 := by kernel_rfl
theorem cellsNames : Tryz.prog.cellsOf 24 = 3 := by kernel_rfl
theorem cellsIncl : Tryz.prog.cellsOf 92 = 6 := by kernel_rfl
theorem cellsInclS : Tryz.prog.cellsOf 25 = 1 := by kernel_rfl
theorem cellsRole : Tryz.prog.cellsOf 84 = 2 := by kernel_rfl
theorem cellsRoleS : Tryz.prog.cellsOf 26 = 1 := by kernel_rfl
theorem cellsFact : Tryz.prog.cellsOf 87 = 4 := by kernel_rfl
theorem cellsFactS : Tryz.prog.cellsOf 27 = 1 := by kernel_rfl
theorem cellsLink : Tryz.prog.cellsOf 89 = 3 := by kernel_rfl
theorem cellsLinkS : Tryz.prog.cellsOf 28 = 1 := by kernel_rfl
theorem cellsBase : Tryz.prog.cellsOf 30 = 7 := by kernel_rfl
/-- A slice that was read: its elements, cell by cell. -/
theorem openSlice {e t : TypeId} {k : Nat} (hk : Tryz.prog.cellsOf e = k) (hk0 : 0 < k) (ht : Tryz.prog.underlying t = some (.slice e)) {fuel : Nat} {cs : List Value} {x : DataW H × List MemPlace} (h : DataW.trod enc Tryz.prog w 0 sp held fuel t cs = some x) :
    ∃ A len cap, cs = [.slice A len cap] ∧ len ≤ cap ∧ cap ≤ maxLen ∧ (len ≠ 0 → ∃ b o m, A = some ⟨b, o, none⟩ ∧ fuel = m + 1 ∧ ∀ i, i < len → ∃ ds y, ds.length = k ∧ (∀ j, j < k → w.cell? ⟨b, o + i * k + j, none⟩ = ds[j]?) ∧ DataW.trod enc Tryz.prog w 0 sp held m e ds = some y) := by
  rcases DataW.trod_slice ht h with ⟨rfl, _⟩ | ⟨a, len, cap, elems, rest, n, rfl, rfl, _, _, hlc, hcm, hel, he, _⟩
  · exact ⟨none, 0, 0, rfl, Nat.le_refl _, Nat.zero_le _, fun h => absurd rfl h⟩
  · refine ⟨some a, len, cap, rfl, hlc, hcm, fun hne => ?_⟩
    rw [hk] at he
    have hone : ∀ i, i < len → ∃ ds y, w.cells? 0 (a.add (i * k)) k = some ds ∧ DataW.trod enc Tryz.prog w 0 sp held n e ds = some y := by
      intro i hi
      have h1 := he i hi
      rw [List.getElem?_eq_getElem (by omega)] at h1
      obtain ⟨ds, h2, h3⟩ := Option.bind_eq_some_iff.1 h1
      exact ⟨ds, _, h2, h3⟩
    obtain ⟨b, o, spot⟩ := a
    have hspot : spot = none := by
      obtain ⟨ds, y, h2, h3⟩ := hone 0 (by omega)
      obtain ⟨_, hl, hc⟩ := World.cells?_some h2
      have h4 := hc 0 hk0
      rw [List.getElem?_eq_getElem (by omega)] at h4
      simpa [Addr.add] using World.cell?_spot h4
    subst hspot
    refine ⟨b, o, n, rfl, rfl, fun i hi => ?_⟩
    obtain ⟨ds, y, h2, h3⟩ := hone i hi
    obtain ⟨_, hl, hc⟩ := World.cells?_some h2
    refine ⟨ds, y, hl, fun j hj => ?_, h3⟩
    have := hc j hj
    rwa [Go.WideShapes.add_plain, Go.WideShapes.add_plain] at this
theorem consOf {b : Nat} : ∀ (len o : Nat), (∀ i, i < len → ∃ (c : Con) (v0 v1 v2 : Value), w.cell? ⟨b, o + i * 3, none⟩ = some v0 ∧ w.cell? ⟨b, o + i * 3 + 1, none⟩ = some v1 ∧ w.cell? ⟨b, o + i * 3 + 2, none⟩ = some v2 ∧ ConR (fun _ => True) w c [v0, v1, v2]) →
    ∃ l : List Con, l.length = len ∧ ConsR (fun _ => True) w l b o
  | 0, o, _ => ⟨[], rfl, by simp only [ConsR]; exact fun hn => absurd trivial hn⟩
  | len + 1, o, h => by
    obtain ⟨c, v0, v1, v2, h0, h1, h2, hc⟩ := h 0 (by omega)
    obtain ⟨l, hl, hr⟩ := consOf len (o + 3) (fun i hi => by
      obtain ⟨c, v0, v1, v2, h0, h1, h2, hc⟩ := h (i + 1) (by omega)
      refine ⟨c, v0, v1, v2, ?_, ?_, ?_, hc⟩
      · rw [← h0]; congr 2; omega
      · rw [← h1]; congr 2; omega
      · rw [← h2]; congr 2; omega)
    refine ⟨c :: l, by simp [hl], ?_⟩
    simp only [ConsR]
    exact ⟨⟨v0, v1, v2, by simpa using h0, by simpa using h1, by simpa using h2, hc⟩, hr⟩
theorem len3 {cs : List Value} (h : cs.length = 3) : ∃ v0 v1 v2, cs = [v0, v1, v2] := by
  match cs, h with
  | [v0, v1, v2], _ => exact ⟨v0, v1, v2, rfl⟩
theorem len2 {cs : List Value} (h : cs.length = 2) : ∃ v0 v1, cs = [v0, v1] := by
  match cs, h with
  | [v0, v1], _ => exact ⟨v0, v1, rfl⟩
theorem len1 {cs : List Value} (h : cs.length = 1) : ∃ v0, cs = [v0] := by
  match cs, h with
  | [v0], _ => exact ⟨v0, rfl⟩
theorem len4 {cs : List Value} (h : cs.length = 4) : ∃ v0 v1 v2 v3, cs = [v0, v1, v2, v3] := by
  match cs, h with
  | [v0, v1, v2, v3], _ => exact ⟨v0, v1, v2, v3, rfl⟩
theorem len6 {cs : List Value} (h : cs.length = 6) : ∃ v0 v1 v2 v3 v4 v5, cs = [v0, v1, v2, v3, v4, v5] := by
  match cs, h with
  | [v0, v1, v2, v3, v4, v5], _ => exact ⟨v0, v1, v2, v3, v4, v5, rfl⟩
theorem len7 {cs : List Value} (h : cs.length = 7) : ∃ v0 v1 v2 v3 v4 v5 v6, cs = [v0, v1, v2, v3, v4, v5, v6] := by
  match cs, h with
  | [v0, v1, v2, v3, v4, v5, v6], _ => exact ⟨v0, v1, v2, v3, v4, v5, v6, rfl⟩
/-- Three cells that were read as a concept. -/
theorem openCon : ∀ (fuel : Nat) {cs : List Value} {x : DataW H × List MemPlace}, DataW.trod enc Tryz.prog w 0 sp held fuel 37 cs = some x → ∃ c, ConR (fun _ => True) w c cs := by
  intro fuel
  induction fuel using Nat.strongRecOn with
  | ind fuel IH =>
    intro cs x h
    obtain ⟨xs, n, rfl, rfl, hl, hxs, hf⟩ := DataW.trod_struct Tryz.underlying37 h
    rw [cellsCon] at hl
    obtain ⟨v0, v1, v2, rfl⟩ := len3 hl
    have hxs : xs.length = 3 := hxs
    have h0 := hf 0 _ rfl
    have h1 := hf 1 _ rfl
    have h2 := hf 2 _ rfl
    rw [List.getElem?_eq_getElem (by omega)] at h0 h1 h2
    simp only [List.getElem_toArray, List.getElem_cons_zero, List.getElem_cons_succ] at h0 h1 h2
    rw [cellsInt] at h0 h1
    rw [cellsConS] at h2
    obtain ⟨op, e0, _, w0⟩ := DataW.trod_int Tryz.underlying3 h0
    obtain ⟨nn, e1, _, w1⟩ := DataW.trod_int Tryz.underlying3 h1
    obtain ⟨A, len, cap, e2, hlc, hcm, hs⟩ := openSlice cellsCon (by decide) Tryz.underlying35 h2
    obtain rfl : v0 = .int .i64 op := by simpa using e0
    obtain rfl : v1 = .int .i64 nn := by simpa using e1
    obtain rfl : v2 = .slice A len cap := by simpa using e2
    by_cases hz : len = 0
    · subst hz
      exact ⟨⟨op, nn, []⟩, by simp only [ConR]; exact ⟨A, cap, rfl, Nat.zero_le _, fun h => absurd rfl h⟩⟩
    · obtain ⟨b, o, m, rfl, rfl, hel⟩ := hs hz
      obtain ⟨l, hl, hr⟩ := consOf (w := w) (b := b) len o (fun i hi => by
        obtain ⟨ds, y, hd, hc, ht⟩ := hel i hi
        obtain ⟨u0, u1, u2, rfl⟩ := len3 hd
        obtain ⟨c, hcon⟩ := IH m (by omega) ht
        exact ⟨c, u0, u1, u2, by simpa using hc 0 (by omega), by simpa using hc 1 (by omega), by simpa using hc 2 (by omega), hcon⟩)
      subst hl
      refine ⟨⟨op, nn, l⟩, ?_⟩
      simp only [ConR]
      exact ⟨_, cap, rfl, hlc, fun _ => ⟨b, o, rfl, trivial, hr⟩⟩
theorem listOf {α : Type} {len : Nat} {Q : Nat → α → Prop} (h : ∀ i, i < len → ∃ a, Q i a) : ∃ l : List α, l.length = len ∧ ∀ i (hi : i < l.length), Q i l[i] := by
  classical
  exact ⟨List.ofFn fun i : Fin len => (h i.1 i.2).choose, by simp, fun i hi => by simp only [List.getElem_ofFn]; exact (h i (by simpa using hi)).choose_spec⟩
/-- A concept that was read, with its cells written out. -/
theorem openCon3 {fuel : Nat} {v0 v1 v2 : Value} {x : DataW H × List MemPlace} (h : DataW.trod enc Tryz.prog w 0 sp held fuel 37 [v0, v1, v2] = some x) :
    ∃ c A cap, v0 = .int .i64 c.op ∧ v1 = .int .i64 c.n ∧ v2 = .slice A c.args.length cap ∧ ConR (fun _ => True) w c [.int .i64 c.op, .int .i64 c.n, .slice A c.args.length cap] := by
  obtain ⟨c, hc⟩ := openCon fuel h
  obtain ⟨A, cap, e, _⟩ := hc.form
  rw [e] at hc
  simp only [List.cons.injEq, and_true] at e
  exact ⟨c, A, cap, e.1, e.2.1, e.2.2, hc⟩
theorem openStrs {fuel : Nat} {cs : List Value} {x : DataW H × List MemPlace} (h : DataW.trod enc Tryz.prog w 0 sp held fuel 22 cs = some x) :
    ∃ (l : List ByteArray) (A : Option Addr) (cap : Nat), cs = [.slice A l.length cap] ∧ l.length ≤ cap ∧ cap ≤ maxLen ∧ Row1 (fun _ => True) w Value.string l A ∧ ∀ s ∈ l, s.size ≤ maxLen := by
  obtain ⟨A, len, cap, rfl, hlc, hcm, hs⟩ := openSlice cellsStr (by decide) Tryz.underlying22 h
  by_cases hz : len = 0
  · subst hz
    exact ⟨[], A, cap, rfl, hlc, hcm, fun h => absurd rfl h, fun s hs => by simp at hs⟩
  · obtain ⟨b, o, m, rfl, rfl, hel⟩ := hs hz
    obtain ⟨l, hl, hr⟩ := listOf (Q := fun i (s : ByteArray) => w.cell? ⟨b, o + i, none⟩ = some (.string s) ∧ s.size ≤ maxLen) (len := len) (fun i hi => by
      obtain ⟨ds, y, hd, hc, ht⟩ := hel i hi
      obtain ⟨s, rfl, _, hss⟩ := DataW.trod_string Tryz.underlying9 ht
      exact ⟨s, by simpa using hc 0 (by omega), hss⟩)
    subst hl
    refine ⟨l, _, cap, rfl, hlc, hcm, fun _ => ⟨b, o, rfl, trivial, fun i hi => (hr i hi).1⟩, fun s hs => ?_⟩
    obtain ⟨i, hi, rfl⟩ := List.mem_iff_getElem.1 hs
    exact (hr i hi).2
theorem openIncls {fuel : Nat} {cs : List Value} {x : DataW H × List MemPlace} (h : DataW.trod enc Tryz.prog w 0 sp held fuel 25 cs = some x) :
    ∃ (l : List (Con × Con)) (A : Option Addr) (cap : Nat), cs = [.slice A l.length cap] ∧ l.length ≤ cap ∧ cap ≤ maxLen ∧ InclsR (fun _ => True) w l A := by
  obtain ⟨A, len, cap, rfl, hlc, hcm, hs⟩ := openSlice cellsIncl (by decide) Tryz.underlying25 h
  by_cases hz : len = 0
  · subst hz
    exact ⟨[], A, cap, rfl, hlc, hcm, fun h => absurd rfl h⟩
  · obtain ⟨b, o, m, rfl, rfl, hel⟩ := hs hz
    obtain ⟨l, hl, hr⟩ := listOf (Q := fun i (p : Con × Con) => ∃ A1 c1 A2 c2, w.cell? ⟨b, o + i * 6, none⟩ = some (.int .i64 p.1.op) ∧ w.cell? ⟨b, o + i * 6 + 1, none⟩ = some (.int .i64 p.1.n) ∧ w.cell? ⟨b, o + i * 6 + 2, none⟩ = some (.slice A1 p.1.args.length c1) ∧
        w.cell? ⟨b, o + i * 6 + 3, none⟩ = some (.int .i64 p.2.op) ∧ w.cell? ⟨b, o + i * 6 + 4, none⟩ = some (.int .i64 p.2.n) ∧ w.cell? ⟨b, o + i * 6 + 5, none⟩ = some (.slice A2 p.2.args.length c2) ∧
        ConR (fun _ => True) w p.1 [.int .i64 p.1.op, .int .i64 p.1.n, .slice A1 p.1.args.length c1] ∧ ConR (fun _ => True) w p.2 [.int .i64 p.2.op, .int .i64 p.2.n, .slice A2 p.2.args.length c2]) (len := len) (fun i hi => by
      obtain ⟨ds, y, hd, hc, ht⟩ := hel i hi
      obtain ⟨v0, v1, v2, v3, v4, v5, rfl⟩ := len6 hd
      obtain ⟨xs, n, _, _, _, hxs, hf⟩ := DataW.trod_struct Tryz.underlying92 ht
      have hxs : xs.length = 2 := hxs
      have h0 := hf 0 _ rfl
      have h1 := hf 1 _ rfl
      rw [List.getElem?_eq_getElem (by omega)] at h0 h1
      simp only [List.getElem_toArray, List.getElem_cons_zero, List.getElem_cons_succ] at h0 h1
      rw [cellsCon] at h0 h1
      obtain ⟨c, A1, c1, rfl, rfl, rfl, hc1⟩ := openCon3 h0
      obtain ⟨d, A2, c2, rfl, rfl, rfl, hc2⟩ := openCon3 h1
      exact ⟨(c, d), A1, c1, A2, c2, by simpa using hc 0 (by omega), by simpa using hc 1 (by omega), by simpa using hc 2 (by omega), by simpa using hc 3 (by omega), by simpa using hc 4 (by omega), by simpa using hc 5 (by omega), hc1, hc2⟩)
    subst hl
    exact ⟨l, _, cap, rfl, hlc, hcm, fun _ => ⟨b, o, rfl, trivial, hr⟩⟩
theorem openRoles {fuel : Nat} {cs : List Value} {x : DataW H × List MemPlace} (h : DataW.trod enc Tryz.prog w 0 sp held fuel 26 cs = some x) :
    ∃ (l : List (Int × Int)) (A : Option Addr) (cap : Nat), cs = [.slice A l.length cap] ∧ l.length ≤ cap ∧ cap ≤ maxLen ∧ RolesR (fun _ => True) w l A := by
  obtain ⟨A, len, cap, rfl, hlc, hcm, hs⟩ := openSlice cellsRole (by decide) Tryz.underlying26 h
  by_cases hz : len = 0
  · subst hz
    exact ⟨[], A, cap, rfl, hlc, hcm, fun h => absurd rfl h⟩
  · obtain ⟨b, o, m, rfl, rfl, hel⟩ := hs hz
    obtain ⟨l, hl, hr⟩ := listOf (Q := fun i (p : Int × Int) => w.cell? ⟨b, o + i * 2, none⟩ = some (.int .i64 p.1) ∧ w.cell? ⟨b, o + i * 2 + 1, none⟩ = some (.int .i64 p.2)) (len := len) (fun i hi => by
      obtain ⟨ds, y, hd, hc, ht⟩ := hel i hi
      obtain ⟨v0, v1, rfl⟩ := len2 hd
      obtain ⟨xs, n, _, _, _, hxs, hf⟩ := DataW.trod_struct Tryz.underlying84 ht
      have hxs : xs.length = 2 := hxs
      have h0 := hf 0 _ rfl
      have h1 := hf 1 _ rfl
      rw [List.getElem?_eq_getElem (by omega)] at h0 h1
      simp only [List.getElem_toArray, List.getElem_cons_zero, List.getElem_cons_succ] at h0 h1
      rw [cellsInt] at h0 h1
      obtain ⟨a, e0, _, w0⟩ := DataW.trod_int Tryz.underlying3 h0
      obtain ⟨c, e1, _, w1⟩ := DataW.trod_int Tryz.underlying3 h1
      obtain rfl : v0 = .int .i64 a := by simpa using e0
      obtain rfl : v1 = .int .i64 c := by simpa using e1
      exact ⟨(a, c), by simpa using hc 0 (by omega), by simpa using hc 1 (by omega)⟩)
    subst hl
    exact ⟨l, _, cap, rfl, hlc, hcm, fun _ => ⟨b, o, rfl, trivial, hr⟩⟩
theorem openFacts {fuel : Nat} {cs : List Value} {x : DataW H × List MemPlace} (h : DataW.trod enc Tryz.prog w 0 sp held fuel 27 cs = some x) :
    ∃ (l : List (Int × Con)) (A : Option Addr) (cap : Nat), cs = [.slice A l.length cap] ∧ l.length ≤ cap ∧ cap ≤ maxLen ∧ FactsR (fun _ => True) w l A := by
  obtain ⟨A, len, cap, rfl, hlc, hcm, hs⟩ := openSlice cellsFact (by decide) Tryz.underlying27 h
  by_cases hz : len = 0
  · subst hz
    exact ⟨[], A, cap, rfl, hlc, hcm, fun h => absurd rfl h⟩
  · obtain ⟨b, o, m, rfl, rfl, hel⟩ := hs hz
    obtain ⟨l, hl, hr⟩ := listOf (Q := fun i (p : Int × Con) => ∃ A1 c1, w.cell? ⟨b, o + i * 4, none⟩ = some (.int .i64 p.1) ∧ w.cell? ⟨b, o + i * 4 + 1, none⟩ = some (.int .i64 p.2.op) ∧ w.cell? ⟨b, o + i * 4 + 2, none⟩ = some (.int .i64 p.2.n) ∧ w.cell? ⟨b, o + i * 4 + 3, none⟩ = some (.slice A1 p.2.args.length c1) ∧
        ConR (fun _ => True) w p.2 [.int .i64 p.2.op, .int .i64 p.2.n, .slice A1 p.2.args.length c1]) (len := len) (fun i hi => by
      obtain ⟨ds, y, hd, hc, ht⟩ := hel i hi
      obtain ⟨v0, v1, v2, v3, rfl⟩ := len4 hd
      obtain ⟨xs, n, _, _, _, hxs, hf⟩ := DataW.trod_struct Tryz.underlying87 ht
      have hxs : xs.length = 2 := hxs
      have h0 := hf 0 _ rfl
      have h1 := hf 1 _ rfl
      rw [List.getElem?_eq_getElem (by omega)] at h0 h1
      simp only [List.getElem_toArray, List.getElem_cons_zero, List.getElem_cons_succ] at h0 h1
      rw [cellsInt] at h0
      rw [cellsCon] at h1
      obtain ⟨a, e0, _, w0⟩ := DataW.trod_int Tryz.underlying3 h0
      obtain rfl : v0 = .int .i64 a := by simpa using e0
      obtain ⟨c, A1, c1, rfl, rfl, rfl, hc1⟩ := openCon3 h1
      exact ⟨(a, c), A1, c1, by simpa using hc 0 (by omega), by simpa using hc 1 (by omega), by simpa using hc 2 (by omega), by simpa using hc 3 (by omega), hc1⟩)
    subst hl
    exact ⟨l, _, cap, rfl, hlc, hcm, fun _ => ⟨b, o, rfl, trivial, hr⟩⟩
theorem openLinks {fuel : Nat} {cs : List Value} {x : DataW H × List MemPlace} (h : DataW.trod enc Tryz.prog w 0 sp held fuel 28 cs = some x) :
    ∃ (l : List (Int × Int × Int)) (A : Option Addr) (cap : Nat), cs = [.slice A l.length cap] ∧ l.length ≤ cap ∧ cap ≤ maxLen ∧ LinksR (fun _ => True) w l A ∧ ∀ x ∈ l, i64ok x.1 := by
  obtain ⟨A, len, cap, rfl, hlc, hcm, hs⟩ := openSlice cellsLink (by decide) Tryz.underlying28 h
  by_cases hz : len = 0
  · subst hz
    exact ⟨[], A, cap, rfl, hlc, hcm, fun h => absurd rfl h, fun s hs => by simp at hs⟩
  · obtain ⟨b, o, m, rfl, rfl, hel⟩ := hs hz
    obtain ⟨l, hl, hr⟩ := listOf (Q := fun i (p : Int × Int × Int) => (w.cell? ⟨b, o + i * 3, none⟩ = some (.int .i64 p.1) ∧ w.cell? ⟨b, o + i * 3 + 1, none⟩ = some (.int .i64 p.2.1) ∧ w.cell? ⟨b, o + i * 3 + 2, none⟩ = some (.int .i64 p.2.2)) ∧ i64ok p.1) (len := len) (fun i hi => by
      obtain ⟨ds, y, hd, hc, ht⟩ := hel i hi
      obtain ⟨v0, v1, v2, rfl⟩ := len3 hd
      obtain ⟨xs, n, _, _, _, hxs, hf⟩ := DataW.trod_struct Tryz.underlying89 ht
      have hxs : xs.length = 3 := hxs
      have h0 := hf 0 _ rfl
      have h1 := hf 1 _ rfl
      have h2 := hf 2 _ rfl
      rw [List.getElem?_eq_getElem (by omega)] at h0 h1 h2
      simp only [List.getElem_toArray, List.getElem_cons_zero, List.getElem_cons_succ] at h0 h1 h2
      rw [cellsInt] at h0 h1 h2
      obtain ⟨a, e0, _, w0⟩ := DataW.trod_int Tryz.underlying3 h0
      obtain ⟨c, e1, _, w1⟩ := DataW.trod_int Tryz.underlying3 h1
      obtain ⟨d, e2, _, w2⟩ := DataW.trod_int Tryz.underlying3 h2
      obtain rfl : v0 = .int .i64 a := by simpa using e0
      obtain rfl : v1 = .int .i64 c := by simpa using e1
      obtain rfl : v2 = .int .i64 d := by simpa using e2
      exact ⟨(a, c, d), ⟨by simpa using hc 0 (by omega), by simpa using hc 1 (by omega), by simpa using hc 2 (by omega)⟩, bounds_i64 w0⟩)
    subst hl
    refine ⟨l, _, cap, rfl, hlc, hcm, fun _ => ⟨b, o, rfl, trivial, fun i hi => (hr i hi).1⟩, fun s hs => ?_⟩
    obtain ⟨i, hi, rfl⟩ := List.mem_iff_getElem.1 hs
    exact (hr i hi).2
/-- Seven cells that were read as a knowledge base. -/
theorem openBase {fuel : Nat} {cs : List Value} {x : DataW H × List MemPlace} (h : DataW.trod enc Tryz.prog w 0 sp held fuel 30 cs = some x) :
    ∃ (b : Kb) (p : KbA), cs = [.slice p.a0 b.cs.length p.c0, .slice p.a1 b.rs.length p.c1, .slice p.a2 b.is.length p.c2, .slice p.a3 b.incls.length p.c3, .slice p.a4 b.roles.length p.c4, .slice p.a5 b.facts.length p.c5, .slice p.a6 b.links.length p.c6] ∧ KbR (fun _ => True) w b p := by
  obtain ⟨xs, n, rfl, rfl, hl, hxs, hf⟩ := DataW.trod_struct Tryz.underlying30 h
  rw [cellsBase] at hl
  obtain ⟨v0, v1, v2, v3, v4, v5, v6, rfl⟩ := len7 hl
  have hxs : xs.length = 5 := hxs
  have h0 := hf 0 _ rfl
  have h1 := hf 1 _ rfl
  have h2 := hf 2 _ rfl
  have h3 := hf 3 _ rfl
  have h4 := hf 4 _ rfl
  rw [List.getElem?_eq_getElem (by omega)] at h0 h1 h2 h3 h4
  simp only [List.getElem_toArray, List.getElem_cons_zero, List.getElem_cons_succ] at h0 h1 h2 h3 h4
  rw [cellsNames] at h0
  rw [cellsInclS] at h1
  rw [cellsRoleS] at h2
  rw [cellsFactS] at h3
  rw [cellsLinkS] at h4
  obtain ⟨ys, n, rfl, _, _, hys, hg⟩ := DataW.trod_struct Tryz.underlying24 h0
  have hys : ys.length = 3 := hys
  have g0 := hg 0 _ rfl
  have g1 := hg 1 _ rfl
  have g2 := hg 2 _ rfl
  rw [List.getElem?_eq_getElem (by omega)] at g0 g1 g2
  simp only [List.getElem_toArray, List.getElem_cons_zero, List.getElem_cons_succ] at g0 g1 g2
  rw [cellsStrS] at g0 g1 g2
  obtain ⟨l0, A0, k0, e0, q0, m0, r0, s0⟩ := openStrs g0
  obtain ⟨l1, A1, k1, e1, q1, m1, r1, s1⟩ := openStrs g1
  obtain ⟨l2, A2, k2, e2, q2, m2, r2, s2⟩ := openStrs g2
  obtain ⟨l3, A3, k3, e3, q3, m3, r3⟩ := openIncls h1
  obtain ⟨l4, A4, k4, e4, q4, m4, r4⟩ := openRoles h2
  obtain ⟨l5, A5, k5, e5, q5, m5, r5⟩ := openFacts h3
  obtain ⟨l6, A6, k6, e6, q6, m6, r6, s6⟩ := openLinks h4
  simp at e0 e1 e2 e3 e4 e5 e6
  subst e0 e1 e2 e3 e4 e5 e6
  refine ⟨⟨l0, l1, l2, l3, l4, l5, l6⟩, ⟨A0, A1, A2, A3, A4, A5, A6, k0, k1, k2, k3, k4, k5, k6⟩, rfl, ⟨r0, r1, r2, r3, r4, r5, r6, q0, q1, q2, q3, q4, q5, q6, ?_, s6⟩⟩
  intro s hs
  simp only [List.mem_append] at hs
  rcases hs with (h | h) | h
  · exact s0 s h
  · exact s1 s h
  · exact s2 s h
/-- A slice that was read as concepts. -/
theorem openCons {fuel : Nat} {cs : List Value} {x : DataW H × List MemPlace} (h : DataW.trod enc Tryz.prog w 0 sp held fuel 35 cs = some x) :
    ∃ (l : List Con) (A : Option Addr) (cap : Nat), cs = [.slice A l.length cap] ∧ l.length ≤ cap ∧ cap ≤ maxLen ∧ (l ≠ [] → ∃ b o, A = some ⟨b, o, none⟩ ∧ ConsR (fun _ => True) w l b o) := by
  obtain ⟨A, len, cap, rfl, hlc, hcm, hs⟩ := openSlice cellsCon (by decide) Tryz.underlying35 h
  by_cases hz : len = 0
  · subst hz
    exact ⟨[], A, cap, rfl, hlc, hcm, fun h => absurd rfl h⟩
  · obtain ⟨b, o, m, rfl, rfl, hel⟩ := hs hz
    obtain ⟨l, hl, hr⟩ := consOf (w := w) (b := b) len o (fun i hi => by
      obtain ⟨ds, y, hd, hc, ht⟩ := hel i hi
      obtain ⟨u0, u1, u2, rfl⟩ := len3 hd
      obtain ⟨c, hcon⟩ := openCon m ht
      exact ⟨c, u0, u1, u2, by simpa using hc 0 (by omega), by simpa using hc 1 (by omega), by simpa using hc 2 (by omega), hcon⟩)
    subst hl
    exact ⟨l, _, cap, rfl, hlc, hcm, fun _ => ⟨b, o, rfl, hr⟩⟩
end
end Go.Proofs.YthiclhbnggehoaaGreatDoor
