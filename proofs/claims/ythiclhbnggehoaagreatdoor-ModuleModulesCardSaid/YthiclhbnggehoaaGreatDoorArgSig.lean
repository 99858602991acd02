/- What a signature of a law's arguments reads as: two rows of ints. -/
import Derived.Test.YthiclhbnggehoaaGreatDoorCardKit1
import Derived.Test.YthiclhbnggehoaaGreatDoorKnow
import Derived.Test.YthiclhbnggehoaaGreatDoorReads
namespace Go.Proofs.YthiclhbnggehoaaGreatDoor
open Go.RowKit Go.WideShapes Go.ChangeShapes Go.ChangeAt
set_option linter.unusedVariables false
set_option linter.unusedSimpArgs false
section
variable {H : Type} {enc : TypeId × Value → H} {w : World} {sp : Nat → Bool} {held : Bool} {base : Nat} {v : Value} {d : DataW H} {ps : List MemPlace}
theorem cellsIntSl : Tryz.prog.cellsOf 31 = 1 := by kernel_rfl
theorem cellsSigTy : Tryz.prog.cellsOf 33 = 2 := by kernel_rfl
theorem openInts {fuel : Nat} {cs : List Value} {x : DataW H × List MemPlace} (h : DataW.trod enc Tryz.prog w 0 sp held fuel 31 cs = some x) :
    ∃ (l : List Int) (A : Option Addr) (cap : Nat), cs = [.slice A l.length cap] ∧ l.length ≤ cap ∧ cap ≤ maxLen ∧ Row1 (fun _ => True) w (Value.int .i64) l A := by
  obtain ⟨A, len, cap, rfl, hlc, hcm, hs⟩ := openSlice cellsInt (by decide) Tryz.underlying31 h
  by_cases hz : len = 0
  · subst hz
    exact ⟨[], A, cap, rfl, hlc, hcm, fun h => absurd rfl h⟩
  · obtain ⟨b, o, m, rfl, rfl, hel⟩ := hs hz
    obtain ⟨l, hl, hr⟩ := listOf (Q := fun i (s : Int) => w.cell? ⟨b, o + i, none⟩ = some (.int .i64 s)) (len := len) (fun i hi => by
      obtain ⟨ds, y, hd, hc, ht⟩ := hel i hi
      obtain ⟨v0, rfl⟩ := len1 hd
      obtain ⟨a, e0, _, w0⟩ := DataW.trod_int Tryz.underlying3 ht
      obtain rfl : v0 = .int .i64 a := by simpa using e0
      exact ⟨a, by simpa using hc 0 (by omega)⟩)
    subst hl
    exact ⟨l, _, cap, rfl, hlc, hcm, fun _ => ⟨b, o, rfl, trivial, fun i hi => hr i hi⟩⟩
set_option maxRecDepth 100000 in
theorem openSig {fuel : Nat} {cs : List Value} {x : DataW H × List MemPlace} (h : DataW.trod enc Tryz.prog w 0 sp held fuel 33 cs = some x) :
    ∃ (C R : List Int) (AC AR : Option Addr) (cC cR : Nat), cs = [.slice AC C.length cC, .slice AR R.length cR] ∧ SigR (fun _ => True) w C R AC AR := by
  obtain ⟨xs, n, rfl, rfl, hl, hxs, hf⟩ := DataW.trod_struct Tryz.underlying33 h
  rw [cellsSigTy] at hl
  obtain ⟨v0, v1, rfl⟩ := len2 hl
  have hxs : xs.length = 2 := hxs
  have h0 := hf 0 _ rfl
  have h1 := hf 1 _ rfl
  rw [List.getElem?_eq_getElem (by omega)] at h0 h1
  simp only [List.getElem_toArray, List.getElem_cons_zero, List.getElem_cons_succ] at h0 h1
  rw [cellsIntSl] at h0 h1
  obtain ⟨l0, A0, c0, e0, _, _, r0⟩ := openInts h0
  obtain ⟨l1, A1, c1, e1, _, _, r1⟩ := openInts h1
  obtain rfl : v0 = .slice A0 l0.length c0 := by simpa using e0
  obtain rfl : v1 = .slice A1 l1.length c1 := by simpa using e1
  exact ⟨l0, l1, A0, A1, c0, c1, rfl, r0, r1⟩
set_option maxRecDepth 100000 in
theorem argSig (hval : Value.okWide Tryz.prog w .any base 33 v) (h : DataW.Trod enc Tryz.prog w 0 sp held 33 v d ps) :
    ∃ (C R : List Int) (AC AR : Option Addr) (cC cR : Nat), v = .agg #[.slice AC C.length cC, .slice AR R.length cR] ∧ SigR (fun _ => True) w C R AC AR := by
  obtain ⟨cs, rfl, _⟩ := okWide_struct Tryz.underlying33 hval
  obtain ⟨fuel, hf⟩ := h
  obtain ⟨C, R, AC, AR, cC, cR, hcs, hs⟩ := openSig hf
  exact ⟨C, R, AC, AR, cC, cR, congrArg Value.agg (Array.toList_inj.1 hcs), hs⟩
set_option maxRecDepth 100000 in
/-- A slice of ints. -/
theorem argInts (hval : Value.okWide Tryz.prog w .any base 31 v) (h : DataW.Trod enc Tryz.prog w 0 sp held 31 v d ps) :
    ∃ (l : List Int) (A : Option Addr) (cap : Nat), v = .slice A l.length cap ∧ l.length ≤ cap ∧ cap ≤ maxLen ∧ Row1 (fun _ => True) w (Value.int .i64) l A := by
  obtain ⟨a, n, k, rfl⟩ := okWide_slice Tryz.underlying31 hval
  obtain ⟨fuel, hf⟩ := h
  obtain ⟨l, A, cap, hcs, h1, h2, h3⟩ := openInts hf
  have e : Value.slice a n k = .slice A l.length cap := by simpa [Value.cells] using hcs
  exact ⟨l, A, cap, e, h1, h2, h3⟩
theorem SigR.lim {w : World} {C R : List Int} {A B : Option Addr} (h : SigR (fun _ => True) w C R A B) : SigR (fun k => k < w.heap.size) w C R A B := ⟨h.c.lim.mono (fun _ h => h.2), h.r.lim.mono (fun _ h => h.2)⟩
theorem KbR.limT {w : World} {b : Kb} {p : KbA} (h : KbR (fun _ => True) w b p) : KbR (fun k => k < w.heap.size) w b p := h.lim.mono (fun _ h => h.2)
end
theorem readSig : Readable 33 := ⟨by kernel_rfl, of_decide_eq_true (by kernel_rfl)⟩
theorem readInts : Readable 31 := ⟨by kernel_rfl, of_decide_eq_true (by kernel_rfl)⟩
end Go.Proofs.YthiclhbnggehoaaGreatDoor
