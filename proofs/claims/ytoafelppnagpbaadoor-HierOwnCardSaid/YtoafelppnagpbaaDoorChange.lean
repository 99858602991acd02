/- The law's change: it stores into a concept and all its parts. -/
import Derived.Test.YtoafelppnagpbaaDoorReads
import Derived.Test.YtoafelppnagpbaaDoorSame
namespace Go.Proofs.YtoafelppnagpbaaDoor
open Go.RowKit
set_option linter.unusedVariables false
set_option linter.unusedSimpArgs false
mutual
/-- At (b, o) lies a concept of this shape, whatever its numbers are; it may be written. -/
def SkC (ok : Nat → Prop) (w : World) : Con → Nat → Nat → Prop
  | ⟨_, _, args⟩, b, o => ok b ∧ (∃ x, w.cell? ⟨b, o, none⟩ = some (.int .i64 x)) ∧ (∃ y, w.cell? ⟨b, o + 1, none⟩ = some (.int .i64 y)) ∧ (∀ j, w.frozen? ⟨b, j, none⟩ = false) ∧
      ∃ A cap, w.cell? ⟨b, o + 2, none⟩ = some (.slice A args.length cap) ∧ (args ≠ [] → ∃ b' o', A = some ⟨b', o', none⟩ ∧ SkL ok w args b' o')
def SkL (ok : Nat → Prop) (w : World) : List Con → Nat → Nat → Prop
  | [], _, _ => True
  | c :: r, b, o => SkC ok w c b o ∧ SkL ok w r b (o + 3)
end
/-- Slices stay, ints stay ints, nothing gets frozen. -/
structure Turn (w w' : World) : Prop where
  size : w.heap.size ≤ w'.heap.size
  sl : ∀ b o A n c, w.cell? ⟨b, o, none⟩ = some (.slice A n c) → w'.cell? ⟨b, o, none⟩ = some (.slice A n c)
  num : ∀ b o x, w.cell? ⟨b, o, none⟩ = some (.int .i64 x) → ∃ y, w'.cell? ⟨b, o, none⟩ = some (.int .i64 y)
  fr : ∀ b j, b < w.heap.size → w'.frozen? ⟨b, j, none⟩ = w.frozen? ⟨b, j, none⟩
theorem Turn.refl (w : World) : Turn w w := ⟨Nat.le_refl _, fun _ _ _ _ _ h => h, fun _ _ x h => ⟨x, h⟩, fun _ _ _ => rfl⟩
theorem Turn.trans {a b c : World} (h : Turn a b) (k : Turn b c) : Turn a c where
  size := Nat.le_trans h.size k.size
  sl p o A n d hc := k.sl _ _ _ _ _ (h.sl _ _ _ _ _ hc)
  num p o x hc := by obtain ⟨y, hy⟩ := h.num _ _ _ hc; exact k.num _ _ _ hy
  fr p j hp := (k.fr p j (Nat.lt_of_lt_of_le hp h.size)).trans (h.fr p j hp)
theorem Turn.ofKeeps {w w' : World} (h : Keeps (fun _ => False) w w') : Turn w w' where
  size := h.size
  sl b o A n c hc := h.cell hc (fun h => h)
  num b o x hc := ⟨x, h.cell hc (fun h => h)⟩
  fr b j hb := World.frozen?_of_block (w := w) (h.block b hb (fun h => h))
theorem Turn.set {w : World} {b o : Nat} {x : Int} (h : w.cell? ⟨b, o, none⟩ = some (.int .i64 x)) (z : Int) : Turn w (w.setCell ⟨b, o, none⟩ (.int .i64 z)) where
  size := by simp [World.setCell]
  sl p q A n c hc := by
    rw [World.cell?_setCell_other _ _ _ _ (fun e => by rw [← e, h] at hc; cases hc)]
    exact hc
  num p q y hc := by
    by_cases e : (⟨b, o, none⟩ : Addr) = ⟨p, q, none⟩
    · rw [← e]; exact ⟨z, World.cell?_setCell_same _ _ _ h⟩
    · rw [World.cell?_setCell_other _ _ _ _ e]; exact ⟨y, hc⟩
  fr p j hp := World.frozen?_setCell _ _ _ _
mutual
theorem SkC.turn {ok : Nat → Prop} {w w' : World} (ht : Turn w w') : ∀ {c : Con} {b o : Nat}, SkC ok w c b o → SkC ok w' c b o
  | ⟨op, n, args⟩, b, o, h => by
    simp only [SkC] at h ⊢
    obtain ⟨hb, ⟨x, hx⟩, ⟨y, hy⟩, hf, A, cap, hA, hr⟩ := h
    exact ⟨hb, ht.num _ _ _ hx, ht.num _ _ _ hy, fun j => (ht.fr _ _ (World.block_lt_of_cell? w _ hx)).trans (hf j), A, cap, ht.sl _ _ _ _ _ hA, fun hne => by obtain ⟨b', o', e, hl⟩ := hr hne; exact ⟨b', o', e, SkL.turn ht hl⟩⟩
theorem SkL.turn {ok : Nat → Prop} {w w' : World} (ht : Turn w w') : ∀ {l : List Con} {b o : Nat}, SkL ok w l b o → SkL ok w' l b o
  | [], _, _, _ => by simp only [SkL]
  | c :: r, b, o, h => by
    simp only [SkL] at h ⊢
    exact ⟨SkC.turn ht h.1, SkL.turn ht h.2⟩
end
theorem SkL.at_ {ok : Nat → Prop} {w : World} : ∀ {l : List Con} {b o : Nat}, SkL ok w l b o → ∀ i (h : i < l.length), SkC ok w l[i] b (o + i * 3)
  | c :: r, b, o, h, 0, _ => by simp only [SkL] at h; simpa using h.1
  | c :: r, b, o, h, i + 1, hi => by
    simp only [SkL] at h
    have := SkL.at_ h.2 i (by simpa using hi)
    simpa [Nat.add_mul, Nat.add_assoc, Nat.add_comm, Nat.add_left_comm] using this
theorem ConsR.thaw {ok : Nat → Prop} {w : World} (h0 : ¬ ok 0) : ∀ {l : List Con} {b o : Nat}, ConsR ok w l b o → ∀ j, w.frozen? ⟨b, j, none⟩ = false
  | [], b, o, h => by
    simp only [ConsR] at h
    obtain ⟨cs, t, e⟩ := h h0
    exact fun j => blkFree e j
  | c :: r, b, o, h => by
    simp only [ConsR] at h
    exact ConsR.thaw h0 h.2
mutual
theorem SkL.of {ok : Nat → Prop} {w : World} (h0 : ¬ ok 0) : ∀ {l : List Con} {b o : Nat}, ok b → (∀ j, w.frozen? ⟨b, j, none⟩ = false) → ConsR ok w l b o → SkL ok w l b o
  | [], _, _, _, _, _ => by simp only [SkL]
  | ⟨op, n, args⟩ :: r, b, o, hb, hf, h => by
    simp only [ConsR] at h
    obtain ⟨⟨v0, v1, v2, e0, e1, e2, hc⟩, hr⟩ := h
    simp only [SkL]
    exact ⟨SkC.of h0 hb hf e0 e1 e2 hc, SkL.of h0 hb hf hr⟩
theorem SkC.of {ok : Nat → Prop} {w : World} (h0 : ¬ ok 0) : ∀ {c : Con} {b o : Nat} {v0 v1 v2 : Value}, ok b → (∀ j, w.frozen? ⟨b, j, none⟩ = false) → w.cell? ⟨b, o, none⟩ = some v0 → w.cell? ⟨b, o + 1, none⟩ = some v1 → w.cell? ⟨b, o + 2, none⟩ = some v2 → ConR ok w c [v0, v1, v2] → SkC ok w c b o
  | ⟨op, n, args⟩, b, o, v0, v1, v2, hb, hf, e0, e1, e2, hc => by
    simp only [ConR] at hc
    obtain ⟨A, cap, e, hcap, hr⟩ := hc
    simp only [List.cons.injEq, and_true] at e
    obtain ⟨rfl, rfl, rfl⟩ := e
    simp only [SkC]
    exact ⟨hb, ⟨_, e0⟩, ⟨_, e1⟩, hf, A, cap, e2, fun hne => by obtain ⟨b', o', e, hb', hl⟩ := hr hne; exact ⟨b', o', e, SkL.of h0 hb' (ConsR.thaw h0 hl) hl⟩⟩
end
set_option maxRecDepth 100000 in
set_option maxHeartbeats 4000000 in
theorem change_calls (N : Nat) : ∀ (c : Con) (b o : Nat) (ok : Nat → Prop) (w : World), c.size < N → c.size ≤ 100000 → SkC ok w c b o →
    Calls Tryd.prog 17 #[.pointer (some ⟨b, o, none⟩)] w fun e w' => e = .returned (.tuple #[]) ∧ Turn w w' ∧ Keeps ok w w' := by
  induction N with
  | zero => intro c _ _ _ _ h; exact absurd h (Nat.not_lt_zero _)
  | succ N ih =>
  intro c b o ok w hN hz hsk
  have IH := Lib.hid @ih
  have HSK := Lib.hid hsk
  clear ih hsk
  obtain ⟨op, n, args⟩ := c
  have hsz : (Con.mk op n args).size = Con.sizes args + 1 := by simp [Con.size]
  have hal := sameLen args
  rw [hsz] at hN hz
  have h := HSK.out
  simp only [SkC] at h
  obtain ⟨hb, ⟨x, hx⟩, ⟨y, hy⟩, hf, A, cap, hA, hr⟩ := h
  have HB := Lib.hid hb
  have HR := Lib.hid hr
  have HX := Lib.hid hx
  have HY := Lib.hid hy
  have HA := Lib.hid hA
  have HF := Lib.hid hf
  have hlt0 : b < w.heap.size := World.block_lt_of_cell? w _ hx
  clear hb hr hx hy hf HSK
  go_enter Tryd.func17, Tryd.ntmps17
  go_wp2_with fail
  clear hA
  go_loopw [8] (fun i wr => ∃ k : Nat, k ≤ args.length ∧ i = .int .i64 k ∧ Hid (Turn w wr) ∧ Hid (Keeps ok w wr)) (fun i _ => args.length - (intOf i).toNat)
  case atStart => exact ⟨0, Nat.zero_le _, rfl, Turn.refl _, Keeps.refl _ _⟩
  case round =>
    obtain ⟨k, hk, rfl, HT, HK⟩ := hrel
    have hAr := HT.out.sl _ _ _ _ _ HA.out
    have hbr : b < wr.heap.size := Nat.lt_of_lt_of_le hlt0 HK.out.size
    by_cases hlt : k < args.length
    · obtain ⟨b', o', rfl, hl⟩ := HR.out (by intro h; subst h; simp at hlt)
      have hck := (hl.turn HT.out).at_ k hlt
      have i1 : (k : Int) < args.length := by omega
      have hsn := Con.size_at k hlt
      generalize args[k] = d at *
      have HCALL := Lib.hid (IH.out d b' (o' + k * 3) ok wr (by omega) (by omega) hck)
      clear hck hl
      go_wp2_with fail
      refine HCALL.out.mono ?_
      clear HCALL
      rintro e w5 ⟨rfl, ht5, hk5⟩
      have HT5 := Lib.hid (HT.out.trans ht5)
      have HK5 := Lib.hid (HK.out.then_ hk5)
      clear ht5 hk5
      go_wp2_with fail
      go_roundw
      case rel => exact ⟨k + 1, by omega, by go_num, HT5, HK5⟩
      case measure => simp [intOf]; omega
    · obtain rfl : k = args.length := by omega
      obtain ⟨x2, hx2⟩ := HT.out.num _ _ _ HX.out
      obtain ⟨y2, hy2⟩ := HT.out.num _ _ _ HY.out
      have f0 : wr.frozen? ⟨b, o, none⟩ = false := (HT.out.fr _ _ hlt0).trans (HF.out _)
      have f1 : wr.frozen? ⟨b, o + 1, none⟩ = false := (HT.out.fr _ _ hlt0).trans (HF.out _)
      clear hAr
      go_wp2_with fail
      refine bodyPost_end (v := .tuple #[]) (by simp [results, Tryd.results17]) rfl ⟨rfl, ?_, ?_⟩
      · refine (HT.out.trans (Turn.set hx2 _)).trans (Turn.set (x := y2) ?_ _)
        rw [World.cell?_setCell_other _ _ _ _ (by simp)]
        exact hy2
      · exact (HK.out.set (g := b) (.inl HB.out) _).set (g := b) (.inl HB.out) _
end Go.Proofs.YtoafelppnagpbaaDoor
