/- Pure: the text of a concept says which one it is. -/
import Derived.Test.YtoafelppnagpbaaGreatDoorText
import Derived.Test.YtoafelppnagpbaaGreatDoorMarked
import Derived.Test.YtoafelppnagpbaaGreatDoorSpaceC
import Derived.Test.YtoafelppnagpbaaGreatDoorMarks
import Derived.Test.YtoafelppnagpbaaGreatDoorR2
namespace Go.Proofs.YtoafelppnagpbaaGreatDoor
open Go.RowKit
set_option linter.unusedVariables false
set_option linter.unusedSimpArgs false
def isW (b : UInt8) : Bool := withinB (b.toNat : Int)
def Sep (s : List UInt8) : Prop := ∀ x r, s = x :: r → isW x = false
theorem wsplit : ∀ {a b s t : List UInt8}, (∀ x ∈ a, isW x = true) → (∀ x ∈ b, isW x = true) → Sep s → Sep t → a ++ s = b ++ t → a = b ∧ s = t
  | [], [], _, _, _, _, _, _, h => ⟨rfl, h⟩
  | [], y :: b, s, t, _, hb, hs, _, h => by
    have := hs y (b ++ t) h
    rw [hb y (by simp)] at this; cases this
  | x :: a, [], s, t, ha, _, _, ht, h => by
    have := ht x (a ++ s) h.symm
    rw [ha x (by simp)] at this; cases this
  | x :: a, y :: b, s, t, ha, hb, hs, ht, h => by
    simp only [List.cons_append, List.cons.injEq] at h
    obtain ⟨rfl, h⟩ := h
    obtain ⟨rfl, h2⟩ := wsplit (fun x hx => ha x (by simp [hx])) (fun x hx => hb x (by simp [hx])) hs ht h
    exact ⟨rfl, h2⟩
def wTop : List UInt8 := [116, 111, 112]
def wBot : List UInt8 := [98, 111, 116]
def wNot : List UInt8 := [110, 111, 116]
def wSome : List UInt8 := [115, 111, 109, 101]
def wAll : List UInt8 := [97, 108, 108]
/-- Names as they are in a valid knowledge base. -/
structure Nm (l : List ByteArray) : Prop where
  inj : ∀ i j (hi : i < l.length) (hj : j < l.length), l[i] = l[j] → i = j
  word : ∀ s ∈ l, ∀ x ∈ s.data.toList, isW x = true
  ne : ∀ s ∈ l, s.data.toList ≠ [] ∧ s.data.toList ≠ wTop ∧ s.data.toList ≠ wBot ∧ s.data.toList ≠ wNot ∧ s.data.toList ≠ wSome ∧ s.data.toList ≠ wAll
def tx (cs rs : List ByteArray) (c : Con) : List UInt8 := (textC cs rs c).data.toList
def rx (rs : List ByteArray) (n : Int) : List UInt8 := (roleT rs n.toNat).data.toList
def nx (cs : List ByteArray) (n : Int) : List UInt8 := (cs.getD n.toNat ⟨#[]⟩).data.toList
def headW (cs : List ByteArray) (op n : Int) : List UInt8 := if op = 0 then nx cs n else if op = 1 then wTop else if op = 2 then wBot else if op = 3 then wNot else if op = 6 then wSome else if op = 7 then wAll else []
theorem baList (a b : ByteArray) : (a ++ b).data.toList = a.data.toList ++ b.data.toList := by simp [ByteArray.data_append]
theorem tx0 (cs rs : List ByteArray) (n : Int) (l : List Con) : tx cs rs ⟨0, n, l⟩ = nx cs n := by simp [tx, nx, textC]
theorem tx1 (cs rs : List ByteArray) (n : Int) (l : List Con) : tx cs rs ⟨1, n, l⟩ = wTop := by simp [tx, textC, wTop]
theorem tx2 (cs rs : List ByteArray) (n : Int) (l : List Con) : tx cs rs ⟨2, n, l⟩ = wBot := by simp [tx, textC, wBot]
theorem tx3 (cs rs : List ByteArray) (n : Int) (a : Con) : tx cs rs ⟨3, n, [a]⟩ = wNot ++ (32 :: tx cs rs a) := by simp [tx, textC, text1, wNot, baList]
theorem tx4 (cs rs : List ByteArray) (n : Int) (a b : Con) : tx cs rs ⟨4, n, [a, b]⟩ = 40 :: (tx cs rs a ++ (32 :: 97 :: 110 :: 100 :: 32 :: (tx cs rs b ++ [41]))) := by simp [tx, textC, text1, text2, baList]
theorem tx5 (cs rs : List ByteArray) (n : Int) (a b : Con) : tx cs rs ⟨5, n, [a, b]⟩ = 40 :: (tx cs rs a ++ (32 :: 111 :: 114 :: 32 :: (tx cs rs b ++ [41]))) := by simp [tx, textC, text1, text2, baList]
theorem tx6 (cs rs : List ByteArray) (n : Int) (a : Con) : tx cs rs ⟨6, n, [a]⟩ = wSome ++ (32 :: (rx rs n ++ (32 :: tx cs rs a))) := by simp [tx, rx, textC, text1, wSome, baList]
theorem tx7 (cs rs : List ByteArray) (n : Int) (a : Con) : tx cs rs ⟨7, n, [a]⟩ = wAll ++ (32 :: (rx rs n ++ (32 :: tx cs rs a))) := by simp [tx, rx, textC, text1, wAll, baList]
theorem nx_mem {cs : List ByteArray} {n : Int} (h0 : 0 ≤ n) (h1 : n < cs.length) : ∃ h : n.toNat < cs.length, nx cs n = (cs[n.toNat]).data.toList ∧ cs[n.toNat] ∈ cs := by
  have h : n.toNat < cs.length := by omega
  exact ⟨h, by simp [nx, h], List.getElem_mem h⟩
theorem nx_inj {cs : List ByteArray} (hc : Nm cs) {n m : Int} (h0 : 0 ≤ n) (h1 : n < cs.length) (h2 : 0 ≤ m) (h3 : m < cs.length) (h : nx cs n = nx cs m) : n = m := by
  obtain ⟨a1, a2, _⟩ := nx_mem h0 h1
  obtain ⟨b1, b2, _⟩ := nx_mem h2 h3
  rw [a2, b2] at h
  have := hc.inj _ _ a1 b1 (by apply ByteArray.ext; apply Array.ext'; exact h)
  omega
theorem rx_parts {rs : List ByteArray} {r : Int} (h0 : 0 ≤ r) (h1 : r < 2 * rs.length) : ∃ h : r.toNat / 2 < rs.length, rs[r.toNat / 2] ∈ rs ∧ rx rs r = (rs[r.toNat / 2]).data.toList ++ (if r.toNat % 2 = 1 then [45] else []) := by
  have h : r.toNat / 2 < rs.length := by omega
  refine ⟨h, List.getElem_mem h, ?_⟩
  unfold rx roleT
  split <;> simp [h, baList]
theorem sep_cons {b : UInt8} {r : List UInt8} (h : isW b = false) : Sep (b :: r) := fun x r' e => by cases e; exact h
theorem rx_split {rs : List ByteArray} (hr : Nm rs) {n m : Int} (h0 : 0 ≤ n) (h1 : n < 2 * rs.length) (h2 : 0 ≤ m) (h3 : m < 2 * rs.length) {s t : List UInt8} (h : rx rs n ++ (32 :: s) = rx rs m ++ (32 :: t)) : n = m ∧ s = t := by
  obtain ⟨a1, a2, a3⟩ := rx_parts h0 h1
  obtain ⟨b1, b2, b3⟩ := rx_parts h2 h3
  rw [a3, b3, List.append_assoc, List.append_assoc] at h
  have s1 : Sep ((if n.toNat % 2 = 1 then [45] else []) ++ (32 :: s)) := by split <;> exact sep_cons (by decide)
  have s2 : Sep ((if m.toNat % 2 = 1 then [45] else []) ++ (32 :: t)) := by split <;> exact sep_cons (by decide)
  obtain ⟨e1, e2⟩ := wsplit (hr.word _ a2) (hr.word _ b2) s1 s2 h
  have e3 := hr.inj _ _ a1 b1 (by apply ByteArray.ext; apply Array.ext'; exact e1)
  by_cases p : n.toNat % 2 = 1 <;> by_cases q : m.toNat % 2 = 1 <;> simp [p, q] at e2 <;> exact ⟨by omega, e2⟩
def midW (op : Int) : List UInt8 := if op = 4 then [97, 110, 100] else [111, 114]
def quW (op : Int) : List UInt8 := if op = 6 then wSome else wAll
/-- How a concept's text begins, and what follows. -/
def Kind (cs rs : List ByteArray) (c : Con) (s hd tl : List UInt8) : Prop :=
  (∃ n, c = ⟨0, n, []⟩ ∧ hd = nx cs n ∧ tl = s ∧ 0 ≤ n ∧ n < cs.length) ∨ (c = ⟨1, 0, []⟩ ∧ hd = wTop ∧ tl = s) ∨ (c = ⟨2, 0, []⟩ ∧ hd = wBot ∧ tl = s) ∨
  (∃ a, c = ⟨3, 0, [a]⟩ ∧ hd = wNot ∧ tl = 32 :: (tx cs rs a ++ s) ∧ fitC cs.length rs.length a = true) ∨
  (∃ op a b, (op = 4 ∨ op = 5) ∧ c = ⟨op, 0, [a, b]⟩ ∧ hd = [] ∧ tl = 40 :: (tx cs rs a ++ (32 :: (midW op ++ (32 :: (tx cs rs b ++ (41 :: s)))))) ∧ fitC cs.length rs.length a = true ∧ fitC cs.length rs.length b = true) ∨
  (∃ op n a, (op = 6 ∨ op = 7) ∧ c = ⟨op, n, [a]⟩ ∧ hd = quW op ∧ tl = 32 :: (rx rs n ++ (32 :: (tx cs rs a ++ s))) ∧ 0 ≤ n ∧ n < 2 * rs.length ∧ fitC cs.length rs.length a = true)
theorem wordsW : (∀ x ∈ wTop, isW x = true) ∧ (∀ x ∈ wBot, isW x = true) ∧ (∀ x ∈ wNot, isW x = true) ∧ (∀ x ∈ wSome, isW x = true) ∧ (∀ x ∈ wAll, isW x = true) := by decide
theorem kindOf {cs rs : List ByteArray} (hc : Nm cs) {c : Con} (hf : fitC cs.length rs.length c = true) {s : List UInt8} (hs : Sep s) : ∃ hd tl, tx cs rs c ++ s = hd ++ tl ∧ (∀ x ∈ hd, isW x = true) ∧ Sep tl ∧ Kind cs rs c s hd tl := by
  obtain ⟨op, n, args⟩ := c
  simp only [fitC, Bool.and_eq_true, decide_eq_true_eq] at hf
  obtain ⟨⟨⟨hop, har⟩, hn⟩, hl⟩ := hf
  have hcase : op = 0 ∨ op = 1 ∨ op = 2 ∨ op = 3 ∨ (op = 4 ∨ op = 5) ∨ (op = 6 ∨ op = 7) := by omega
  rcases hcase with rfl | rfl | rfl | rfl | h45 | h67
  · have ha : args = [] := List.eq_nil_of_length_eq_zero (by have : arityZ 0 = 0 := rfl; omega)
    subst ha
    simp only [nodeOk, if_true, decide_eq_true_eq] at hn
    obtain ⟨a1, a2, a3⟩ := nx_mem hn.1 hn.2
    exact ⟨nx cs n, s, by rw [tx0], by rw [a2]; exact hc.word _ a3, hs, .inl ⟨n, rfl, rfl, rfl, hn.1, hn.2⟩⟩
  · have ha : args = [] := List.eq_nil_of_length_eq_zero (by have : arityZ 1 = 0 := rfl; omega)
    subst ha
    obtain rfl : n = 0 := by simpa [nodeOk] using hn
    exact ⟨wTop, s, by rw [tx1], wordsW.1, hs, .inr (.inl ⟨rfl, rfl, rfl⟩)⟩
  · have ha : args = [] := List.eq_nil_of_length_eq_zero (by have : arityZ 2 = 0 := rfl; omega)
    subst ha
    obtain rfl : n = 0 := by simpa [nodeOk] using hn
    exact ⟨wBot, s, by rw [tx2], wordsW.2.1, hs, .inr (.inr (.inl ⟨rfl, rfl, rfl⟩))⟩
  · obtain ⟨a, rfl⟩ : ∃ a, args = [a] := List.length_eq_one_iff.1 (by have : arityZ 3 = 1 := rfl; omega)
    obtain rfl : n = 0 := by simpa [nodeOk] using hn
    simp only [fitL, Bool.and_true] at hl
    exact ⟨wNot, 32 :: (tx cs rs a ++ s), by rw [tx3]; simp, wordsW.2.2.1, sep_cons (by decide), .inr (.inr (.inr (.inl ⟨a, rfl, rfl, rfl, hl⟩)))⟩
  · have h2 : args.length = 2 := by rcases h45 with rfl | rfl <;> (have h4 : arityZ 4 = 2 := rfl; have h5 : arityZ 5 = 2 := rfl; omega)
    obtain ⟨a, b, rfl⟩ : ∃ a b, args = [a, b] := by
      rcases args with _ | ⟨a, _ | ⟨b, _ | _⟩⟩ <;> simp at h2
      exact ⟨a, b, rfl⟩
    obtain rfl : n = 0 := by rcases h45 with rfl | rfl <;> simpa [nodeOk] using hn
    simp only [fitL, Bool.and_true, Bool.and_eq_true] at hl
    refine ⟨[], _, ?_, by simp, sep_cons (by decide), .inr (.inr (.inr (.inr (.inl ⟨op, a, b, h45, rfl, rfl, rfl, hl.1, hl.2⟩))))⟩
    rcases h45 with rfl | rfl
    · rw [tx4]; simp [midW]
    · rw [tx5]; simp [midW]
  · obtain ⟨a, rfl⟩ : ∃ a, args = [a] := List.length_eq_one_iff.1 (by rcases h67 with rfl | rfl <;> (have h4 : arityZ 6 = 1 := rfl; have h5 : arityZ 7 = 1 := rfl; omega))
    have hr : 0 ≤ n ∧ n < 2 * (rs.length : Int) := by rcases h67 with rfl | rfl <;> simpa [nodeOk] using hn
    simp only [fitL, Bool.and_true] at hl
    refine ⟨quW op, _, ?_, ?_, sep_cons (by decide), .inr (.inr (.inr (.inr (.inr ⟨op, n, a, h67, rfl, rfl, rfl, hr.1, hr.2, hl⟩))))⟩
    · rcases h67 with rfl | rfl
      · rw [tx6]; simp [quW]
      · rw [tx7]; simp [quW]
    · rcases h67 with rfl | rfl
      · exact wordsW.2.2.2.1
      · exact wordsW.2.2.2.2
theorem nx_ne {cs : List ByteArray} (hc : Nm cs) {n : Int} (h0 : 0 ≤ n) (h1 : n < cs.length) : nx cs n ≠ [] ∧ nx cs n ≠ wTop ∧ nx cs n ≠ wBot ∧ nx cs n ≠ wNot ∧ nx cs n ≠ wSome ∧ nx cs n ≠ wAll := by
  obtain ⟨a1, a2, a3⟩ := nx_mem h0 h1
  rw [a2]; exact hc.ne _ a3
theorem nx_qu {cs : List ByteArray} (hc : Nm cs) {n op : Int} (h0 : 0 ≤ n) (h1 : n < cs.length) : nx cs n ≠ quW op := by
  have h := nx_ne hc h0 h1
  unfold quW; split
  · exact h.2.2.2.2.1
  · exact h.2.2.2.2.2
theorem qu_ne (op : Int) : quW op ≠ [] ∧ quW op ≠ wTop ∧ quW op ≠ wBot ∧ quW op ≠ wNot := by
  unfold quW; split <;> decide
theorem tx_inj {cs rs : List ByteArray} (hc : Nm cs) (hr : Nm rs) (N : Nat) : ∀ (c d : Con) (s t : List UInt8), c.size < N → fitC cs.length rs.length c = true → fitC cs.length rs.length d = true → Sep s → Sep t → tx cs rs c ++ s = tx cs rs d ++ t → c = d ∧ s = t := by
  induction N with
  | zero => intro c d s t h; exact absurd h (Nat.not_lt_zero _)
  | succ N ih =>
  intro c d s t hN hf hg hs ht h
  obtain ⟨h1, t1, e1, w1, p1, k1⟩ := kindOf (rs := rs) hc hf hs
  obtain ⟨h2, t2, e2, w2, p2, k2⟩ := kindOf (rs := rs) hc hg ht
  rw [e1, e2] at h
  obtain ⟨rfl, rfl⟩ := wsplit w1 w2 p1 p2 h
  rcases k1 with ⟨n, rfl, q1, r1, a0, a1⟩ | ⟨rfl, q1, r1⟩ | ⟨rfl, q1, r1⟩ | ⟨a, rfl, q1, r1, f1⟩ | ⟨op, a, b, o1, rfl, q1, r1, f1, f2⟩ | ⟨op, n, a, o1, rfl, q1, r1, a0, a1, f1⟩
  · have hne := nx_ne hc a0 a1
    rcases k2 with ⟨m, rfl, q2, r2, b0, b1⟩ | ⟨rfl, q2, r2⟩ | ⟨rfl, q2, r2⟩ | ⟨a', rfl, q2, r2, g1⟩ | ⟨op', a', b', o2, rfl, q2, r2, g1, g2⟩ | ⟨op', m, a', o2, rfl, q2, r2, b0, b1, g1⟩
    · have := nx_inj hc a0 a1 b0 b1 (q1.symm.trans q2)
      subst this
      exact ⟨rfl, r1.symm.trans r2⟩
    · exact absurd (q1.symm.trans q2) hne.2.1
    · exact absurd (q1.symm.trans q2) hne.2.2.1
    · exact absurd (q1.symm.trans q2) hne.2.2.2.1
    · exact absurd (q1.symm.trans q2) hne.1
    · exact absurd (q1.symm.trans q2) (nx_qu hc a0 a1)
  · rcases k2 with ⟨m, rfl, q2, r2, b0, b1⟩ | ⟨rfl, q2, r2⟩ | ⟨rfl, q2, r2⟩ | ⟨a', rfl, q2, r2, g1⟩ | ⟨op', a', b', o2, rfl, q2, r2, g1, g2⟩ | ⟨op', m, a', o2, rfl, q2, r2, b0, b1, g1⟩
    · exact absurd (q2.symm.trans q1) (nx_ne hc b0 b1).2.1
    · exact ⟨rfl, r1.symm.trans r2⟩
    · exact absurd (q1.symm.trans q2) (by decide)
    · exact absurd (q1.symm.trans q2) (by decide)
    · exact absurd (q1.symm.trans q2) (by decide)
    · exact absurd (q2.symm.trans q1) (qu_ne _).2.1
  · rcases k2 with ⟨m, rfl, q2, r2, b0, b1⟩ | ⟨rfl, q2, r2⟩ | ⟨rfl, q2, r2⟩ | ⟨a', rfl, q2, r2, g1⟩ | ⟨op', a', b', o2, rfl, q2, r2, g1, g2⟩ | ⟨op', m, a', o2, rfl, q2, r2, b0, b1, g1⟩
    · exact absurd (q2.symm.trans q1) (nx_ne hc b0 b1).2.2.1
    · exact absurd (q1.symm.trans q2) (by decide)
    · exact ⟨rfl, r1.symm.trans r2⟩
    · exact absurd (q1.symm.trans q2) (by decide)
    · exact absurd (q1.symm.trans q2) (by decide)
    · exact absurd (q2.symm.trans q1) (qu_ne _).2.2.1
  · rcases k2 with ⟨m, rfl, q2, r2, b0, b1⟩ | ⟨rfl, q2, r2⟩ | ⟨rfl, q2, r2⟩ | ⟨a', rfl, q2, r2, g1⟩ | ⟨op', a', b', o2, rfl, q2, r2, g1, g2⟩ | ⟨op', m, a', o2, rfl, q2, r2, b0, b1, g1⟩
    · exact absurd (q2.symm.trans q1) (nx_ne hc b0 b1).2.2.2.1
    · exact absurd (q1.symm.trans q2) (by decide)
    · exact absurd (q1.symm.trans q2) (by decide)
    · rw [r1] at r2
      simp only [List.cons.injEq, true_and] at r2
      simp only [Con.size, Con.sizes] at hN
      obtain ⟨rfl, e⟩ := ih a a' s t (by omega) f1 g1 hs ht r2
      exact ⟨rfl, e⟩
    · exact absurd (q1.symm.trans q2) (by decide)
    · exact absurd (q2.symm.trans q1) (qu_ne _).2.2.2
  · rcases k2 with ⟨m, rfl, q2, r2, b0, b1⟩ | ⟨rfl, q2, r2⟩ | ⟨rfl, q2, r2⟩ | ⟨a', rfl, q2, r2, g1⟩ | ⟨op', a', b', o2, rfl, q2, r2, g1, g2⟩ | ⟨op', m, a', o2, rfl, q2, r2, b0, b1, g1⟩
    · exact absurd (q2.symm.trans q1) (nx_ne hc b0 b1).1
    · exact absurd (q1.symm.trans q2) (by decide)
    · exact absurd (q1.symm.trans q2) (by decide)
    · exact absurd (q1.symm.trans q2) (by decide)
    · rw [r1] at r2
      simp only [List.cons.injEq, true_and] at r2
      simp only [Con.size, Con.sizes] at hN
      obtain ⟨rfl, z⟩ := ih a a' _ _ (by omega) f1 g1 (sep_cons (by decide)) (sep_cons (by decide)) r2
      have e := (List.cons.inj z).2
      have hop : op = op' := by
        rcases o1 with rfl | rfl <;> rcases o2 with rfl | rfl <;> first | rfl | (exfalso; simp [midW] at e)
      subst hop
      have e' := (List.cons.inj (List.append_cancel_left e)).2
      obtain ⟨rfl, z2⟩ := ih b b' _ _ (by omega) f2 g2 (sep_cons (by decide)) (sep_cons (by decide)) e'
      exact ⟨rfl, (List.cons.inj z2).2⟩
    · exact absurd (q2.symm.trans q1) (qu_ne _).1
  · rcases k2 with ⟨m, rfl, q2, r2, b0, b1⟩ | ⟨rfl, q2, r2⟩ | ⟨rfl, q2, r2⟩ | ⟨a', rfl, q2, r2, g1⟩ | ⟨op', a', b', o2, rfl, q2, r2, g1, g2⟩ | ⟨op', m, a', o2, rfl, q2, r2, b0, b1, g1⟩
    · exact absurd (q2.symm.trans q1) (nx_qu hc b0 b1)
    · exact absurd (q1.symm.trans q2) (qu_ne _).2.1
    · exact absurd (q1.symm.trans q2) (qu_ne _).2.2.1
    · exact absurd (q1.symm.trans q2) (qu_ne _).2.2.2
    · exact absurd (q1.symm.trans q2) (qu_ne _).1
    · rw [r1] at r2
      simp only [List.cons.injEq, true_and] at r2
      simp only [Con.size, Con.sizes] at hN
      obtain ⟨rfl, e⟩ := rx_split hr a0 a1 b0 b1 r2
      obtain ⟨rfl, z2⟩ := ih a a' s t (by omega) f1 g1 hs ht e
      have hop : op = op' := by
        have hq := q1.symm.trans q2
        rcases o1 with rfl | rfl <;> rcases o2 with rfl | rfl <;> first | rfl | exact absurd hq (by decide)
      subst hop
      exact ⟨rfl, z2⟩
theorem text_inj {cs rs : List ByteArray} (hc : Nm cs) (hr : Nm rs) {c d : Con} (hf : fitC cs.length rs.length c = true) (hg : fitC cs.length rs.length d = true) (h : textC cs rs c = textC cs rs d) : c = d :=
  (tx_inj hc hr (c.size + 1) c d [] [] (by omega) hf hg (fun _ _ h => by cases h) (fun _ _ h => by cases h) (by simp [tx, h])).1
end Go.Proofs.YtoafelppnagpbaaGreatDoor
/- Pure: the reference's marks are the program's. -/
namespace Go.Proofs.YtoafelppnagpbaaGreatDoor
open Go.RowKit
set_option linter.unusedVariables false
set_option linter.unusedSimpArgs false
mutual
theorem sameC_eq : ∀ {c d : Con}, sameC c d = true → c = d
  | ⟨o1, n1, a1⟩, ⟨o2, n2, a2⟩, h => by
    simp only [sameC, Bool.and_eq_true, decide_eq_true_eq] at h
    obtain ⟨rfl, rfl, hl, h⟩ := h
    rw [sameL_eq hl h]
theorem sameL_eq : ∀ {l m : List Con}, l.length = m.length → sameL l m = true → l = m
  | [], [], _, _ => rfl
  | c :: r, d :: s, hl, h => by
    simp only [sameL, Bool.and_eq_true] at h
    rw [sameC_eq h.1, sameL_eq (by simpa using hl) h.2]
end
mutual
theorem sameC_self : ∀ c : Con, sameC c c = true
  | ⟨op, n, args⟩ => by simp only [sameC, decide_true, Bool.true_and]; exact sameL_self args
theorem sameL_self : ∀ l : List Con, sameL l l = true
  | [] => by simp only [sameL]
  | c :: r => by simp only [sameL, sameC_self c, sameL_self r, Bool.and_self]
end
theorem placeK_neg (c : Con) : ∀ (l : List Con) (k : Nat), (placeK c l k < 0 ↔ c ∉ l)
  | [], k => by simp [placeK]
  | d :: r, k => by
    unfold placeK
    split
    · rename_i h
      have := sameC_eq h
      subst this
      simp
    · rename_i h
      rw [placeK_neg c r (k + 1)]
      have hne : c ≠ d := fun e => h (by rw [e]; exact sameC_self d)
      simp [hne]
theorem placeZ_neg (l : List Con) (c : Con) : placeZ l c < 0 ↔ c ∉ l := placeK_neg c l 0
def FitAll (nc nr : Nat) (l : List Con) : Prop := ∀ c ∈ l, fitC nc nr c = true
section
variable {cs rs : List ByteArray}
theorem seen_iff (ms : List Con) (t : ByteArray) : seenP (plOf cs rs ms) t = true ↔ ∃ d ∈ ms, textC cs rs d = t := by
  have hfst : (plOf cs rs ms).map (·.1) = ms.map (textC cs rs) := by
    have h : ms.zipIdx.map Prod.fst = ms := by simp
    have h2 : ms.map (textC cs rs) = (ms.zipIdx.map Prod.fst).map (textC cs rs) := by rw [h]
    rw [h2]
    unfold plOf
    rw [List.map_map, List.map_map]
    rfl
  have h1 : seenP (plOf cs rs ms) t = true ↔ t ∈ (plOf cs rs ms).map (·.1) := by
    unfold seenP findL
    rw [Option.isSome_map, List.find?_isSome]
    simp only [decide_eq_true_eq, List.mem_map]
  rw [h1, hfst, List.mem_map]
theorem putM_add (hc : Nm cs) (hr : Nm rs) {ms : List Con} {q : Con} (hm : FitAll cs.length rs.length ms) (hq : fitC cs.length rs.length q = true) : putM cs rs ms q = if placeZ ms q < 0 then ms ++ [q] else ms := by
  unfold putM
  by_cases h : q ∈ ms
  · rw [if_pos ((seen_iff ms _).2 ⟨q, h, rfl⟩), if_neg (by rw [placeZ_neg]; simpa using h)]
  · rw [if_neg (fun hs => by
      obtain ⟨d, hd, e⟩ := (seen_iff ms _).1 hs
      exact h (text_inj hc hr (hm d hd) hq e ▸ hd)), if_pos ((placeZ_neg ms q).2 h)]
theorem quantM_add (hc : Nm cs) (hr : Nm rs) {ms : List Con} {d : Con} (hm : FitAll cs.length rs.length ms) (hd : fitC cs.length rs.length d = true) : quantM cs rs ms d = addMark d ms ∧ FitAll cs.length rs.length (addMark d ms) := by
  unfold quantM addMark
  by_cases h : d.op = 6 ∨ d.op = 7
  · have hq := fit_quant hd h
    rw [if_pos h, putM_add hc hr hm hq]
    by_cases hp : placeZ ms (quantC d) < 0
    · rw [if_pos hp, if_pos ⟨h, hp⟩]
      exact ⟨rfl, fun c hcm => by rcases List.mem_append.1 hcm with h | h; exact hm c h; rw [List.mem_singleton.1 h]; exact hq⟩
    · rw [if_neg hp, if_neg (fun h2 => hp h2.2)]; exact ⟨rfl, hm⟩
  · rw [if_neg h, if_neg (fun h2 => h h2.1)]; exact ⟨rfl, hm⟩
mutual
theorem coll_fold (hc : Nm cs) (hr : Nm rs) : ∀ (c : Con) (ms : List Con), fitC cs.length rs.length c = true → FitAll cs.length rs.length ms → (preC c).foldl (quantM cs rs) ms = collectC c ms ∧ FitAll cs.length rs.length (collectC c ms)
  | ⟨op, n, args⟩, ms, hf, hm => by
    obtain ⟨e, hm2⟩ := quantM_add hc hr hm hf
    obtain ⟨_, _, _, hl⟩ := fit_parts hf
    simp only [preC, List.foldl_cons, collectC, e]
    exact coll_foldL hc hr args _ hl hm2
theorem coll_foldL (hc : Nm cs) (hr : Nm rs) : ∀ (l ms : List Con), fitL cs.length rs.length l = true → FitAll cs.length rs.length ms → (preL l).foldl (quantM cs rs) ms = collectL l ms ∧ FitAll cs.length rs.length (collectL l ms)
  | [], ms, _, hm => by simp only [preL, List.foldl_nil, collectL]; exact ⟨trivial, hm⟩
  | c :: r, ms, hf, hm => by
    simp only [fitL, Bool.and_eq_true] at hf
    obtain ⟨e1, h1⟩ := coll_fold hc hr c ms hf.1 hm
    simp only [preL, List.foldl_append, collectL, e1]
    exact coll_foldL hc hr r _ hf.2 h1
end
theorem marksL_eq (hc : Nm cs) (hr : Nm rs) : ∀ (l ms : List Con), FitAll cs.length rs.length l → FitAll cs.length rs.length ms → l.foldl (fun ms c => (preC c).foldl (quantM cs rs) ms) ms = collectL l ms ∧ FitAll cs.length rs.length (collectL l ms)
  | [], ms, _, hm => by simp only [List.foldl_nil, collectL]; exact ⟨trivial, hm⟩
  | c :: r, ms, hf, hm => by
    obtain ⟨e1, h1⟩ := coll_fold hc hr c ms (hf c (by simp)) hm
    simp only [List.foldl_cons, collectL, e1]
    exact marksL_eq hc hr r _ (fun c hcm => hf c (by simp [hcm])) h1
theorem collectL_append (l m acc : List Con) : collectL (l ++ m) acc = collectL m (collectL l acc) := by
  induction l generalizing acc with
  | nil => simp only [List.nil_append, collectL]
  | cons c r ih => simp only [List.cons_append, collectL, ih]
end
end Go.Proofs.YtoafelppnagpbaaGreatDoor
/- Pure: the names that the reference's Uses gathers are the program's sorted names. -/
namespace Go.Proofs.YtoafelppnagpbaaGreatDoor
open Go.RowKit
set_option linter.unusedVariables false
set_option linter.unusedSimpArgs false
/-- The name x occurs in c. -/
def Occ (x : Int) (c : Con) : Prop := ∃ d ∈ preC c, d.op = 0 ∧ d.n = x
def OccL (x : Int) (l : List Con) : Prop := ∃ c ∈ l, Occ x c
theorem occ_mk (x op n : Int) (args : List Con) : Occ x ⟨op, n, args⟩ ↔ (op = 0 ∧ n = x) ∨ OccL x args := by
  have hp : ∀ l : List Con, (∃ d ∈ preL l, d.op = 0 ∧ d.n = x) ↔ OccL x l := by
    intro l
    induction l with
    | nil => simp [preL, OccL]
    | cons c r ih =>
      simp only [preL, List.mem_append, OccL, Occ, List.mem_cons] at ih ⊢
      constructor
      · rintro ⟨d, h | h, hd⟩
        · exact ⟨c, .inl rfl, d, h, hd⟩
        · obtain ⟨e, he, h2⟩ := ih.1 ⟨d, h, hd⟩; exact ⟨e, .inr he, h2⟩
      · rintro ⟨e, rfl | he, d, hd, h2⟩
        · exact ⟨d, .inl hd, h2⟩
        · obtain ⟨d', h', h3⟩ := ih.2 ⟨e, he, d, hd, h2⟩; exact ⟨d', .inr h', h3⟩
  rw [← hp]
  simp only [Occ, preC, List.mem_cons]
  constructor
  · rintro ⟨d, rfl | h, hd⟩
    · exact .inl hd
    · exact .inr ⟨d, h, hd⟩
  · rintro (h | ⟨d, h, hd⟩)
    · exact ⟨_, .inl rfl, h⟩
    · exact ⟨d, .inr h, hd⟩
theorem mem_insZ (n x : Int) : ∀ l : List Int, x ∈ insZ n l ↔ x = n ∨ x ∈ l
  | [] => by simp [insZ]
  | y :: r => by
    unfold insZ
    split
    · rename_i h; subst h; simp
    · split
      · simp
      · simp only [List.mem_cons, mem_insZ n x r]
        constructor
        · rintro (h | h | h); exact .inr (.inl h); exact .inl h; exact .inr (.inr h)
        · rintro (h | h | h); exact .inr (.inl h); exact .inl h; exact .inr (.inr h)
theorem sorted_insZ (n : Int) : ∀ l : List Int, l.Pairwise (· < ·) → (insZ n l).Pairwise (· < ·)
  | [], _ => by simp [insZ]
  | y :: r, h => by
    have h' := h
    rw [List.pairwise_cons] at h'
    unfold insZ
    split
    · exact h
    · split
      · rename_i h1 h2
        rw [List.pairwise_cons]
        refine ⟨fun z hz => ?_, h⟩
        rcases List.mem_cons.1 hz with rfl | hz
        · omega
        · have := h'.1 z hz; omega
      · rename_i h1 h2
        rw [List.pairwise_cons]
        refine ⟨fun z hz => ?_, sorted_insZ n r h'.2⟩
        rcases (mem_insZ n z r).1 hz with rfl | hz
        · omega
        · exact h'.1 z hz
theorem useN_facts (c : Con) (l : List Int) (h : l.Pairwise (· < ·)) : (useN c l).Pairwise (· < ·) ∧ ∀ x, x ∈ useN c l ↔ x ∈ l ∨ (c.op = 0 ∧ c.n = x) := by
  unfold useN
  split
  · rename_i h0
    refine ⟨sorted_insZ _ _ h, fun x => ?_⟩
    rw [mem_insZ]
    constructor
    · rintro (h | h); exact .inr ⟨h0, h.symm⟩; exact .inl h
    · rintro (h | h); exact .inr h; exact .inl h.2.symm
  · rename_i h0
    exact ⟨h, fun x => ⟨.inl, fun hx => hx.elim id (fun h => absurd h.1 h0)⟩⟩
mutual
theorem usesC_facts : ∀ (c : Con) (p : List Int × List Int), p.1.Pairwise (· < ·) → (usesC c p).1.Pairwise (· < ·) ∧ ∀ x, x ∈ (usesC c p).1 ↔ x ∈ p.1 ∨ Occ x c
  | ⟨op, n, args⟩, p, h => by
    obtain ⟨h1, h2⟩ := useN_facts ⟨op, n, args⟩ p.1 h
    obtain ⟨h3, h4⟩ := usesL_facts args (useN ⟨op, n, args⟩ p.1, useR ⟨op, n, args⟩ p.2) h1
    simp only [usesC]
    refine ⟨h3, fun x => ?_⟩
    rw [h4, h2, occ_mk, or_assoc]
    rfl
theorem usesL_facts : ∀ (l : List Con) (p : List Int × List Int), p.1.Pairwise (· < ·) → (usesL l p).1.Pairwise (· < ·) ∧ ∀ x, x ∈ (usesL l p).1 ↔ x ∈ p.1 ∨ OccL x l
  | [], p, h => by simp only [usesL]; exact ⟨h, fun x => by simp [OccL]⟩
  | c :: r, p, h => by
    obtain ⟨h1, h2⟩ := usesC_facts c p h
    obtain ⟨h3, h4⟩ := usesL_facts r (usesC c p) h1
    simp only [usesL]
    refine ⟨h3, fun x => ?_⟩
    rw [h4, h2]
    simp only [OccL, List.mem_cons, exists_eq_or_imp, or_assoc]
end
theorem usedF_facts : ∀ (l : List Con) (acc : List Int), acc.Pairwise (· < ·) → (usedF l acc).Pairwise (· < ·) ∧ ∀ x, x ∈ usedF l acc ↔ x ∈ acc ∨ OccL x l
  | [], acc, h => ⟨h, fun x => by simp [usedF, OccL]⟩
  | c :: r, acc, h => by
    obtain ⟨h1, h2⟩ := usesC_facts c (acc, []) h
    obtain ⟨h3, h4⟩ := usedF_facts r (usesC c (acc, [])).1 h1
    refine ⟨h3, fun x => ?_⟩
    rw [show usedF (c :: r) acc = usedF r (usesC c (acc, [])).1 from rfl, h4, h2]
    simp only [OccL, List.mem_cons, exists_eq_or_imp, or_assoc]
mutual
theorem occ_nnf {nc nr : Nat} (x : Int) : ∀ (c : Con) (neg : Bool), fitC nc nr c = true → (Occ x (nnfC c neg) ↔ Occ x c)
  | ⟨op, n, args⟩, neg, hf => by
    obtain ⟨hop, har, hn, hl⟩ := fit_parts hf
    unfold nnfC
    by_cases h0 : op = 0
    · subst h0
      rw [if_pos rfl]
      have : args = [] := List.eq_nil_of_length_eq_zero (by have : arityZ 0 = 0 := rfl; omega)
      subst this
      cases neg <;> simp [occ_mk, OccL]
    · rw [if_neg h0]
      by_cases h3 : op = 3
      · rw [if_pos h3]
        subst h3
        obtain ⟨a, rfl⟩ : ∃ a, args = [a] := List.length_eq_one_iff.1 (by have : arityZ 3 = 1 := rfl; omega)
        simp only [fitL, Bool.and_true] at hl
        simp only [nnfH]
        rw [occ_nnf x a (!neg) hl, occ_mk]
        simp [OccL]
      · rw [if_neg h3, occ_mk, occ_mk]
        have hd : ¬ (if neg then dualZ op else op) = 0 := by
          have : op = 1 ∨ op = 2 ∨ op = 4 ∨ op = 5 ∨ op = 6 ∨ op = 7 := by omega
          cases neg <;> rcases this with rfl | rfl | rfl | rfl | rfl | rfl <;> decide
        simp only [hd, h0, false_and, false_or]
        exact occL_nnf x args neg hl
theorem occL_nnf {nc nr : Nat} (x : Int) : ∀ (l : List Con) (neg : Bool), fitL nc nr l = true → (OccL x (nnfL l neg) ↔ OccL x l)
  | [], neg, _ => by simp [nnfL, OccL]
  | c :: r, neg, hf => by
    simp only [fitL, Bool.and_eq_true] at hf
    have h1 := occ_nnf x c neg hf.1
    have h2 := occL_nnf x r neg hf.2
    simp only [nnfL, OccL, List.mem_cons, exists_eq_or_imp] at h2 ⊢
    rw [h1, h2]
end
end Go.Proofs.YtoafelppnagpbaaGreatDoor
/- Pure: refMarks = marksC. -/
namespace Go.Proofs.YtoafelppnagpbaaGreatDoor
open Go.RowKit
set_option linter.unusedVariables false
set_option linter.unusedSimpArgs false
theorem putL_keys {ν : Type} (k : Int) (v : ν) : ∀ l : List (Int × ν), (l.map (·.1)).Nodup → ((putL l k v).map (·.1)).Nodup ∧ ∀ x, x ∈ (putL l k v).map (·.1) ↔ x = k ∨ x ∈ l.map (·.1)
  | [], _ => by simp [putL]
  | p :: r, h => by
    have h' := h
    rw [List.map_cons, List.nodup_cons] at h'
    unfold putL
    split
    · rename_i e
      refine ⟨?_, fun x => ?_⟩
      · rw [List.map_cons, List.nodup_cons]; exact ⟨by rw [← e]; exact h'.1, h'.2⟩
      · simp only [List.map_cons, List.mem_cons, e]
        constructor
        · rintro (h | h); exact .inl h; exact .inr (.inr h)
        · rintro (h | h | h); exact .inl h; exact .inl h; exact .inr h
    · rename_i e
      obtain ⟨h1, h2⟩ := putL_keys k v r h'.2
      refine ⟨?_, fun x => ?_⟩
      · rw [List.map_cons, List.nodup_cons]
        exact ⟨fun hm => by rcases (h2 _).1 hm with h | h; exact e h; exact h'.1 h, h1⟩
      · simp only [List.map_cons, List.mem_cons] at h2 ⊢
        rw [h2]
        constructor
        · rintro (h | h | h); exact .inr (.inl h); exact .inl h; exact .inr (.inr h)
        · rintro (h | h | h); exact .inr (.inl h); exact .inl h; exact .inr (.inr h)
theorem markN_keys : ∀ (cs : List Con) (l : List (Int × Bool)), (l.map (·.1)).Nodup → ((markN l cs).map (·.1)).Nodup ∧ ∀ x, x ∈ (markN l cs).map (·.1) ↔ x ∈ l.map (·.1) ∨ ∃ d ∈ cs, d.op = 0 ∧ d.n = x
  | [], l, h => ⟨h, fun x => by simp [markN]⟩
  | c :: r, l, h => by
    by_cases h0 : c.op = 0
    · obtain ⟨h1, h2⟩ := putL_keys c.n true l h
      obtain ⟨h3, h4⟩ := markN_keys r (putL l c.n true) h1
      have e : markN l (c :: r) = markN (putL l c.n true) r := by simp [markN, h0]
      rw [e]
      refine ⟨h3, fun x => ?_⟩
      rw [h4, h2]
      simp only [List.mem_cons, exists_eq_or_imp, h0, true_and]
      constructor
      · rintro ((h | h) | h); exact .inr (.inl h.symm); exact .inl h; exact .inr (.inr h)
      · rintro (h | h | h); exact .inl (.inr h); exact .inl (.inl h.symm); exact .inr h
    · obtain ⟨h3, h4⟩ := markN_keys r l h
      have e : markN l (c :: r) = markN l r := by simp [markN, h0]
      rw [e]
      refine ⟨h3, fun x => ?_⟩
      rw [h4]
      simp only [List.mem_cons, exists_eq_or_imp, h0, false_and, false_or]
theorem namesK : ∀ (cs : List Con) (l : List (Int × Bool)), (l.map (·.1)).Nodup → ((cs.foldl (fun m c => markN m (preC c)) l).map (·.1)).Nodup ∧ ∀ x, x ∈ (cs.foldl (fun m c => markN m (preC c)) l).map (·.1) ↔ x ∈ l.map (·.1) ∨ OccL x cs
  | [], l, h => ⟨h, fun x => by simp [OccL]⟩
  | c :: r, l, h => by
    obtain ⟨h1, h2⟩ := markN_keys (preC c) l h
    obtain ⟨h3, h4⟩ := namesK r (markN l (preC c)) h1
    refine ⟨h3, fun x => ?_⟩
    rw [List.foldl_cons, h4, h2]
    simp only [OccL, Occ, List.mem_cons, exists_eq_or_imp, or_assoc]
theorem occ_app (x : Int) (l m : List Con) : OccL x (l ++ m) ↔ OccL x l ∨ OccL x m := by
  simp only [OccL, List.mem_append]
  constructor
  · rintro ⟨c, h | h, hc⟩; exact .inl ⟨c, h, hc⟩; exact .inr ⟨c, h, hc⟩
  · rintro (⟨c, h, hc⟩ | ⟨c, h, hc⟩); exact ⟨c, .inl h, hc⟩; exact ⟨c, .inr h, hc⟩
mutual
theorem occ_range {nc nr : Nat} (x : Int) : ∀ c : Con, fitC nc nr c = true → Occ x c → 0 ≤ x ∧ x < nc
  | ⟨op, n, args⟩, hf, h => by
    obtain ⟨hop, har, hn, hl⟩ := fit_parts hf
    rcases (occ_mk x op n args).1 h with ⟨rfl, rfl⟩ | h
    · simpa [nodeOk] using hn
    · exact occL_range x args hl h
theorem occL_range {nc nr : Nat} (x : Int) : ∀ l : List Con, fitL nc nr l = true → OccL x l → 0 ≤ x ∧ x < nc
  | [], _, h => by simp [OccL] at h
  | c :: r, hf, h => by
    simp only [fitL, Bool.and_eq_true] at hf
    simp only [OccL, List.mem_cons, exists_eq_or_imp] at h
    rcases h with h | h
    · exact occ_range x c hf.1 h
    · exact occL_range x r hf.2 h
end
theorem sorted_eq {l m : List Int} (h1 : l.Pairwise (· < ·)) (h2 : m.Pairwise (· < ·)) (h : ∀ x, x ∈ l ↔ x ∈ m) : l = m := by
  have n1 : l.Nodup := h1.imp (fun h => by omega)
  have n2 : m.Nodup := h2.imp (fun h => by omega)
  exact List.Perm.eq_of_pairwise (le := (· ≤ ·)) (fun a b _ _ h1 h2 => Int.le_antisymm h1 h2) (h1.imp (fun h => by omega)) (h2.imp (fun h => by omega)) ((List.perm_ext_iff_of_nodup n1 n2).2 h)
theorem sortZ_strict {l : List Int} (h : l.Nodup) : (sortZ l).Pairwise (· < ·) := by
  have h1 := sortZ_sorted l
  have h2 : (sortZ l).Nodup := (List.mergeSort_perm l _).nodup_iff.2 h
  exact (h1.and h2).imp (fun ⟨a, b⟩ => by omega)
theorem names_eq2 {l m : List Con} (h : ∀ x, OccL x l ↔ OccL x m) : sortZ ((namesC l).map (·.1)) = usedF m [] := by
  obtain ⟨h1, h2⟩ := namesK l [] (by simp)
  obtain ⟨h3, h4⟩ := usedF_facts m [] (by simp)
  refine sorted_eq (sortZ_strict h1) h3 (fun x => ?_)
  rw [show x ∈ sortZ ((namesC l).map (·.1)) ↔ x ∈ (namesC l).map (·.1) from (List.mergeSort_perm _ _).mem_iff, h4]
  have := h2 x
  rw [show namesC l = l.foldl (fun m c => markN m (preC c)) [] from rfl, this, h x]
  simp
theorem atoms_eq {cs rs : List ByteArray} (hc : Nm cs) (hr : Nm rs) : ∀ (ns : List Int) (ms : List Con), ns.Nodup → (∀ n ∈ ns, 0 ≤ n ∧ n < cs.length) → (∀ n ∈ ns, (⟨0, n, []⟩ : Con) ∉ ms) → FitAll cs.length rs.length ms → ns.foldl (fun ms n => putM cs rs ms ⟨0, n, []⟩) ms = ms ++ ns.map atomC
  | [], ms, _, _, _, _ => by simp
  | n :: r, ms, hn, hrg, hni, hm => by
    rw [List.nodup_cons] at hn
    have hf : fitC cs.length rs.length ⟨0, n, []⟩ = true := fit_atom (hrg n (by simp)).1 (hrg n (by simp)).2
    have ih := atoms_eq hc hr r (ms ++ [(⟨0, n, []⟩ : Con)]) hn.2 (fun k hk => hrg k (by simp [hk])) (fun k hk => by
      simp only [List.mem_append, List.mem_singleton, not_or]
      refine ⟨hni k (by simp [hk]), fun e => ?_⟩
      simp only [Con.mk.injEq, true_and, and_true] at e
      exact hn.1 (e ▸ hk)) (fun c hcm => by
      rcases List.mem_append.1 hcm with h | h
      · exact hm c h
      · rw [List.mem_singleton.1 h]; exact hf)
    rw [List.foldl_cons, putM_add hc hr hm hf, if_pos ((placeZ_neg _ _).2 (hni n (by simp))), ih]
    simp [atomC]
theorem occ_pairs {nc nr : Nat} (x : Int) : ∀ l : List (Con × Con), (∀ p ∈ l, fitC nc nr p.1 = true ∧ fitC nc nr p.2 = true) → (OccL x (l.map eitherC) ↔ OccL x (pairL l))
  | [], _ => by simp [OccL, pairL]
  | p :: r, hf => by
    have ih := occ_pairs x r (fun q hq => hf q (by simp [hq]))
    have h1 := occ_nnf x p.1 true (hf p (by simp)).1
    have h2 := occ_nnf x p.2 false (hf p (by simp)).2
    rw [show pairL (p :: r) = [p.1, p.2] ++ pairL r from rfl, occ_app, ← ih, show (p :: r).map eitherC = [eitherC p] ++ r.map eitherC from rfl, occ_app]
    have e : OccL x [eitherC p] ↔ OccL x [p.1, p.2] := by
      simp only [OccL, List.mem_singleton, exists_eq_left, List.mem_cons, exists_eq_or_imp, List.not_mem_nil, or_false]
      rw [eitherC, occ_mk]
      simp only [OccL, List.mem_cons, exists_eq_or_imp, List.not_mem_nil, or_false, exists_eq_left, h1, h2]
      simp
    rw [e]
theorem occ_map {α : Type} {nc nr : Nat} (x : Int) (g : α → Con) : ∀ l : List α, (∀ p ∈ l, fitC nc nr (g p) = true) → (OccL x (l.map fun a => nnfC (g a) false) ↔ OccL x (l.map g))
  | [], _ => by simp
  | p :: r, hf => by
    have ih := occ_map x g r (fun q hq => hf q (by simp [hq]))
    have h1 := occ_nnf x (g p) false (hf p (by simp))
    simp only [List.map_cons, OccL, List.mem_cons, exists_eq_or_imp] at ih ⊢
    rw [ih, h1]
theorem fit_either {nc nr : Nat} {p : Con × Con} (h : fitC nc nr p.1 = true ∧ fitC nc nr p.2 = true) : fitC nc nr (eitherC p) = true :=
  fit_mk (by omega) (by show (2 : Int) = arityZ 5; decide) (by simp [nodeOk]) (by simp only [fitL, Bool.and_true, Bool.and_eq_true]; exact ⟨fit_nnf true h.1, fit_nnf false h.2⟩)
theorem fitAll_L {nc nr : Nat} : ∀ l : List Con, FitAll nc nr l → fitL nc nr l = true
  | [], _ => rfl
  | c :: r, h => by simp only [fitL, Bool.and_eq_true]; exact ⟨h c (by simp), fitAll_L r (fun d hd => h d (by simp [hd]))⟩
theorem allC_fit {b : Kb} {more : List Con} (h1 : ∀ x ∈ b.incls, fitC b.cs.length b.rs.length x.1 = true ∧ fitC b.cs.length b.rs.length x.2 = true) (h2 : ∀ x ∈ b.facts, fitC b.cs.length b.rs.length x.2 = true) (h3 : ∀ x ∈ more, fitC b.cs.length b.rs.length x = true) : FitAll b.cs.length b.rs.length (allC b more) := by
  intro c hc
  simp only [allC, List.mem_append, List.mem_map] at hc
  rcases hc with (⟨p, hp, rfl⟩ | ⟨x, hx, rfl⟩) | ⟨d, hd, rfl⟩
  · exact fit_either (h1 p hp)
  · exact fit_nnf false (h2 x hx)
  · exact fit_nnf false (h3 d hd)
theorem marks_ref {b : Kb} {more : List Con} (hc : Nm b.cs) (hr : Nm b.rs) (h1 : ∀ x ∈ b.incls, fitC b.cs.length b.rs.length x.1 = true ∧ fitC b.cs.length b.rs.length x.2 = true) (h2 : ∀ x ∈ b.facts, fitC b.cs.length b.rs.length x.2 = true) (h3 : ∀ x ∈ more, fitC b.cs.length b.rs.length x = true) : marksC b more = refMarks b more ∧ FitAll b.cs.length b.rs.length (marksC b more) := by
  have hall := allC_fit h1 h2 h3
  have hocc : ∀ x, OccL x (allC b more) ↔ OccL x (conceptsC b ++ more) := fun x => by
    have e1 := occ_pairs x b.incls h1
    have e2 := occ_map x (fun a : Int × Con => a.2) b.facts h2
    have e3 := occ_map x (fun a : Con => a) more h3
    rw [List.map_id'] at e3
    unfold allC conceptsC
    rw [occ_app, occ_app, occ_app, occ_app, e1, e2, e3]
  have hnm : nameM b.cs b.rs (allC b more) = (refNames b more).map atomC := by
    unfold nameM refNames
    rw [names_eq2 hocc]
    obtain ⟨p1, p2⟩ := usedF_facts (conceptsC b ++ more) [] (by simp)
    rw [atoms_eq hc hr _ [] (p1.imp (fun h => by omega)) (fun n hn => by
      have := (p2 n).1 hn
      simp only [List.not_mem_nil, false_or] at this
      exact occL_range n _ (fitAll_L _ hall) ((hocc n).2 this)) (fun n _ h => by simp at h) (fun c h => by simp at h), List.nil_append]
  have hfn : FitAll b.cs.length b.rs.length ((refNames b more).map atomC) := by
    intro c hcm
    obtain ⟨n, hn, rfl⟩ := List.mem_map.1 hcm
    obtain ⟨_, p2⟩ := usedF_facts (conceptsC b ++ more) [] (by simp)
    have := (p2 n).1 hn
    simp only [List.not_mem_nil, false_or] at this
    have hrg := occL_range n _ (fitAll_L _ hall) ((hocc n).2 this)
    exact fit_atom hrg.1 hrg.2
  have hml := marksL_eq hc hr _ _ hall hfn
  have e : marksC b more = collectL (allC b more) ((refNames b more).map atomC) := by
    unfold marksC marksL
    rw [hnm, hml.1]
  refine ⟨?_, by rw [e]; exact hml.2⟩
  rw [e]
  unfold allC refMarks
  rw [collectL_append, collectL_append]
  rfl
end Go.Proofs.YtoafelppnagpbaaGreatDoor
/- Pure: valid names are as the injectivity of texts asks. -/
namespace Go.Proofs.YtoafelppnagpbaaGreatDoor
open Go.RowKit
set_option linter.unusedVariables false
set_option linter.unusedSimpArgs false
theorem okAt_within {s : ByteArray} {i : Nat} (h : okAt s i = true) : withinB (bAt s i) = true := by
  unfold okAt at h
  unfold withinB
  simp only [Bool.or_eq_true, Bool.and_eq_true, Bool.not_eq_true', decide_eq_true_eq, digitB, decide_eq_false_iff_not] at h ⊢
  rcases h with h | ⟨_, h | h⟩
  · exact .inl (.inl h)
  · exact .inl (.inr h)
  · exact .inr h
theorem nameR_word {s : ByteArray} (h : nameR s = true) : (∀ x ∈ s.data.toList, isW x = true) ∧ s.data.toList ≠ [] ∧ s.data.toList ∉ reservedS := by
  simp only [nameR, wordR, Bool.and_eq_true, decide_eq_true_eq, Bool.not_eq_true', reservedR, decide_eq_false_iff_not] at h
  obtain ⟨⟨_, hw, hz⟩, hr⟩ := h
  refine ⟨fun x hx => ?_, fun e => hz (by have := congrArg List.length e; simpa using this), by rw [ByteArray.toList_eq] at hr; exact hr⟩
  obtain ⟨i, hi, rfl⟩ := List.getElem_of_mem hx
  have hi' : i < s.size := by simpa using hi
  have hok : okAt s i = true := by
    unfold wordFrom at hw
    exact List.all_eq_true.1 hw i (by rw [List.mem_range']; exact ⟨i, by omega, by omega⟩)
  have := okAt_within hok
  rw [← bAt_eq hi'] at this
  exact this
theorem namesFrom_at {L : List ByteArray} (h : namesFromR L 0 = true) (i : Nat) (hi : i < L.length) : nameR L[i] = true ∧ L[i] ∉ L.take i := by
  unfold namesFromR at h
  have := List.all_eq_true.1 h i (by rw [List.mem_range']; exact ⟨i, by omega, by omega⟩)
  simp only [Bool.and_eq_true, Bool.not_eq_true', decide_eq_false_iff_not] at this
  have e : L.getD i ByteArray.empty = L[i] := by simp [hi]
  rw [e] at this
  exact this
theorem names_inj {L : List ByteArray} (h : namesFromR L 0 = true) : ∀ i j (hi : i < L.length) (hj : j < L.length), L[i] = L[j] → i = j := by
  have lt : ∀ i j (hi : i < L.length) (hj : j < L.length), i < j → L[i] ≠ L[j] := fun i j hi hj hij e =>
    (namesFrom_at h j hj).2 (by rw [← e]; exact List.mem_take_iff_getElem.2 ⟨i, by omega, rfl⟩)
  intro i j hi hj e
  rcases Nat.lt_trichotomy i j with h1 | h1 | h1
  · exact absurd e (lt i j hi hj h1)
  · exact h1
  · exact absurd e.symm (lt j i hj hi h1)
theorem nm_of {L l : List ByteArray} (h : namesFromR L 0 = true) (o : Nat) (hl : ∀ i (hi : i < l.length), ∃ h : o + i < L.length, L[o + i] = l[i]) : Nm l where
  inj i j hi hj e := by
    obtain ⟨a1, a2⟩ := hl i hi
    obtain ⟨b1, b2⟩ := hl j hj
    have := names_inj h (o + i) (o + j) a1 b1 (by rw [a2, b2, e])
    omega
  word s hs := by
    obtain ⟨i, hi, rfl⟩ := List.getElem_of_mem hs
    obtain ⟨a1, a2⟩ := hl i hi
    rw [← a2]
    exact (nameR_word (namesFrom_at h _ a1).1).1
  ne s hs := by
    obtain ⟨i, hi, rfl⟩ := List.getElem_of_mem hs
    obtain ⟨a1, a2⟩ := hl i hi
    rw [← a2]
    obtain ⟨_, p1, p2⟩ := nameR_word (namesFrom_at h _ a1).1
    exact ⟨p1, fun e => p2 (e ▸ by decide), fun e => p2 (e ▸ by decide), fun e => p2 (e ▸ by decide), fun e => p2 (e ▸ by decide), fun e => p2 (e ▸ by decide)⟩
theorem nm_both {cs rs is : List ByteArray} (h : namesR cs rs is = true) : Nm cs ∧ Nm rs := by
  simp only [namesR, Bool.and_eq_true] at h
  refine ⟨nm_of h.2 0 (fun i hi => ⟨by simp; omega, ?_⟩), nm_of h.2 cs.length (fun i hi => ⟨by simp; omega, ?_⟩)⟩
  · simp only [Nat.zero_add]; rw [List.getElem_append_left hi]
  · rw [List.getElem_append_right (by omega)]
    simp only [Nat.add_sub_cancel_left]
    rw [List.getElem_append_left hi]
end Go.Proofs.YtoafelppnagpbaaGreatDoor
/- Pure: what the reference's Marks asks is there; its answer is the program's. -/
namespace Go.Proofs.YtoafelppnagpbaaGreatDoor
open Go.RowKit
set_option linter.unusedVariables false
set_option linter.unusedSimpArgs false
theorem sizes_pairL : ∀ l : List (Con × Con), Con.sizes (pairL l) = inclsSz l
  | [] => rfl
  | p :: r => by
    have ih := sizes_pairL r
    rw [show pairL (p :: r) = [p.1, p.2] ++ pairL r from rfl, sizes_append, ih]
    simp only [Con.sizes, inclsSz, List.map_cons, List.sum_cons]; omega
theorem sizes_factsL : ∀ l : List (Int × Con), Con.sizes (l.map (·.2)) = factsSz l
  | [] => rfl
  | p :: r => by
    have ih := sizes_factsL r
    simp only [List.map_cons, Con.sizes, ih, factsSz, List.sum_cons]
theorem sizes_le (n : Nat) : ∀ l : List Con, (∀ c ∈ l, c.size ≤ n) → Con.sizes l ≤ n * l.length
  | [], _ => by simp [Con.sizes]
  | c :: r, h => by
    have ih := sizes_le n r (fun d hd => h d (by simp [hd]))
    have := h c (by simp)
    simp only [Con.sizes, List.length_cons, Nat.mul_add, Nat.mul_one]; omega
theorem sound_few {b : Kb} {more : List Con} (hf : faultE b more = 0) : Sound b more := sound_of (by rw [fault_eq b more (names_eq _ _ _)]; exact hf)
theorem refOk_of {b : Kb} {more : List Con} (hw : fewLawB b more = true) (hf : faultE b more = 0) : RefOk b more := by
  have S := sound_few hf
  simp only [fewLawB, fewB, Bool.and_eq_true, decide_eq_true_eq] at hw
  obtain ⟨w1, ⟨w2, w3, w4, w5, w6, w7, w8⟩, w9⟩ := hw
  have hsz : Con.sizes (conceptsC b) = inclsSz b.incls + factsSz b.facts := by unfold conceptsC; rw [sizes_append, sizes_pairL, sizes_factsL]
  have hm := sizes_le 400 more (fun c hc => (S.extra c hc).2)
  have e1 := sizes_either b.incls
  have e2 := sizes_facts b.facts
  have e3 := sizes_more more (fun c hc => (S.extra c hc).2)
  exact
  { hli := by omega
    hlf := by omega
    hlm := by omega
    hfi := fun x hx => ⟨shape_of_fit (S.incls x hx).1, shape_of_fit (S.incls x hx).2⟩
    hff := fun x hx => shape_of_fit (S.facts x hx)
    hfm := fun c hc => shape_of_fit (S.extra c hc).1
    s0 := by rw [sizes_append]; omega
    s1 := by omega
    s2 := by show Con.sizes (b.facts.map fun x => nnfC x.2 false) ≤ 20000; omega
    s3 := by show Con.sizes (more.map (nnfC · false)) ≤ 20000; omega
    hsi := fun x hx => by obtain ⟨p, hp, rfl⟩ := List.mem_map.1 hx; exact shape_of_fit (fit_either (S.incls p hp))
    hsf := fun x hx => by obtain ⟨p, hp, rfl⟩ := List.mem_map.1 hx; exact shape_of_fit (fit_nnf false (S.facts p hp))
    hsm := fun x hx => by obtain ⟨p, hp, rfl⟩ := List.mem_map.1 hx; exact shape_of_fit (fit_nnf false (S.extra p hp).1) }
theorem small_all {nc nr : Nat} {l : List Con} (h : FitAll nc nr l) : allOk nc nr l = smallAll l := by
  unfold allOk smallAll
  rw [Bool.eq_iff_iff, List.all_eq_true, List.all_eq_true]
  constructor
  · intro k c hc
    have := k c hc
    rw [okC_isR] at this
    simp only [isR, Bool.and_eq_true] at this
    exact this.1
  · intro k c hc
    rw [okC_isR]
    simp only [isR, Bool.and_eq_true]
    exact ⟨k c hc, h c hc⟩
theorem marked_eq (b : Kb) (more : List Con) : markedE b more = marksE b more := by
  have hfe := fault_eq b more (names_eq _ _ _)
  by_cases hf : faultE b more = 0
  · have S := sound_few hf
    have hk : isKbR b = true := by
      unfold faultE at hf
      split at hf
      · assumption
      · cases hf
    have hn : namesR b.cs b.rs b.is = true := by
      unfold isKbR at hk
      simp only [Bool.and_eq_true] at hk
      exact hk.1
    obtain ⟨n1, n2⟩ := nm_both hn
    obtain ⟨e, hfit⟩ := marks_ref (more := more) n1 n2 S.incls S.facts (fun c hc => (S.extra c hc).1)
    have hsa := small_all hfit
    unfold markedE marksE openE
    rw [hfe, if_pos hf, if_pos hf, ← e, ← hsa]
    by_cases h8 : (marksC b more).length ≤ 8
    · rw [if_pos h8, if_pos h8, if_pos rfl]
    · rw [if_neg h8, if_neg h8, if_neg (by decide)]
  · unfold markedE marksE openE
    rw [hfe, if_neg hf, if_neg hf, if_neg hf]
theorem marks_sizes (b : Kb) (more : List Con) : (∀ c ∈ (marksE b more).1, c.size ≤ 100000) ∧ (marksE b more).1.length ≤ 100 := by
  unfold marksE
  split
  · rename_i h
    split
    · rename_i ha
      refine ⟨fun c hc => ?_, by have := (open_small h).1; simp only; omega⟩
      have := (okC_facts (List.all_eq_true.1 ha c hc)).2
      omega
    · exact ⟨fun c hc => by simp at hc, by simp⟩
  · exact ⟨fun c hc => by simp at hc, by simp⟩
end Go.Proofs.YtoafelppnagpbaaGreatDoor
