/- What concept.Role and concept.Text compute. -/
import Derived.Test.YtknonaboaaiabaaGreatDoorNnf
import Derived.Deep.RegionHeld3
namespace Go.Proofs.YtknonaboaaiabaaGreatDoor
open Go.RowKit
set_option linter.unusedVariables false
set_option linter.unusedSimpArgs false
def roleT (rs : List ByteArray) (r : Nat) : ByteArray := if r % 2 = 1 then rs.getD (r / 2) ⟨#[]⟩ ++ ⟨#[45]⟩ else rs.getD (r / 2) ⟨#[]⟩
set_option maxRecDepth 100000 in
set_option maxHeartbeats 4000000 in
theorem roleT_calls (rs : List ByteArray) (r : Nat) (hr : r < 2 * rs.length) (hl : rs.length ≤ 1000000) (h12 : ∀ s ∈ rs, s.size ≤ 12) (ok : Nat → Prop) (v0 v2 : Value) (A1 : Option Addr) (c1 : Nat) (w : World) (hrs : Row1 ok w Value.string rs A1) :
    Calls Tryz.prog 252 #[.agg #[v0, .slice A1 rs.length c1, v2], .int .i64 r] w fun e w' => e = .returned (.string (roleT rs r)) ∧ Keeps (fun _ => False) w w' := by
  obtain ⟨b, o, rfl, hb, hc⟩ := hrs (by intro h; subst h; simp at hr)
  have hlt : r / 2 < rs.length := by omega
  have e0 := hc (r / 2) hlt
  have hbl := World.block_lt_of_cell? w _ e0
  simp only at hbl
  have hg : Hid (rs.getD (r / 2) ⟨#[]⟩ = rs[r / 2]) := by unfold Hid; simp [List.getD, hlt]
  have hs12 := h12 _ (List.getElem_mem hlt)
  clear h12
  generalize rs[r / 2] = s at *
  have hq : (r : Int).tdiv 2 = ((r / 2 : Nat) : Int) := by rw [Int.tdiv_eq_ediv_of_nonneg (by omega)]; rfl
  have hq2 : ((r / 2 : Nat) : Int) < (rs.length : Int) := by omega
  clear hc
  by_cases h1 : r % 2 = 1
  · have hm : (r : Int).tmod 2 = 1 := by rw [Int.tmod_eq_emod_of_nonneg (by omega)]; omega
    have hV := Lib.hid (show roleT rs r = s ++ ⟨#[45]⟩ by unfold roleT; rw [if_pos h1, hg.out])
    clear h1 hr hlt
    generalize r / 2 = q at *
    go_enter Tryz.func252, Tryz.ntmps252
    go_wp2_with fail
    go_ret
    exact ⟨by rw [hV.out]; rfl, by repeat (first | exact Keeps.refl _ _ | refine Keeps.drewN ?_ _ | refine Keeps.drew ?_ | refine Keeps.alloc ?_ _ | refine Keeps.set ?_ (Or.inl (by rfl)) _)⟩
  · have hm : (r : Int).tmod 2 = 0 := by rw [Int.tmod_eq_emod_of_nonneg (by omega)]; omega
    have hV := Lib.hid (show roleT rs r = s by unfold roleT; rw [if_neg h1, hg.out])
    clear h1 hr hlt
    generalize r / 2 = q at *
    go_enter Tryz.func252, Tryz.ntmps252
    go_wp2_with fail
    go_ret
    exact ⟨by rw [hV.out]; rfl, by repeat (first | exact Keeps.refl _ _ | refine Keeps.drewN ?_ _ | refine Keeps.drew ?_ | refine Keeps.alloc ?_ _ | refine Keeps.set ?_ (Or.inl (by rfl)) _)⟩
mutual
/-- Valid over so many names, of whatever size. -/
def fitC (nc nr : Nat) : Con → Bool
  | ⟨op, n, args⟩ => decide (0 ≤ op ∧ op ≤ 7) && decide ((args.length : Int) = arityZ op) && nodeOk nc nr op n && fitL nc nr args
def fitL (nc nr : Nat) : List Con → Bool
  | [] => true
  | c :: r => fitC nc nr c && fitL nc nr r
end
theorem fitL_at {nc nr : Nat} : ∀ {l : List Con}, fitL nc nr l = true → ∀ i (h : i < l.length), fitC nc nr l[i] = true
  | c :: r, h, 0, _ => by simp only [fitL, Bool.and_eq_true] at h; simpa using h.1
  | c :: r, h, i + 1, hi => by simp only [fitL, Bool.and_eq_true] at h; simpa using fitL_at h.2 i (by simpa using hi)
mutual
theorem fit_of_valid {nc nr : Nat} : ∀ {c : Con} {x y : Int}, (validC nc nr c x y).1 = true → fitC nc nr c = true
  | ⟨op, n, args⟩, x, y, h => by
    simp only [validC] at h
    split at h
    · simp at h
    · rename_i hb
      split at h
      · rename_i hn
        simp only [fitC, Bool.and_eq_true, decide_eq_true_eq]
        exact ⟨⟨⟨by omega, by omega⟩, hn⟩, fitL_of_valid h⟩
      · simp at h
theorem fitL_of_valid {nc nr : Nat} : ∀ {l : List Con} {x y : Int}, (validL nc nr l x y).1 = true → fitL nc nr l = true
  | [], _, _, _ => rfl
  | c :: r, x, y, h => by
    simp only [validL] at h
    split at h
    · rename_i hc
      simp only [fitL, Bool.and_eq_true]
      exact ⟨fit_of_valid hc, fitL_of_valid h⟩
    · rename_i hc; exact absurd h hc
end
mutual
theorem shape_of_fit {nc nr : Nat} : ∀ {c : Con}, fitC nc nr c = true → shapeC c = true
  | ⟨op, n, args⟩, h => by
    simp only [fitC, Bool.and_eq_true] at h
    simp only [shapeC, Bool.and_eq_true]
    exact ⟨h.1.1, shapeL_of_fit h.2⟩
theorem shapeL_of_fit {nc nr : Nat} : ∀ {l : List Con}, fitL nc nr l = true → shapeL l = true
  | [], _ => rfl
  | c :: r, h => by
    simp only [fitL, Bool.and_eq_true] at h
    simp only [shapeL, Bool.and_eq_true]
    exact ⟨shape_of_fit h.1, shapeL_of_fit h.2⟩
end
mutual
def textC (cs rs : List ByteArray) : Con → ByteArray
  | ⟨op, n, args⟩ =>
    if op = 0 then cs.getD n.toNat ⟨#[]⟩ else if op = 1 then ⟨#[116, 111, 112]⟩ else if op = 2 then ⟨#[98, 111, 116]⟩
    else if op = 3 then ⟨#[110, 111, 116, 32]⟩ ++ text1 cs rs args
    else if op = 4 then ⟨#[40]⟩ ++ text1 cs rs args ++ ⟨#[32, 97, 110, 100, 32]⟩ ++ text2 cs rs args ++ ⟨#[41]⟩
    else if op = 5 then ⟨#[40]⟩ ++ text1 cs rs args ++ ⟨#[32, 111, 114, 32]⟩ ++ text2 cs rs args ++ ⟨#[41]⟩
    else if op = 6 then ⟨#[115, 111, 109, 101, 32]⟩ ++ roleT rs n.toNat ++ ⟨#[32]⟩ ++ text1 cs rs args
    else ⟨#[97, 108, 108, 32]⟩ ++ roleT rs n.toNat ++ ⟨#[32]⟩ ++ text1 cs rs args
def text1 (cs rs : List ByteArray) : List Con → ByteArray
  | [] => ⟨#[]⟩
  | c :: _ => textC cs rs c
def text2 (cs rs : List ByteArray) : List Con → ByteArray
  | _ :: r => text1 cs rs r
  | [] => ⟨#[]⟩
end
theorem roleT_size {rs : List ByteArray} (h : ∀ s ∈ rs, s.size ≤ 12) (r : Nat) : (roleT rs r).size ≤ 13 := by
  have h0 : (rs.getD (r / 2) ⟨#[]⟩).size ≤ 12 := by
    by_cases hl : r / 2 < rs.length
    · simp only [List.getD, hl, List.getElem?_eq_getElem, Option.getD_some]; exact h _ (List.getElem_mem hl)
    · have : rs[r / 2]? = none := List.getElem?_eq_none (by omega)
      simp only [List.getD, this, Option.getD_none]; decide
  unfold roleT
  split
  · rw [ByteArray.size_append]; have : (⟨#[45]⟩ : ByteArray).size = 1 := rfl; omega
  · omega
mutual
theorem textC_size {cs rs : List ByteArray} (h : ∀ s ∈ cs, s.size ≤ 12) (k : ∀ s ∈ rs, s.size ≤ 12) : ∀ c : Con, (textC cs rs c).size ≤ 20 * c.size
  | ⟨op, n, args⟩ => by
    have h0 : (cs.getD n.toNat ⟨#[]⟩).size ≤ 12 := by
      by_cases hl : n.toNat < cs.length
      · simp only [List.getD, hl, List.getElem?_eq_getElem, Option.getD_some]; exact h _ (List.getElem_mem hl)
      · have : cs[n.toNat]? = none := List.getElem?_eq_none (by omega)
        simp only [List.getD, this, Option.getD_none]; decide
    have h1 := text12_size h k args
    have h2 := roleT_size k n.toNat
    have z1 : (⟨#[116, 111, 112]⟩ : ByteArray).size = 3 := rfl
    have z2 : (⟨#[98, 111, 116]⟩ : ByteArray).size = 3 := rfl
    have z3 : (⟨#[110, 111, 116, 32]⟩ : ByteArray).size = 4 := rfl
    have z4 : (⟨#[40]⟩ : ByteArray).size = 1 := rfl
    have z5 : (⟨#[41]⟩ : ByteArray).size = 1 := rfl
    have z6 : (⟨#[32]⟩ : ByteArray).size = 1 := rfl
    have z7 : (⟨#[32, 97, 110, 100, 32]⟩ : ByteArray).size = 5 := rfl
    have z8 : (⟨#[32, 111, 114, 32]⟩ : ByteArray).size = 4 := rfl
    have z9 : (⟨#[115, 111, 109, 101, 32]⟩ : ByteArray).size = 5 := rfl
    have z10 : (⟨#[97, 108, 108, 32]⟩ : ByteArray).size = 4 := rfl
    simp only [textC, Con.size]
    (repeat' split) <;> (try simp only [ByteArray.size_append, z1, z2, z3, z4, z5, z6, z7, z8, z9, z10]) <;> omega
theorem text12_size {cs rs : List ByteArray} (h : ∀ s ∈ cs, s.size ≤ 12) (k : ∀ s ∈ rs, s.size ≤ 12) : ∀ l : List Con, (text1 cs rs l).size + (text2 cs rs l).size ≤ 20 * Con.sizes l
  | [] => by simp only [text1, text2]; decide
  | [c] => by have := textC_size h k c; have z0 : (⟨#[]⟩ : ByteArray).size = 0 := rfl; simp only [text1, text2, Con.sizes, z0]; omega
  | c :: d :: r => by
    have h1 := textC_size h k c
    have h2 := textC_size h k d
    simp only [text1, text2, Con.sizes]; omega
end
theorem text1_one (cs rs : List ByteArray) (c : Con) (r : List Con) : text1 cs rs (c :: r) = textC cs rs c := by simp only [text1]
theorem text2_one (cs rs : List ByteArray) (c d : Con) (r : List Con) : text2 cs rs (c :: d :: r) = textC cs rs d := by simp only [text2, text1]
set_option maxRecDepth 100000 in
set_option maxHeartbeats 4000000 in
theorem text_calls (cs rs : List ByteArray) (hcl : cs.length ≤ 1000000) (hrl : rs.length ≤ 1000000) (hcs : ∀ s ∈ cs, s.size ≤ 12) (hrs : ∀ s ∈ rs, s.size ≤ 12) (A0 A1 : Option Addr) (c0 c1 : Nat) (v2 : Value) (N : Nat) :
    ∀ (c : Con) (A : Option Addr) (cap : Nat) (ok : Nat → Prop) (w : World), c.size < N → c.size ≤ 1000000 → fitC cs.length rs.length c = true → ConR ok w c [.int .i64 c.op, .int .i64 c.n, .slice A c.args.length cap] →
    Row1 ok w Value.string cs A0 → Row1 ok w Value.string rs A1 →
    Calls Tryz.prog 222 #[.agg #[.slice A0 cs.length c0, .slice A1 rs.length c1, v2], .agg #[.int .i64 c.op, .int .i64 c.n, .slice A c.args.length cap]] w fun e w' => e = .returned (.string (textC cs rs c)) ∧ Keeps (fun _ => False) w w' := by
  induction N with
  | zero => intro c A cap ok w h; omega
  | succ N ih =>
  intro c A cap ok w hN hM hf hc hr0 hr1
  have hts := textC_size hcs hrs c
  have HT := Lib.hid hts
  obtain ⟨op, n, args⟩ := c
  have IH := Lib.hid @ih
  have HC := Lib.hid hc
  have H0 := Lib.hid hr0
  have H1 := Lib.hid hr1
  clear ih hc hr0 hr1 hts
  simp only [Con.op, Con.n, Con.args] at HC ⊢
  simp only [fitC, Bool.and_eq_true, decide_eq_true_eq] at hf
  obtain ⟨⟨⟨⟨p0, p1⟩, har⟩, hno⟩, hfl⟩ := hf
  have hc := HC.out
  simp only [ConR] at hc
  obtain ⟨A1', cap1, e1, hcap, hr⟩ := hc
  simp only [List.cons.injEq, Value.slice.injEq, and_true, true_and] at e1
  obtain ⟨rfl, rfl⟩ := e1
  have HR := Lib.hid hr
  have HF := Lib.hid hfl
  clear hr hfl HC
  have hop : op = 0 ∨ op = 1 ∨ op = 2 ∨ op = 3 ∨ op = 4 ∨ op = 5 ∨ op = 6 ∨ op = 7 := by omega
  rcases hop with rfl | rfl | rfl | rfl | rfl | rfl | rfl | rfl
  · have hn : 0 ≤ n ∧ n < cs.length := by simpa [nodeOk] using hno
    obtain ⟨k, rfl⟩ := Int.eq_ofNat_of_zero_le hn.1
    have hk : k < cs.length := by omega
    obtain ⟨b, o, rfl, hb, hcc⟩ := H0.out (by intro h; subst h; simp at hk)
    have e0 := hcc k hk
    have hbl := World.block_lt_of_cell? w _ e0
    simp only at hbl
    have hbl1 : b < w.heap.size + 1 := by omega
    have hV := Lib.hid (show textC cs rs ⟨0, (k : Int), args⟩ = cs[k] by simp [textC, List.getD, hk])
    generalize cs[k] = s at *
    have hk2 : (k : Int) < (cs.length : Int) := by omega
    clear hcc hno hn HR HF hcs hrs HT
    go_enter Tryz.func222, Tryz.ntmps222
    go_wp2_with fail
    go_ret
    exact ⟨by rw [hV.out]; rfl, by repeat (first | exact Keeps.refl _ _ | refine Keeps.drewN ?_ _ | refine Keeps.drew ?_ | refine Keeps.alloc ?_ _ | refine Keeps.set ?_ (Or.inl (by rfl)) _)⟩
  · have hV := Lib.hid (show textC cs rs ⟨1, n, args⟩ = ⟨#[116, 111, 112]⟩ by simp [textC])
    clear HR HF hcs hrs HT
    go_enter Tryz.func222, Tryz.ntmps222
    go_wp2_with fail
    go_ret
    exact ⟨by rw [hV.out]; rfl, by repeat (first | exact Keeps.refl _ _ | refine Keeps.drewN ?_ _ | refine Keeps.drew ?_ | refine Keeps.alloc ?_ _ | refine Keeps.set ?_ (Or.inl (by rfl)) _)⟩
  · have hV := Lib.hid (show textC cs rs ⟨2, n, args⟩ = ⟨#[98, 111, 116]⟩ by simp [textC])
    clear HR HF hcs hrs HT
    go_enter Tryz.func222, Tryz.ntmps222
    go_wp2_with fail
    go_ret
    exact ⟨by rw [hV.out]; rfl, by repeat (first | exact Keeps.refl _ _ | refine Keeps.drewN ?_ _ | refine Keeps.drew ?_ | refine Keeps.alloc ?_ _ | refine Keeps.set ?_ (Or.inl (by rfl)) _)⟩
  · have hl1 : args.length = 1 := by unfold arityZ at har; simp at har; omega
    obtain ⟨d, rfl⟩ : ∃ d, args = [d] := List.length_eq_one_iff.1 hl1
    have hV := Lib.hid (show textC cs rs ⟨3, n, [d]⟩ = ⟨#[110, 111, 116, 32]⟩ ++ textC cs rs d by simp [textC, text1])
    obtain ⟨b, o, rfl, hb, hr⟩ := HR.out (by simp)
    obtain ⟨A', cap', e0, e1, e2, hd⟩ := hr.at_ 0 (by simp)
    simp only [List.getElem_cons_zero, Nat.zero_mul, Nat.add_zero] at e0 e1 e2 hd
    have hbl := World.block_lt_of_cell? w _ e0
    simp only at hbl
    have hbl1 : b < w.heap.size + 1 := by omega
    have HD := Lib.hid hd
    have hs1 : fitC cs.length rs.length d = true := by have := HF.out; simp only [fitL, Bool.and_true] at this; exact this
    simp only [Con.size, Con.sizes] at hN hM
    have hsz := textC_size hcs hrs d
    have hcall : ∀ W, Keeps (fun _ => False) w W → Calls Tryz.prog 222 #[.agg #[.slice A0 cs.length c0, .slice A1 rs.length c1, v2], .agg #[.int .i64 d.op, .int .i64 d.n, .slice A' d.args.length cap']] W fun e w' => e = .returned (.string (textC cs rs d)) ∧ Keeps (fun _ => False) W w' :=
      fun W hk => IH.out d A' cap' ok W (by omega) (by omega) hs1 (HD.out.keep hk (fun _ _ h => h)) (H0.out.keep hk (fun _ _ h => h)) (H1.out.keep hk (fun _ _ h => h))
    have hsz2 : (textC cs rs d).size ≤ 20000000 := by omega
    have HCALL := Lib.hid hcall
    generalize textC cs rs d = td at *
    clear hcall hd hr HF HR HT IH hs1 hcs hrs hsz
    go_enter Tryz.func222, Tryz.ntmps222
    go_wp2_with fail
    generalize hW0 : World.alloc _ _ = W0
    have hK0 : Keeps (fun _ => False) w W0 := by rw [← hW0]; repeat (first | exact Keeps.refl _ _ | refine Keeps.drewN ?_ _ | refine Keeps.drew ?_ | refine Keeps.alloc ?_ _ | refine Keeps.set ?_ (Or.inl (by rfl)) _)
    have hb1 : W0.heap[w.heap.size]? = some (.cells #[.slice A0 cs.length c0, .slice A1 rs.length c1, v2] 24 (0, 0)) := by rw [← hW0]; exact blkAlloc (blkNew rfl) _
    have hb2 : W0.heap[w.heap.size + 1]? = some (.cells #[.int .i64 3, .int .i64 n, .slice (some ⟨b, o, none⟩) 1 cap] 94 (0, 0)) := by rw [← hW0]; exact blkNew (by simp)
    clear hW0
    obtain ⟨x0, x1, x2⟩ := cells3 hb1
    obtain ⟨y0, y1, y2⟩ := cells3 hb2
    have z0 := hK0.cell e0 (fun h => h)
    have z1 := hK0.cell e1 (fun h => h)
    have z2 := hK0.cell e2 (fun h => h)
    clear hb1 hb2 e0 e1 e2 y0 y1
    have hq1 : ¬ 9223372036854775807 < 4 + td.size := by omega
    go_region_held3 (fun w' => w'.cell? ⟨w.heap.size, 0, none⟩ = some (.slice A0 cs.length c0) ∧ w'.cell? ⟨w.heap.size, 1, none⟩ = some (.slice A1 rs.length c1) ∧ w'.cell? ⟨w.heap.size, 2, none⟩ = some v2 ∧
        w'.cell? ⟨w.heap.size + 1, 2, none⟩ = some (.slice (some ⟨b, o, none⟩) 1 cap) ∧ w'.cell? ⟨b, o, none⟩ = some (.int .i64 d.op) ∧ w'.cell? ⟨b, o + 1, none⟩ = some (.int .i64 d.n) ∧ w'.cell? ⟨b, o + 2, none⟩ = some (.slice A' d.args.length cap') ∧ Keeps (fun _ => False) w w')
      (first
        | exact ⟨x0, x1, x2, y2, z0, z1, z2, hK0⟩
        | exact ⟨x0, x1, x2, y2, z0, z1, z2, hK0.drew⟩
        | go_keep
        | (go_split_ands; refine ⟨?_, ?_, ?_, ?_, ?_, ?_, ?_, ?_⟩ <;> first | exact hk5.cell (by assumption) (fun h => h) | exact Keeps.then_ (by assumption) hk5 | exact Keeps.drew (by assumption)))
      ((go_at_call 222; refine (HCALL.out _ (by first | assumption | exact Keeps.drew (by assumption) | exact hK0)).mono ?_; rintro e w5 ⟨rfl, hk5⟩))
    go_wp2_with fail
    go_ret
    exact ⟨by rw [hV.out]; rfl, hK0.drew.then_ hk5⟩
  · have hl1 : args.length = 2 := by unfold arityZ at har; simp at har; omega
    obtain ⟨d, d2, rfl⟩ : ∃ d d2, args = [d, d2] := by match args, hl1 with | [d, d2], _ => exact ⟨d, d2, rfl⟩
    have hV := Lib.hid (show textC cs rs ⟨4, n, [d, d2]⟩ = ⟨#[40]⟩ ++ textC cs rs d ++ ⟨#[32, 97, 110, 100, 32]⟩ ++ textC cs rs d2 ++ ⟨#[41]⟩ by simp [textC, text1, text2])
    obtain ⟨b, o, rfl, hb, hr⟩ := HR.out (by simp)
    obtain ⟨A', cap', e0, e1, e2, hd⟩ := hr.at_ 0 (by simp)
    obtain ⟨B', dap', f0, f1, f2, hd2⟩ := hr.at_ 1 (by simp)
    simp only [List.getElem_cons_zero, Nat.zero_mul, Nat.add_zero] at e0 e1 e2 hd
    simp only [List.getElem_cons_succ, List.getElem_cons_zero, Nat.one_mul, Nat.add_assoc, Nat.reduceAdd] at f0 f1 f2 hd2
    have hbl := World.block_lt_of_cell? w _ e0
    simp only at hbl
    have hbl1 : b < w.heap.size + 1 := by omega
    have HD := Lib.hid hd
    have HD2 := Lib.hid hd2
    have hs1 : fitC cs.length rs.length d = true ∧ fitC cs.length rs.length d2 = true := by have := HF.out; simpa only [fitL, Bool.and_true, Bool.and_eq_true] using this
    simp only [Con.size, Con.sizes] at hN hM
    have hsz := textC_size hcs hrs d
    have hszz := textC_size hcs hrs d2
    have hcall : ∀ W, Keeps (fun _ => False) w W → Calls Tryz.prog 222 #[.agg #[.slice A0 cs.length c0, .slice A1 rs.length c1, v2], .agg #[.int .i64 d.op, .int .i64 d.n, .slice A' d.args.length cap']] W fun e w' => e = .returned (.string (textC cs rs d)) ∧ Keeps (fun _ => False) W w' :=
      fun W hk => IH.out d A' cap' ok W (by omega) (by omega) hs1.1 (HD.out.keep hk (fun _ _ h => h)) (H0.out.keep hk (fun _ _ h => h)) (H1.out.keep hk (fun _ _ h => h))
    have hcall2 : ∀ W, Keeps (fun _ => False) w W → Calls Tryz.prog 222 #[.agg #[.slice A0 cs.length c0, .slice A1 rs.length c1, v2], .agg #[.int .i64 d2.op, .int .i64 d2.n, .slice B' d2.args.length dap']] W fun e w' => e = .returned (.string (textC cs rs d2)) ∧ Keeps (fun _ => False) W w' :=
      fun W hk => IH.out d2 B' dap' ok W (by omega) (by omega) hs1.2 (HD2.out.keep hk (fun _ _ h => h)) (H0.out.keep hk (fun _ _ h => h)) (H1.out.keep hk (fun _ _ h => h))
    have hsz2 : (textC cs rs d).size ≤ 20000000 := by omega
    have hsz3 : (textC cs rs d2).size ≤ 20000000 := by omega
    have HCALL := Lib.hid hcall
    have HCALL2 := Lib.hid hcall2
    generalize textC cs rs d = td at *
    generalize textC cs rs d2 = te at *
    clear hcall hcall2 hd hd2 hr HF HR HT IH hs1 hcs hrs hsz hszz
    go_enter Tryz.func222, Tryz.ntmps222
    go_wp2_with fail
    generalize hW0 : World.alloc _ _ = W0
    have hK0 : Keeps (fun _ => False) w W0 := by rw [← hW0]; repeat (first | exact Keeps.refl _ _ | refine Keeps.drewN ?_ _ | refine Keeps.drew ?_ | refine Keeps.alloc ?_ _ | refine Keeps.set ?_ (Or.inl (by rfl)) _)
    have hb1 : W0.heap[w.heap.size]? = some (.cells #[.slice A0 cs.length c0, .slice A1 rs.length c1, v2] 24 (0, 0)) := by rw [← hW0]; exact blkAlloc (blkNew rfl) _
    have hb2 : W0.heap[w.heap.size + 1]? = some (.cells #[.int .i64 4, .int .i64 n, .slice (some ⟨b, o, none⟩) 2 cap] 94 (0, 0)) := by rw [← hW0]; exact blkNew (by simp)
    clear hW0
    obtain ⟨x0, x1, x2⟩ := cells3 hb1
    obtain ⟨y0, y1, y2⟩ := cells3 hb2
    have z0 := hK0.cell e0 (fun h => h)
    have z1 := hK0.cell e1 (fun h => h)
    have z2 := hK0.cell e2 (fun h => h)
    have z3 := hK0.cell f0 (fun h => h)
    have z4 := hK0.cell f1 (fun h => h)
    have z5 := hK0.cell f2 (fun h => h)
    clear hb1 hb2 e0 e1 e2 y0 y1 f0 f1 f2
    have hq1 : ¬ 9223372036854775807 < 1 + td.size := by omega
    have hq2 : ¬ 9223372036854775807 < 1 + td.size + 5 := by omega
    have hq3 : ¬ 9223372036854775807 < 1 + td.size + 5 + te.size := by omega
    have hq4 : ¬ 9223372036854775807 < 1 + td.size + 5 + te.size + 1 := by omega
    go_region_held3 (fun w' => w'.cell? ⟨w.heap.size, 0, none⟩ = some (.slice A0 cs.length c0) ∧ w'.cell? ⟨w.heap.size, 1, none⟩ = some (.slice A1 rs.length c1) ∧ w'.cell? ⟨w.heap.size, 2, none⟩ = some v2 ∧
        w'.cell? ⟨w.heap.size + 1, 2, none⟩ = some (.slice (some ⟨b, o, none⟩) 2 cap) ∧ w'.cell? ⟨b, o, none⟩ = some (.int .i64 d.op) ∧ w'.cell? ⟨b, o + 1, none⟩ = some (.int .i64 d.n) ∧ w'.cell? ⟨b, o + 2, none⟩ = some (.slice A' d.args.length cap') ∧
        w'.cell? ⟨b, o + 3, none⟩ = some (.int .i64 d2.op) ∧ w'.cell? ⟨b, o + 4, none⟩ = some (.int .i64 d2.n) ∧ w'.cell? ⟨b, o + 5, none⟩ = some (.slice B' d2.args.length dap') ∧ Keeps (fun _ => False) w w')
      (first
        | exact ⟨x0, x1, x2, y2, z0, z1, z2, z3, z4, z5, hK0⟩
        | exact ⟨x0, x1, x2, y2, z0, z1, z2, z3, z4, z5, hK0.drew⟩
        | go_keep
        | (go_split_ands; refine ⟨?_, ?_, ?_, ?_, ?_, ?_, ?_, ?_, ?_, ?_, ?_⟩ <;> first | exact hk6.cell (by assumption) (fun h => h) | exact hk5.cell (by assumption) (fun h => h) | exact Keeps.then_ (by assumption) hk6 | exact Keeps.then_ (by assumption) hk5 | exact Keeps.drew (by assumption)))
      (first
        | (go_at_call 222; refine (HCALL.out _ (by first | assumption | exact Keeps.drew (by assumption) | exact hK0)).mono ?_; clear HCALL; rintro e w5 ⟨rfl, hk5⟩)
        | (go_at_call 222; refine (HCALL2.out _ (by first | assumption | exact Keeps.drew (by assumption) | exact Keeps.then_ hK0.drew hk5 | exact Keeps.then_ hK0 hk5)).mono ?_; rintro e w6 ⟨rfl, hk6⟩))
    go_wp2_with fail
    go_ret
    exact ⟨by rw [hV.out]; rfl, by first | assumption | exact (Keeps.then_ hK0.drew hk5).then_ hk6⟩
  · have hl1 : args.length = 2 := by unfold arityZ at har; simp at har; omega
    obtain ⟨d, d2, rfl⟩ : ∃ d d2, args = [d, d2] := by match args, hl1 with | [d, d2], _ => exact ⟨d, d2, rfl⟩
    have hV := Lib.hid (show textC cs rs ⟨5, n, [d, d2]⟩ = ⟨#[40]⟩ ++ textC cs rs d ++ ⟨#[32, 111, 114, 32]⟩ ++ textC cs rs d2 ++ ⟨#[41]⟩ by simp [textC, text1, text2])
    obtain ⟨b, o, rfl, hb, hr⟩ := HR.out (by simp)
    obtain ⟨A', cap', e0, e1, e2, hd⟩ := hr.at_ 0 (by simp)
    obtain ⟨B', dap', f0, f1, f2, hd2⟩ := hr.at_ 1 (by simp)
    simp only [List.getElem_cons_zero, Nat.zero_mul, Nat.add_zero] at e0 e1 e2 hd
    simp only [List.getElem_cons_succ, List.getElem_cons_zero, Nat.one_mul, Nat.add_assoc, Nat.reduceAdd] at f0 f1 f2 hd2
    have hbl := World.block_lt_of_cell? w _ e0
    simp only at hbl
    have hbl1 : b < w.heap.size + 1 := by omega
    have HD := Lib.hid hd
    have HD2 := Lib.hid hd2
    have hs1 : fitC cs.length rs.length d = true ∧ fitC cs.length rs.length d2 = true := by have := HF.out; simpa only [fitL, Bool.and_true, Bool.and_eq_true] using this
    simp only [Con.size, Con.sizes] at hN hM
    have hsz := textC_size hcs hrs d
    have hszz := textC_size hcs hrs d2
    have hcall : ∀ W, Keeps (fun _ => False) w W → Calls Tryz.prog 222 #[.agg #[.slice A0 cs.length c0, .slice A1 rs.length c1, v2], .agg #[.int .i64 d.op, .int .i64 d.n, .slice A' d.args.length cap']] W fun e w' => e = .returned (.string (textC cs rs d)) ∧ Keeps (fun _ => False) W w' :=
      fun W hk => IH.out d A' cap' ok W (by omega) (by omega) hs1.1 (HD.out.keep hk (fun _ _ h => h)) (H0.out.keep hk (fun _ _ h => h)) (H1.out.keep hk (fun _ _ h => h))
    have hcall2 : ∀ W, Keeps (fun _ => False) w W → Calls Tryz.prog 222 #[.agg #[.slice A0 cs.length c0, .slice A1 rs.length c1, v2], .agg #[.int .i64 d2.op, .int .i64 d2.n, .slice B' d2.args.length dap']] W fun e w' => e = .returned (.string (textC cs rs d2)) ∧ Keeps (fun _ => False) W w' :=
      fun W hk => IH.out d2 B' dap' ok W (by omega) (by omega) hs1.2 (HD2.out.keep hk (fun _ _ h => h)) (H0.out.keep hk (fun _ _ h => h)) (H1.out.keep hk (fun _ _ h => h))
    have hsz2 : (textC cs rs d).size ≤ 20000000 := by omega
    have hsz3 : (textC cs rs d2).size ≤ 20000000 := by omega
    have HCALL := Lib.hid hcall
    have HCALL2 := Lib.hid hcall2
    generalize textC cs rs d = td at *
    generalize textC cs rs d2 = te at *
    clear hcall hcall2 hd hd2 hr HF HR HT IH hs1 hcs hrs hsz hszz
    go_enter Tryz.func222, Tryz.ntmps222
    go_wp2_with fail
    generalize hW0 : World.alloc _ _ = W0
    have hK0 : Keeps (fun _ => False) w W0 := by rw [← hW0]; repeat (first | exact Keeps.refl _ _ | refine Keeps.drewN ?_ _ | refine Keeps.drew ?_ | refine Keeps.alloc ?_ _ | refine Keeps.set ?_ (Or.inl (by rfl)) _)
    have hb1 : W0.heap[w.heap.size]? = some (.cells #[.slice A0 cs.length c0, .slice A1 rs.length c1, v2] 24 (0, 0)) := by rw [← hW0]; exact blkAlloc (blkNew rfl) _
    have hb2 : W0.heap[w.heap.size + 1]? = some (.cells #[.int .i64 5, .int .i64 n, .slice (some ⟨b, o, none⟩) 2 cap] 94 (0, 0)) := by rw [← hW0]; exact blkNew (by simp)
    clear hW0
    obtain ⟨x0, x1, x2⟩ := cells3 hb1
    obtain ⟨y0, y1, y2⟩ := cells3 hb2
    have z0 := hK0.cell e0 (fun h => h)
    have z1 := hK0.cell e1 (fun h => h)
    have z2 := hK0.cell e2 (fun h => h)
    have z3 := hK0.cell f0 (fun h => h)
    have z4 := hK0.cell f1 (fun h => h)
    have z5 := hK0.cell f2 (fun h => h)
    clear hb1 hb2 e0 e1 e2 y0 y1 f0 f1 f2
    have hq1 : ¬ 9223372036854775807 < 1 + td.size := by omega
    have hq2 : ¬ 9223372036854775807 < 1 + td.size + 4 := by omega
    have hq3 : ¬ 9223372036854775807 < 1 + td.size + 4 + te.size := by omega
    have hq4 : ¬ 9223372036854775807 < 1 + td.size + 4 + te.size + 1 := by omega
    go_region_held3 (fun w' => w'.cell? ⟨w.heap.size, 0, none⟩ = some (.slice A0 cs.length c0) ∧ w'.cell? ⟨w.heap.size, 1, none⟩ = some (.slice A1 rs.length c1) ∧ w'.cell? ⟨w.heap.size, 2, none⟩ = some v2 ∧
        w'.cell? ⟨w.heap.size + 1, 2, none⟩ = some (.slice (some ⟨b, o, none⟩) 2 cap) ∧ w'.cell? ⟨b, o, none⟩ = some (.int .i64 d.op) ∧ w'.cell? ⟨b, o + 1, none⟩ = some (.int .i64 d.n) ∧ w'.cell? ⟨b, o + 2, none⟩ = some (.slice A' d.args.length cap') ∧
        w'.cell? ⟨b, o + 3, none⟩ = some (.int .i64 d2.op) ∧ w'.cell? ⟨b, o + 4, none⟩ = some (.int .i64 d2.n) ∧ w'.cell? ⟨b, o + 5, none⟩ = some (.slice B' d2.args.length dap') ∧ Keeps (fun _ => False) w w')
      (first
        | exact ⟨x0, x1, x2, y2, z0, z1, z2, z3, z4, z5, hK0⟩
        | exact ⟨x0, x1, x2, y2, z0, z1, z2, z3, z4, z5, hK0.drew⟩
        | go_keep
        | (go_split_ands; refine ⟨?_, ?_, ?_, ?_, ?_, ?_, ?_, ?_, ?_, ?_, ?_⟩ <;> first | exact hk6.cell (by assumption) (fun h => h) | exact hk5.cell (by assumption) (fun h => h) | exact Keeps.then_ (by assumption) hk6 | exact Keeps.then_ (by assumption) hk5 | exact Keeps.drew (by assumption)))
      (first
        | (go_at_call 222; refine (HCALL.out _ (by first | assumption | exact Keeps.drew (by assumption) | exact hK0)).mono ?_; clear HCALL; rintro e w5 ⟨rfl, hk5⟩)
        | (go_at_call 222; refine (HCALL2.out _ (by first | assumption | exact Keeps.drew (by assumption) | exact Keeps.then_ hK0.drew hk5 | exact Keeps.then_ hK0 hk5)).mono ?_; rintro e w6 ⟨rfl, hk6⟩))
    go_wp2_with fail
    go_ret
    exact ⟨by rw [hV.out]; rfl, by first | assumption | exact (Keeps.then_ hK0.drew hk5).then_ hk6⟩
  · have hl1 : args.length = 1 := by unfold arityZ at har; simp at har; omega
    obtain ⟨d, rfl⟩ : ∃ d, args = [d] := List.length_eq_one_iff.1 hl1
    have hn : 0 ≤ n ∧ n < 2 * rs.length := by simpa [nodeOk] using hno
    obtain ⟨r, rfl⟩ := Int.eq_ofNat_of_zero_le hn.1
    have hr2 : r < 2 * rs.length := by omega
    have hV := Lib.hid (show textC cs rs ⟨6, (r : Int), [d]⟩ = ⟨#[115, 111, 109, 101, 32]⟩ ++ roleT rs r ++ ⟨#[32]⟩ ++ textC cs rs d by simp [textC, text1])
    obtain ⟨b, o, rfl, hb, hr⟩ := HR.out (by simp)
    obtain ⟨A', cap', e0, e1, e2, hd⟩ := hr.at_ 0 (by simp)
    simp only [List.getElem_cons_zero, Nat.zero_mul, Nat.add_zero] at e0 e1 e2 hd
    have hbl := World.block_lt_of_cell? w _ e0
    simp only at hbl
    have hbl1 : b < w.heap.size + 1 := by omega
    have HD := Lib.hid hd
    have hs1 : fitC cs.length rs.length d = true := by have := HF.out; simp only [fitL, Bool.and_true] at this; exact this
    simp only [Con.size, Con.sizes] at hN hM
    have hsz := textC_size hcs hrs d
    have hszr := roleT_size hrs r
    have hcall : ∀ W, Keeps (fun _ => False) w W → Calls Tryz.prog 222 #[.agg #[.slice A0 cs.length c0, .slice A1 rs.length c1, v2], .agg #[.int .i64 d.op, .int .i64 d.n, .slice A' d.args.length cap']] W fun e w' => e = .returned (.string (textC cs rs d)) ∧ Keeps (fun _ => False) W w' :=
      fun W hk => IH.out d A' cap' ok W (by omega) (by omega) hs1 (HD.out.keep hk (fun _ _ h => h)) (H0.out.keep hk (fun _ _ h => h)) (H1.out.keep hk (fun _ _ h => h))
    have hrole : ∀ W, Keeps (fun _ => False) w W → Calls Tryz.prog 252 #[.agg #[.slice A0 cs.length c0, .slice A1 rs.length c1, v2], .int .i64 r] W fun e w' => e = .returned (.string (roleT rs r)) ∧ Keeps (fun _ => False) W w' :=
      fun W hk => roleT_calls rs r hr2 hrl hrs ok _ _ A1 c1 W (H1.out.keep hk (fun _ _ h => h))
    have hsz2 : (textC cs rs d).size ≤ 20000000 := by omega
    have HCALL := Lib.hid hcall
    have HROLE := Lib.hid hrole
    generalize textC cs rs d = td at *
    generalize roleT rs r = tr at *
    clear hcall hrole hd hr HF HR HT IH hs1 hcs hrs hsz
    go_enter Tryz.func222, Tryz.ntmps222
    go_wp2_with fail
    generalize hW0 : World.alloc _ _ = W0
    have hK0 : Keeps (fun _ => False) w W0 := by rw [← hW0]; repeat (first | exact Keeps.refl _ _ | refine Keeps.drewN ?_ _ | refine Keeps.drew ?_ | refine Keeps.alloc ?_ _ | refine Keeps.set ?_ (Or.inl (by rfl)) _)
    have hb1 : W0.heap[w.heap.size]? = some (.cells #[.slice A0 cs.length c0, .slice A1 rs.length c1, v2] 24 (0, 0)) := by rw [← hW0]; exact blkAlloc (blkNew rfl) _
    have hb2 : W0.heap[w.heap.size + 1]? = some (.cells #[.int .i64 6, .int .i64 r, .slice (some ⟨b, o, none⟩) 1 cap] 94 (0, 0)) := by rw [← hW0]; exact blkNew (by simp)
    clear hW0
    obtain ⟨x0, x1, x2⟩ := cells3 hb1
    obtain ⟨y0, y1, y2⟩ := cells3 hb2
    have z0 := hK0.cell e0 (fun h => h)
    have z1 := hK0.cell e1 (fun h => h)
    have z2 := hK0.cell e2 (fun h => h)
    clear hb1 hb2 e0 e1 e2 y0
    have hq1 : ¬ 9223372036854775807 < 5 + tr.size := by omega
    have hq2 : ¬ 9223372036854775807 < 5 + tr.size + 1 := by omega
    have hq3 : ¬ 9223372036854775807 < 5 + tr.size + 1 + td.size := by omega
    go_region_held3 (fun w' => w'.cell? ⟨w.heap.size, 0, none⟩ = some (.slice A0 cs.length c0) ∧ w'.cell? ⟨w.heap.size, 1, none⟩ = some (.slice A1 rs.length c1) ∧ w'.cell? ⟨w.heap.size, 2, none⟩ = some v2 ∧
        w'.cell? ⟨w.heap.size + 1, 1, none⟩ = some (.int .i64 r) ∧ w'.cell? ⟨w.heap.size + 1, 2, none⟩ = some (.slice (some ⟨b, o, none⟩) 1 cap) ∧ w'.cell? ⟨b, o, none⟩ = some (.int .i64 d.op) ∧ w'.cell? ⟨b, o + 1, none⟩ = some (.int .i64 d.n) ∧ w'.cell? ⟨b, o + 2, none⟩ = some (.slice A' d.args.length cap') ∧ Keeps (fun _ => False) w w')
      (first
        | exact ⟨x0, x1, x2, y1, y2, z0, z1, z2, hK0⟩
        | exact ⟨x0, x1, x2, y1, y2, z0, z1, z2, hK0.drew⟩
        | go_keep
        | (go_split_ands; refine ⟨?_, ?_, ?_, ?_, ?_, ?_, ?_, ?_, ?_⟩ <;> first | exact hk6.cell (by assumption) (fun h => h) | exact hk5.cell (by assumption) (fun h => h) | exact Keeps.then_ (by assumption) hk6 | exact Keeps.then_ (by assumption) hk5 | exact Keeps.drew (by assumption)))
      (first
        | (go_at_call 252; refine (HROLE.out _ (by first | assumption | exact Keeps.drew (by assumption) | exact hK0)).mono ?_; clear HROLE; rintro e w5 ⟨rfl, hk5⟩)
        | (go_at_call 222; refine (HCALL.out _ (by first | assumption | exact Keeps.drew (by assumption) | exact Keeps.then_ hK0.drew hk5 | exact Keeps.then_ hK0 hk5)).mono ?_; rintro e w6 ⟨rfl, hk6⟩))
    go_wp2_with fail
    go_ret
    exact ⟨by rw [hV.out]; rfl, by first | assumption | exact (Keeps.then_ hK0.drew hk5).then_ hk6⟩
  · have hl1 : args.length = 1 := by unfold arityZ at har; simp at har; omega
    obtain ⟨d, rfl⟩ : ∃ d, args = [d] := List.length_eq_one_iff.1 hl1
    have hn : 0 ≤ n ∧ n < 2 * rs.length := by simpa [nodeOk] using hno
    obtain ⟨r, rfl⟩ := Int.eq_ofNat_of_zero_le hn.1
    have hr2 : r < 2 * rs.length := by omega
    have hV := Lib.hid (show textC cs rs ⟨7, (r : Int), [d]⟩ = ⟨#[97, 108, 108, 32]⟩ ++ roleT rs r ++ ⟨#[32]⟩ ++ textC cs rs d by simp [textC, text1])
    obtain ⟨b, o, rfl, hb, hr⟩ := HR.out (by simp)
    obtain ⟨A', cap', e0, e1, e2, hd⟩ := hr.at_ 0 (by simp)
    simp only [List.getElem_cons_zero, Nat.zero_mul, Nat.add_zero] at e0 e1 e2 hd
    have hbl := World.block_lt_of_cell? w _ e0
    simp only at hbl
    have hbl1 : b < w.heap.size + 1 := by omega
    have HD := Lib.hid hd
    have hs1 : fitC cs.length rs.length d = true := by have := HF.out; simp only [fitL, Bool.and_true] at this; exact this
    simp only [Con.size, Con.sizes] at hN hM
    have hsz := textC_size hcs hrs d
    have hszr := roleT_size hrs r
    have hcall : ∀ W, Keeps (fun _ => False) w W → Calls Tryz.prog 222 #[.agg #[.slice A0 cs.length c0, .slice A1 rs.length c1, v2], .agg #[.int .i64 d.op, .int .i64 d.n, .slice A' d.args.length cap']] W fun e w' => e = .returned (.string (textC cs rs d)) ∧ Keeps (fun _ => False) W w' :=
      fun W hk => IH.out d A' cap' ok W (by omega) (by omega) hs1 (HD.out.keep hk (fun _ _ h => h)) (H0.out.keep hk (fun _ _ h => h)) (H1.out.keep hk (fun _ _ h => h))
    have hrole : ∀ W, Keeps (fun _ => False) w W → Calls Tryz.prog 252 #[.agg #[.slice A0 cs.length c0, .slice A1 rs.length c1, v2], .int .i64 r] W fun e w' => e = .returned (.string (roleT rs r)) ∧ Keeps (fun _ => False) W w' :=
      fun W hk => roleT_calls rs r hr2 hrl hrs ok _ _ A1 c1 W (H1.out.keep hk (fun _ _ h => h))
    have hsz2 : (textC cs rs d).size ≤ 20000000 := by omega
    have HCALL := Lib.hid hcall
    have HROLE := Lib.hid hrole
    generalize textC cs rs d = td at *
    generalize roleT rs r = tr at *
    clear hcall hrole hd hr HF HR HT IH hs1 hcs hrs hsz
    go_enter Tryz.func222, Tryz.ntmps222
    go_wp2_with fail
    generalize hW0 : World.alloc _ _ = W0
    have hK0 : Keeps (fun _ => False) w W0 := by rw [← hW0]; repeat (first | exact Keeps.refl _ _ | refine Keeps.drewN ?_ _ | refine Keeps.drew ?_ | refine Keeps.alloc ?_ _ | refine Keeps.set ?_ (Or.inl (by rfl)) _)
    have hb1 : W0.heap[w.heap.size]? = some (.cells #[.slice A0 cs.length c0, .slice A1 rs.length c1, v2] 24 (0, 0)) := by rw [← hW0]; exact blkAlloc (blkNew rfl) _
    have hb2 : W0.heap[w.heap.size + 1]? = some (.cells #[.int .i64 7, .int .i64 r, .slice (some ⟨b, o, none⟩) 1 cap] 94 (0, 0)) := by rw [← hW0]; exact blkNew (by simp)
    clear hW0
    obtain ⟨x0, x1, x2⟩ := cells3 hb1
    obtain ⟨y0, y1, y2⟩ := cells3 hb2
    have z0 := hK0.cell e0 (fun h => h)
    have z1 := hK0.cell e1 (fun h => h)
    have z2 := hK0.cell e2 (fun h => h)
    clear hb1 hb2 e0 e1 e2 y0
    have hq1 : ¬ 9223372036854775807 < 4 + tr.size := by omega
    have hq2 : ¬ 9223372036854775807 < 4 + tr.size + 1 := by omega
    have hq3 : ¬ 9223372036854775807 < 4 + tr.size + 1 + td.size := by omega
    go_region_held3 (fun w' => w'.cell? ⟨w.heap.size, 0, none⟩ = some (.slice A0 cs.length c0) ∧ w'.cell? ⟨w.heap.size, 1, none⟩ = some (.slice A1 rs.length c1) ∧ w'.cell? ⟨w.heap.size, 2, none⟩ = some v2 ∧
        w'.cell? ⟨w.heap.size + 1, 1, none⟩ = some (.int .i64 r) ∧ w'.cell? ⟨w.heap.size + 1, 2, none⟩ = some (.slice (some ⟨b, o, none⟩) 1 cap) ∧ w'.cell? ⟨b, o, none⟩ = some (.int .i64 d.op) ∧ w'.cell? ⟨b, o + 1, none⟩ = some (.int .i64 d.n) ∧ w'.cell? ⟨b, o + 2, none⟩ = some (.slice A' d.args.length cap') ∧ Keeps (fun _ => False) w w')
      (first
        | exact ⟨x0, x1, x2, y1, y2, z0, z1, z2, hK0⟩
        | exact ⟨x0, x1, x2, y1, y2, z0, z1, z2, hK0.drew⟩
        | go_keep
        | (go_split_ands; refine ⟨?_, ?_, ?_, ?_, ?_, ?_, ?_, ?_, ?_⟩ <;> first | exact hk6.cell (by assumption) (fun h => h) | exact hk5.cell (by assumption) (fun h => h) | exact Keeps.then_ (by assumption) hk6 | exact Keeps.then_ (by assumption) hk5 | exact Keeps.drew (by assumption)))
      (first
        | (go_at_call 252; refine (HROLE.out _ (by first | assumption | exact Keeps.drew (by assumption) | exact hK0)).mono ?_; clear HROLE; rintro e w5 ⟨rfl, hk5⟩)
        | (go_at_call 222; refine (HCALL.out _ (by first | assumption | exact Keeps.drew (by assumption) | exact Keeps.then_ hK0.drew hk5 | exact Keeps.then_ hK0 hk5)).mono ?_; rintro e w6 ⟨rfl, hk6⟩))
    go_wp2_with fail
    go_ret
    exact ⟨by rw [hV.out]; rfl, by first | assumption | exact (Keeps.then_ hK0.drew hk5).then_ hk6⟩
end Go.Proofs.YtknonaboaaiabaaGreatDoor
