/- Rows of pairs: a clone, a search, a sort. -/
import Derived.Test.YtknonaboaaiabaaGreatDoorItp
import Derived.Test.YtknonaboaaiabaaGreatDoorRow
import Derived.Test.YtknonaboaaiabaaGreatDoorCons
import Derived.DeepKeys3
import Derived.WalkSpells
import Derived.WideKeyRuns
import Derived.Test.YtknonaboaaiabaaGreatDoorShelfP
namespace Go.Proofs.YtknonaboaaiabaaGreatDoor
open Go.RowKit
set_option linter.unusedVariables false
set_option linter.unusedSimpArgs false
/-- A pair's two cells. -/
def encP (x : Int × Int) : List Value := [.int .i64 x.1, .int .i64 x.2]
/-- A pair as a value. -/
def valP (x : Int × Int) : Value := .agg #[.int .i64 x.1, .int .i64 x.2]
theorem infoPair : (Tryz.prog.info? 99).map (fun i => (i.zero, i.size, i.bytes)) = some (some (.agg #[.int .i64 0, .int .i64 0]), 2, 16) := by kernel_rfl
theorem part_int (c : Array Value) (o : Nat) (n : Int) (w : World) (h : c[o]? = some (.int .i64 n)) : (part 3 c o).run Tryz.prog w = .ok (.int .i64 n) w := by
  simp [part, run_underlying Tryz.underlying3, h]
theorem equalInt (d : Nat) (a b : Int) (w : World) : (Op.equalIn (d + 1) 3 (.int .i64 a) (.int .i64 b)).run Tryz.prog w = .ok (a == b) w := by
  simp [Op.equalIn, run_underlying Tryz.underlying3]
theorem checkInt (e : Bool) (d : Nat) (a : Int) (w : World) : (Instr.checkKey e (d + 1) 3 (.int .i64 a)).run Tryz.prog w = .ok () w := by
  simp [Instr.checkKey, run_underlying Tryz.underlying3]
theorem equalPair (x a : Int × Int) (w : World) : (Op.equal 99 (valP x) (valP a)).run Tryz.prog w = .ok (decide (a = x)) w := by
  obtain ⟨x1, x2⟩ := x
  obtain ⟨a1, a2⟩ := a
  have hz := Tryz.sizeOf3
  unfold Op.equal valP Op.maxDepth
  rw [show (10000 : Nat) = 9998 + 1 + 1 from rfl]
  unfold Op.equalIn
  have hr : List.range' 0 2 = [0, 1] := rfl
  have he : ∀ (x y : Int), (Op.equalIn 9999 3 (.int .i64 x) (.int .i64 y)).run Tryz.prog w = .ok (decide (y = x)) w := fun x y => by
    have h := equalInt 9998 x y w
    rw [show (x == y) = decide (y = x) by rw [Bool.eq_iff_iff, beq_iff_eq, decide_eq_true_iff]; exact eq_comm] at h
    exact h
  have p0 : ∀ (x y : Int), (part 3 #[.int .i64 x, .int .i64 y] 0).run Tryz.prog w = .ok (.int .i64 x) w := fun x y => part_int _ _ _ _ rfl
  have p1 : ∀ (x y : Int), (part 3 #[.int .i64 x, .int .i64 y] 1).run Tryz.prog w = .ok (.int .i64 y) w := fun x y => part_int _ _ _ _ rfl
  by_cases e1 : a1 = x1 <;> by_cases e2 : a2 = x2
  all_goals
    simp [run_underlying Tryz.underlying99, hz, hr, he, p0, p1, e1, e2]
/-- Pairs as keys. -/
theorem keyPair : KeyTy Tryz.prog 99 valP where
  inj a b h := by
    unfold valP at h
    simp only [Value.agg.injEq, Array.mk.injEq, List.cons.injEq, Value.int.injEq, true_and, and_true] at h
    exact Prod.ext h.1 h.2
  find x es w hes := by
    have ask : ∀ (es : List MapEntry) (i : Nat), (∀ e ∈ es, ∃ a, e.key = valP a) → (Instr.findAsking 99 (valP x) es i).run Tryz.prog w = .ok (findE (valP x) es i) w := by
      intro es
      induction es with
      | nil => intro i _; simp [Instr.findAsking, findE]
      | cons e r ih =>
        intro i h
        obtain ⟨a, ha⟩ := h e (by simp)
        have hr := ih (i + 1) (fun e he => h e (by simp [he]))
        unfold findE
        by_cases e1 : a = x
        · subst e1; simp [Instr.findAsking, ha, equalPair]
        · have e2 : ¬ valP a = valP x := fun h => by
            unfold valP at h
            simp only [Value.agg.injEq, Array.mk.injEq, List.cons.injEq, Value.int.injEq, true_and, and_true] at h
            exact e1 (Prod.ext h.1 h.2)
          simp [Instr.findAsking, ha, equalPair, e1, e2, hr]
    rw [run_findKey_eq w (by rw [Tryz.underlying99]) (valP x) es]
    exact ask es 0 hes
  check e a w := by
    unfold valP
    rw [show (10000 : Nat) = 9998 + 1 + 1 from rfl]
    have hz := Tryz.sizeOf3
    have hc : ∀ n, (Instr.checkKey e (9998 + 1) 3 (.int .i64 n)).run Tryz.prog w = .ok () w := fun n => checkInt e 9998 n w
    unfold Instr.checkKey
    have hr : List.range' 0 2 = [0, 1] := rfl
    have hc' : ∀ n, (Instr.checkKey e 9999 3 (.int .i64 n)).run Tryz.prog w = .ok () w := hc
    have p0 : ∀ (x y : Int), (part 3 #[.int .i64 x, .int .i64 y] 0).run Tryz.prog w = .ok (.int .i64 x) w := fun x y => part_int _ _ _ _ rfl
    have p1 : ∀ (x y : Int), (part 3 #[.int .i64 x, .int .i64 y] 1).run Tryz.prog w = .ok (.int .i64 y) w := fun x y => part_int _ _ _ _ rfl
    simp [run_underlying Tryz.underlying99, hz, hr, hc', p0, p1]
  bits a := by
    have hb : ∀ x : Int, Instr.sameBits 9999 (.int .i64 x) (.int .i64 x) = true := fun x => by simp [Instr.sameBits]
    show (_ == _ && ([(Value.int .i64 a.1, Value.int .i64 a.1), (Value.int .i64 a.2, Value.int .i64 a.2)].all fun (x, y) => Instr.sameBits 9999 x y)) = true
    simp [hb]
/-- A row of pairs of the call's own. -/
def OwnPairs (w : World) (base : Nat) (v : Value) (l : List (Int × Int)) : Prop := w.ownsRow base 99 2 v l.length (l.flatMap encP)
theorem OwnPairs.nil (w : World) (base : Nat) : OwnPairs w base (.slice none 0 0) [] := World.ownsRow_nil _ _ _ _
theorem OwnPairs.keep' {S : Nat → Prop} {w w' : World} {base : Nat} {v : Value} {l : List (Int × Int)} (h : OwnPairs w base v l) (hk : Keeps S w w') (hs : ∀ b, v.ownBlock = some b → ¬ S b) : OwnPairs w' base v l := ownsKeep h hk hs
theorem pairsSrc {ok : Nat → Prop} {w : World} {l : List (Int × Int)} {A : Option Addr} {cap : Nat} (h : PairsR ok w l A) (w' : World) (hk : Keeps (fun _ => False) w w') : Src Tryz.prog 2 100 (.slice A l.length cap) l.length (l.flatMap encP) w' := by
  refine rowSrc (enc := encP) (k := 2) (ok := ok) (fun _ => rfl) (by decide) (fun x u hu => ?_) Tryz.underlying100 (w := w) (fun hl => ?_) w' hk
  · simp only [encP, List.mem_cons, List.not_mem_nil, or_false] at hu
    rcases hu with rfl | rfl <;> rfl
  · obtain ⟨b, o, rfl, hb, hc⟩ := h hl
    refine ⟨b, o, rfl, hb, fun i hi j hj => ?_⟩
    match j, hj with
    | 0, _ => exact (hc i hi).1
    | 1, _ => exact (hc i hi).2
/-- Where its cells lie. -/
theorem OwnPairs.row {w : World} {base : Nat} {v : Value} {l : List (Int × Int)} (h : OwnPairs w base v l) : ∃ A cap, v = .slice A l.length cap ∧ l.length ≤ cap ∧ PairsR (fun b => base ≤ b) w l A := by
  rcases h.2 with ⟨rfl, h0⟩ | ⟨g, cap, cur, rfl, hg, hh, hc, _, _, ht⟩
  · exact ⟨none, 0, by rw [h0], by omega, fun hl => absurd (List.eq_nil_of_length_eq_zero h0) hl⟩
  · refine ⟨_, cap, rfl, hc, fun _ => ⟨g, 0, rfl, hg, fun i hi => ?_⟩⟩
    have at_ : ∀ j, j < 2 → w.cell? ⟨g, 0 + i * 2 + j, none⟩ = (encP l[i])[j]? := fun j hj => by
      rw [blkCell hh, Nat.zero_add, ← flatE_at (k := 2) (fun _ => rfl) l i hi j hj, ← ht, List.getElem?_take_of_lt (by omega)]
      simp
    exact ⟨at_ 0 (by decide), at_ 1 (by decide)⟩
set_option maxRecDepth 100000 in
set_option maxHeartbeats 4000000 in
theorem clonePairs_calls (l : List (Int × Int)) (ok : Nat → Prop) (A : Option Addr) (cap : Nat) (w : World) (hl : PairsR ok w l A) (hlen : l.length ≤ 1000000) :
    Calls Tryz.prog 188 #[.slice A l.length cap] w fun e w' => ∃ v, e = .returned v ∧ OwnPairs w' w.heap.size v l ∧ Keeps (fun _ => False) w w' := by
  have HL := Lib.hid (fun W (hk : Keeps (fun _ => False) w W) => pairsSrc (cap := cap) hl W hk)
  have hn : A = none → l = [] := fun e => by
    by_cases h : l = []
    · exact h
    · obtain ⟨b, o, e2, _⟩ := hl h; rw [e] at e2; cases e2
  have q : ∀ (w : World) (a : Option Addr) (n c n' c' : Nat), (binOp .eql 100 (.slice a n c) (.slice none n' c')).run Tryz.prog w = .ok (.bool a.isNone) w := fun w a n c n' c' => Lib.run_eql_slice_nil w _ _ a n c n' c' Tryz.underlying100
  cases A with
  | none =>
    obtain rfl := hn rfl
    clear hn HL hl
    go_enter Tryz.func188, Tryz.ntmps188
    go_wp2_with fail
    go_ret
    exact ⟨_, rfl, OwnPairs.nil _ _, Keeps.refl _ _⟩
  | some a =>
    clear hn hl
    unfold OwnPairs
    generalize l.flatMap encP = vs at *
    go_enter Tryz.func188, Tryz.ntmps188
    go_wp2_with (at_builtin; refine wp_app rfl _ _ 100 100 rfl w.heap.size 99 (.agg #[.int .i64 0, .int .i64 0]) 2 16 Tryz.underlying100 infoPair rfl (by decide) (by decide) _ 0 [] (World.ownsRow_made w #[] 0 (Nat.le_refl _) (Nat.zero_le _) (by simp)) rfl _ _ _ (HL.out _ ((Keeps.refl _ _).alloc _)) rfl (by omega) (by simp) ?_; intro v' w2 hv2 hk2 _)
    go_ret
    exact ⟨_, rfl, by simpa using hv2, ((Keeps.refl (fun _ => False) w).alloc _).trans hk2 (fun i hi => .inr (by simp [Value.ownBlock] at hi; omega))⟩
/-- What is asked of a predicate on pairs, bound to lb: that it answers as p, wherever what lay in w lies unturned. -/
def AnswersP (g : Nat) (lb : Array Value) (p : Int × Int → Bool) (w : World) : Prop :=
  ∀ (W : World) (x : Int × Int), Keeps (fun _ => False) w W → Calls Tryz.prog g (#[.agg #[.int .i64 x.1, .int .i64 x.2]] ++ lb) W fun e w' => e = .returned (.bool (p x)) ∧ Keeps (fun _ => False) W w'
theorem any_drop {α : Type} (p : α → Bool) {l : List α} {k : Nat} (h : k < l.length) : (l.drop k).any p = (p l[k] || (l.drop (k + 1)).any p) := by
  rw [List.drop_eq_getElem_cons h]; rfl
set_option maxRecDepth 100000 in
set_option maxHeartbeats 4000000 in
theorem indexFuncP_calls (l : List (Int × Int)) (ok : Nat → Prop) (A : Option Addr) (cap : Nat) (w : World) (g : Nat) (lb : Array Value) (p : Int × Int → Bool) (eg : ∀ args w, (callFunc g args).run Tryz.prog w = .ok (.enter g args) w) (hl : PairsR ok w l A) (hlen : l.length ≤ 1000000) (hp : AnswersP g lb p w) :
    Calls Tryz.prog 190 #[.slice A l.length cap, .func (.func g) #[] lb] w fun e w' => (∃ n : Int, e = .returned (.int .i64 n) ∧ decide (0 ≤ n) = l.any p) ∧ Keeps (fun _ => False) w w' := by
  have HL := Lib.hid hl
  have HP := Lib.hid hp
  have HV : Hid (l.any p = (l.drop 0).any p) := by unfold Hid; rfl
  generalize l.any p = rv at *
  clear hl hp
  go_enter Tryz.func190, Tryz.ntmps190
  go_wp2_with fail
  go_loopw [5, 8] (fun _ i wr => ∃ k : Nat, k ≤ l.length ∧ i = .int .i64 k ∧ Hid (rv = (l.drop k).any p) ∧ Hid (Keeps (fun _ => False) w wr)) (fun _ i _ => l.length - (intOf i).toNat)
  case atStart => exact ⟨0, Nat.zero_le _, rfl, HV, Keeps.refl _ _⟩
  case round =>
    obtain ⟨k, hk, rfl, HI, HK⟩ := hrel
    by_cases hlt : k < l.length
    · obtain ⟨b, o, rfl, _, hc⟩ := HL.out.keep HK.out (fun _ _ h => h) (by intro h; subst h; simp at hlt)
      obtain ⟨f0, f1⟩ := hc k hlt
      have HST := Lib.hid (any_drop p hlt)
      have i1 : (k : Int) < l.length := by omega
      generalize l[k] = x at *
      obtain ⟨xa, xb⟩ := x
      dsimp only at f0 f1
      have hcall := HP.out wr (xa, xb) HK.out
      generalize p (xa, xb) = px at *
      dsimp only at hcall
      have HCALL := Lib.hid hcall
      clear hc hcall
      go_wp2_with (go_at_fn g; refine HCALL.out.mono ?_; clear HCALL; rintro e w5 ⟨rfl, hk5⟩; have HK5 := Lib.hid hk5; clear hk5; cases px)
      · have HO : Hid (rv = (l.drop (k + 1)).any p) := by unfold Hid; rw [HI.out, HST.out]; rfl
        go_roundw
        case rel => exact ⟨k + 1, by omega, by go_num, HO, HK.out.then_ HK5.out⟩
        case measure => simp [intOf]; omega
      · have HO : Hid (rv = true) := by unfold Hid; rw [HI.out, HST.out]; rfl
        go_ret
        exact ⟨⟨k, rfl, by rw [HO.out]; exact decide_eq_true (by omega)⟩, HK.out.then_ HK5.out⟩
    · obtain rfl : k = l.length := by omega
      have HO : Hid (rv = false) := by unfold Hid; rw [HI.out, List.drop_length]; rfl
      go_wp2_with fail
      go_ret
      exact ⟨⟨-1, rfl, by rw [HO.out]; rfl⟩, HK.out⟩
theorem containsFuncP_calls (l : List (Int × Int)) (ok : Nat → Prop) (A : Option Addr) (cap : Nat) (w : World) (g : Nat) (lb : Array Value) (p : Int × Int → Bool) (eg : ∀ args w, (callFunc g args).run Tryz.prog w = .ok (.enter g args) w) (hl : PairsR ok w l A) (hlen : l.length ≤ 1000000) (hp : AnswersP g lb p w) :
    Calls Tryz.prog 137 #[.slice A l.length cap, .func (.func g) #[] lb] w fun e w' => e = .returned (.bool (l.any p)) ∧ Keeps (fun _ => False) w w' := by
  have HI := Lib.hid (indexFuncP_calls l ok A cap w g lb p eg hl hlen hp)
  generalize l.any p = rv at *
  clear hl hp
  go_enter Tryz.func137, Tryz.ntmps137
  go_wp2_with (go_at_call 190; refine HI.out.mono ?_; rintro e w' ⟨⟨n, rfl, hn⟩, hk⟩; have HN := Lib.hid hn; have HK := Lib.hid hk; clear hn hk)
  go_ret
  exact ⟨by rw [← HN.out]; rfl, HK.out⟩
def swapP (p : Int × Int) : Int × Int := (p.2, p.1)
/-- p is a pair of the role r. -/
def memR (i : Itp) (r : Nat) (p : Int × Int) : Prop := if r % 2 = 0 then p ∈ i.roles.getD (r / 2) [] else swapP p ∈ i.roles.getD (r / 2) []
end Go.Proofs.YtknonaboaaiabaaGreatDoor
/- interp.Related: the pairs of a role. -/
namespace Go.Proofs.YtknonaboaaiabaaGreatDoor
open Go.RowKit Go.Sort
set_option linter.unusedVariables false
set_option linter.unusedSimpArgs false
/-- Numbers of elements. -/
abbrev PF := Fin 256 × Fin 256
def encF (x : PF) : List Value := [.int .i64 (x.1.val : Int), .int .i64 (x.2.val : Int)]
def ofF (x : PF) : Int × Int := (x.1.val, x.2.val)
def cmpF (x y : PF) : Int := if (x.1.val : Int) = y.1.val then (x.2.val : Int) - y.2.val else (x.1.val : Int) - y.1.val
theorem ltF (x y : PF) : ltOf cmpF x y = (decide (x.1.val < y.1.val) || (decide (x.1.val = y.1.val) && decide (x.2.val < y.2.val))) := by
  unfold ltOf cmpF
  rw [Bool.eq_iff_iff]
  simp only [decide_eq_true_eq, Bool.or_eq_true, Bool.and_eq_true]
  split <;> omega
theorem swoF : SWO (ltOf cmpF) where
  irrefl x := by rw [ltF]; simp
  trans x y z h1 h2 := by rw [ltF] at *; simp only [Bool.or_eq_true, Bool.and_eq_true, decide_eq_true_eq] at *; omega
  ntrans x y z h1 h2 := by rw [ltF] at *; simp only [Bool.or_eq_false_iff, Bool.and_eq_false_iff, decide_eq_false_iff_not] at *; omega
set_option maxRecDepth 100000 in
set_option maxHeartbeats 4000000 in
theorem relCmp (x y : PF) (W : World) : Calls Tryz.prog 189 #[.agg #[.int .i64 (x.1.val : Int), .int .i64 (x.2.val : Int)], .agg #[.int .i64 (y.1.val : Int), .int .i64 (y.2.val : Int)]] W fun e w' => e = .returned (.int .i64 (cmpF x y)) ∧ ∃ q os', w' = grow (W.drewN q) os' := by
  have h1 := x.1.isLt
  have h2 := x.2.isLt
  have h3 := y.1.isLt
  have h4 := y.2.isLt
  have HV : Hid (cmpF x y = if (x.1.val : Int) = y.1.val then (x.2.val : Int) - y.2.val else (x.1.val : Int) - y.1.val) := by unfold Hid; rfl
  generalize cmpF x y = rv at *
  generalize x.1.val = xa at *
  generalize x.2.val = xb at *
  generalize y.1.val = ya at *
  generalize y.2.val = yb at *
  by_cases he : (xa : Int) = ya
  · have HO : Hid (rv = (xb : Int) - yb) := by unfold Hid; rw [HV.out, if_pos he]
    obtain rfl : xa = ya := by omega
    clear HV he
    go_enter Tryz.func189, Tryz.ntmps189
    go_wp2_with fail
    go_ret
    exact ⟨by rw [HO.out]; rfl, 0, _, by rw [alloc_eq_grow, alloc_eq_grow, grow_grow]; rfl⟩
  · have HO : Hid (rv = (xa : Int) - ya) := by unfold Hid; rw [HV.out, if_neg he]
    have hb : decide ((xa : Int) = ya) = false := decide_eq_false he
    clear HV
    go_enter Tryz.func189, Tryz.ntmps189
    go_wp2_with fail
    go_ret
    exact ⟨by rw [HO.out]; rfl, 0, _, by rw [alloc_eq_grow, alloc_eq_grow, grow_grow]; rfl⟩

theorem flatK_list (d : Array PF) : (flatK encF 2 d).toList = (d.toList.map ofF).flatMap encP := by
  have hl : ((d.toList.map ofF).flatMap encP).length = d.size * 2 := by rw [flat_len (k := 2) (fun _ => rfl)]; simp
  refine List.ext_getElem? fun t => ?_
  by_cases ht : t < d.size * 2
  · have h2 : t / 2 < d.size := by omega
    have h3 : t / 2 < (d.toList.map ofF).length := by simpa using h2
    have hx := flatE_at (k := 2) (enc := encP) (fun _ => rfl) (d.toList.map ofF) (t / 2) h3 (t % 2) (by omega)
    rw [show t / 2 * 2 + t % 2 = t by omega] at hx
    rw [hx]
    have hg := get_flatK encF 2 d t ht
    have hs : t < (flatK encF 2 d).size := by rw [size_flatK]; exact ht
    rw [getElem!_pos _ t hs, getElem!_pos d _ h2] at hg
    rw [Array.getElem?_toList, Array.getElem?_eq_getElem hs, hg]
    simp only [List.getElem_map, Array.getElem_toList]
    have hm : t % 2 = 0 ∨ t % 2 = 1 := by omega
    rcases hm with hm | hm <;> rw [hm] <;> rfl
  · rw [List.getElem?_eq_none (by simp; omega), List.getElem?_eq_none (by omega)]
def toF (p : Int × Int) : PF := (⟨p.1.toNat % 256, Nat.mod_lt _ (by decide)⟩, ⟨p.2.toNat % 256, Nat.mod_lt _ (by decide)⟩)
theorem ofF_toF {p : Int × Int} (h : 0 ≤ p.1 ∧ p.1 < 256 ∧ 0 ≤ p.2 ∧ p.2 < 256) : ofF (toF p) = p := by
  unfold ofF toF
  obtain ⟨a, b⟩ := p
  simp only at h
  have e1 : ((a.toNat % 256 : Nat) : Int) = a := by omega
  have e2 : ((b.toNat % 256 : Nat) : Int) = b := by omega
  simp only [e1, e2]
theorem map_ofF {l : List (Int × Int)} (hb : ∀ p ∈ l, 0 ≤ p.1 ∧ p.1 < 256 ∧ 0 ≤ p.2 ∧ p.2 < 256) : (l.map toF).map ofF = l := by
  rw [List.map_map]
  have : ∀ p ∈ l, (ofF ∘ toF) p = p := fun p hp => ofF_toF (hb p hp)
  rw [List.map_congr_left this]; simp
theorem sortPairs_calls (l : List (Int × Int)) (v : Value) (base : Nat) (w : World) (ho : OwnPairs w base v l) (hb : ∀ p ∈ l, 0 ≤ p.1 ∧ p.1 < 256 ∧ 0 ≤ p.2 ∧ p.2 < 256) (hlen : l.length ≤ 1000000) :
    Calls Tryz.prog 165 #[v, .func (.func 189) #[] #[]] w fun e w' => e = .returned (.tuple #[]) ∧ ∃ l' : List (Int × Int), l'.length = l.length ∧ (∀ p, p ∈ l' ↔ p ∈ l) ∧ OwnPairs w' base v l' ∧ Keeps (fun b => v.ownBlock = some b) w w' := by
  have L := Tryz.laysSlF06_f165
  rcases ho.2 with ⟨rfl, h0⟩ | ⟨g, cap, cur, rfl, hg, hh, hc, hcm, hcs, ht⟩
  · obtain rfl : l = [] := List.eq_nil_of_length_eq_zero h0
    refine (AnyF.slices_SortFunc_none { L with } none 0 _ w).mono fun e w' ⟨he, hw⟩ => ?_
    subst hw
    exact ⟨he, [], rfl, fun p => Iff.rfl, ho, Keeps.refl _ _⟩
  · have hd : (l.map toF).toArray.size = l.length := by simp
    have hF : (flatK encF 2 (l.map toF).toArray).toList = l.flatMap encP := by rw [flatK_list, List.toList_toArray, map_ofF hb]
    have hH : HoldsK encF 2 w g 0 (l.map toF).toArray := by
      intro j hj
      have hj2 := hj
      rw [size_flatK, hd] at hj2
      refine ⟨?_, blkFree hh _⟩
      rw [getElem!_pos _ j hj, Nat.zero_add, blkCell hh]
      have h1 : (flatK encF 2 (l.map toF).toArray).toList[j]? = some (flatK encF 2 (l.map toF).toArray)[j] := by rw [Array.getElem?_toList, Array.getElem?_eq_getElem hj]
      rw [hF, ← ht, List.getElem?_take_of_lt (by omega)] at h1
      simpa using h1
    have hcon := AnyQ.slices_SortFunc L 2 Tryz.isAgg99 Tryz.sizeOf99 encF (fun _ => rfl) (fun x v hv => by simp only [encF, List.mem_cons, List.not_mem_nil, or_false] at hv; rcases hv with rfl | rfl <;> rfl) cmpF swoF 189 #[] g 0 cap (l.map toF).toArray w (enters_of Tryz.func189 (by kernel_rfl) rfl) (fun _ _ _ _ x y => relCmp x y _) hH (blkLt hh) (by rw [hd]; omega)
    rw [hd] at hcon
    refine Calls.mono hcon fun e w' ⟨he, d', n, os, hp, _, hw⟩ => ?_
    subst hw
    obtain ⟨p1, _, p3⟩ := hp
    have hds : d'.size = l.length := by rw [p1, hd]
    have p4 : d'.toList.Perm (l.map toF) := by
      rw [Array.extract_eq_self_of_le (by omega), Array.extract_eq_self_of_le (by omega)] at p3
      simpa using p3
    have hz : (flatK encF 2 d').size = l.length * 2 := by rw [size_flatK, hds]
    have hold : ∀ k, k < w.heap.size → k ≠ g → (sortWorldK encF 2 w g 0 n d' os).heap[k]? = w.heap[k]? := fun k hk hn => by
      unfold sortWorldK
      rw [heap_grow_old _ _ (by simpa [putRowK] using hk)]
      unfold putRowK putRow mapBlock
      have : ¬ g = k := fun e => hn e.symm
      simp [Array.getElem?_modify, this]
    have hnew : (sortWorldK encF 2 w g 0 n d' os).heap[g]? = some (.cells (putCells id 0 (flatK encF 2 d') cur) 99 (0, 0)) := by
      unfold sortWorldK
      rw [heap_grow_old _ _ (by simpa [putRowK] using blkLt hh)]
      unfold putRowK putRow mapBlock
      simp [Array.getElem?_modify, hh, onCells]
    refine ⟨he, d'.toList.map ofF, by simp [hds], fun p => ?_, ⟨by rw [flat_len (k := 2) (fun _ => rfl)], .inr ⟨g, cap, _, by simp [hds], hg, hnew, by simpa [hds] using hc, hcm, by simpa [putCells] using hcs, ?_⟩⟩, ⟨rfl, rfl, rfl, by simp [sortWorldK, putRowK], fun k hk hn => hold k hk (fun e => hn (by simp [Value.ownBlock, e]))⟩⟩
    · rw [List.mem_map]
      constructor
      · rintro ⟨x, hx, rfl⟩
        obtain ⟨q, hq, rfl⟩ := List.mem_map.1 (p4.mem_iff.1 hx)
        rw [ofF_toF (hb q hq)]; exact hq
      · intro hq
        exact ⟨toF p, p4.mem_iff.2 (List.mem_map.2 ⟨p, hq, rfl⟩), ofF_toF (hb p hq)⟩
    · rw [← flatK_list]
      refine List.ext_getElem? fun t => ?_
      simp only [List.length_map, Array.length_toList, hds]
      by_cases htl : t < l.length * 2
      · have hcz : t < cur.size := by have := Nat.mul_le_mul_right 2 hc; omega
        rw [List.getElem?_take_of_lt htl, Array.getElem?_toList, Array.getElem?_toList]
        unfold putCells
        rw [Array.getElem?_mapIdx, Array.getElem?_eq_getElem hcz, Option.map_some, if_pos ⟨Nat.zero_le _, by omega⟩, Array.getElem?_eq_getElem (by omega), getElem!_pos _ _ (by omega)]
        simp
      · rw [List.getElem?_eq_none (by simp; omega), List.getElem?_eq_none (by simp [hz]; omega)]
/-- The first k pairs are turned about. -/
def mixP (x : List (Int × Int)) (k : Nat) : List (Int × Int) := (x.take k).map swapP ++ x.drop k
theorem mixP_len (x : List (Int × Int)) (k : Nat) : (mixP x k).length = x.length := by unfold mixP; simp; omega
theorem mixP_at {x : List (Int × Int)} {k : Nat} (h : k < x.length) : (mixP x k)[k]? = some x[k] := by
  unfold mixP
  rw [List.getElem?_append_right (by simp; omega), List.getElem?_drop]
  simp only [List.length_map, List.length_take]
  rw [show k + (k - min k x.length) = k by omega]
  exact List.getElem?_eq_getElem h
theorem mixP_succ {x : List (Int × Int)} {k : Nat} (h : k < x.length) : mixP x (k + 1) = (mixP x k).set k (swapP x[k]) := by
  unfold mixP
  rw [List.set_append_right _ _ (by simp; omega), List.take_succ_eq_append_getElem h, List.map_append, List.append_assoc]
  congr 1
  simp only [List.length_map, List.length_take]
  rw [show k - min k x.length = 0 by omega]
  rw [List.drop_eq_getElem_cons h]
  rfl
theorem OwnPairs.open_ {w : World} {base : Nat} {A : Option Addr} {n cap k : Nat} {x : List (Int × Int)} (h : OwnPairs w base (.slice A n cap) (mixP x k)) (hk : k < x.length) :
    ∃ g cur, A = some ⟨g, 0, none⟩ ∧ base ≤ g ∧ w.heap[g]? = some (.cells cur 99 (0, 0)) ∧ g < w.heap.size ∧ w.cell? ⟨g, k * 2, none⟩ = some (.int .i64 x[k].1) ∧ w.cell? ⟨g, k * 2 + 1, none⟩ = some (.int .i64 x[k].2) := by
  have hl := mixP_len x k
  rcases h.2 with ⟨_, h0⟩ | ⟨g, cap', cur, e, hg, hh, hc, _, _, ht⟩
  · omega
  · simp only [Value.slice.injEq] at e
    have hx := mixP_at hk
    have hk' : k < (mixP x k).length := by omega
    have at_ : ∀ j, j < 2 → w.cell? ⟨g, k * 2 + j, none⟩ = (encP x[k])[j]? := fun j hj => by
      have := flatE_at (k := 2) (enc := encP) (fun _ => rfl) (mixP x k) k hk' j hj
      rw [(List.getElem?_eq_some_iff.1 hx).2] at this
      rw [blkCell hh, ← this, ← ht, List.getElem?_take_of_lt (by omega)]
      simp
    exact ⟨g, cur, e.1, hg, hh, blkLt hh, at_ 0 (by decide), at_ 1 (by decide)⟩
theorem flat_set : ∀ (l : List (Int × Int)) (k : Nat) (a b : Int), k < l.length → ((l.flatMap encP).set (k * 2) (.int .i64 a)).set (k * 2 + 1) (.int .i64 b) = (l.set k (a, b)).flatMap encP
  | x :: l, 0, a, b, _ => by simp [encP]
  | x :: l, k + 1, a, b, h => by
    have ih := flat_set l k a b (by simpa using h)
    rw [show (k + 1) * 2 = k * 2 + 1 + 1 by omega, List.flatMap_cons, List.set_cons_succ, List.flatMap_cons, ← ih]
    simp [encP]
theorem OwnPairs.put {w : World} {base : Nat} {g n cap k : Nat} {l : List (Int × Int)} (h : OwnPairs w base (.slice (some ⟨g, 0, none⟩) n cap) l) (hk : k < l.length) (a b : Int) :
    OwnPairs ((w.setCell ⟨g, k * 2, none⟩ (.int .i64 a)).setCell ⟨g, k * 2 + 1, none⟩ (.int .i64 b)) base (.slice (some ⟨g, 0, none⟩) n cap) (l.set k (a, b)) := by
  rcases h.2 with ⟨e, _⟩ | ⟨g', cap', cur, e, hg, hh, hc, hcm, hcs, ht⟩
  · cases e
  · simp only [Value.slice.injEq, Option.some.injEq, Addr.mk.injEq] at e
    obtain ⟨⟨rfl, _, _⟩, rfl, rfl⟩ := e
    refine ⟨by rw [flat_len (k := 2) (fun _ => rfl)], .inr ⟨g, cap, _, by simp, hg, blkSet (blkSet hh _ _) _ _, by simpa using hc, hcm, by simpa using hcs, ?_⟩⟩
    rw [← flat_set l k a b hk, ← ht]
    simp only [Array.toList_setIfInBounds, List.length_set, List.take_set]
set_option maxRecDepth 100000 in
set_option maxHeartbeats 4000000 in
theorem related_calls (i : Itp) (p : ItpA) (ok : Nat → Prop) (w : World) (r : Nat) (hi : ItpR ok w i p) (hr : r / 2 < i.roles.length) (hb : ∀ x ∈ i.roles[r / 2], 0 ≤ x.1 ∧ x.1 < 256 ∧ 0 ≤ x.2 ∧ x.2 < 256) (hlen : i.roles[r / 2].length ≤ 1000) :
    Calls Tryz.prog 136 #[.agg #[.int .i64 i.size, .slice p.a0 i.cons.length p.c0, .slice p.a1 i.roles.length p.c1, .slice p.a2 i.inds.length p.c2], .int .i64 r] w fun e w' => ∃ l A cap, e = .returned (.slice A l.length cap) ∧ PairsR (fun b => w.heap.size ≤ b) w' l A ∧ l.length ≤ 1000 ∧ (∀ p, p ∈ l ↔ memR i r p) ∧ Keeps (fun _ => False) w w' := by
  obtain ⟨b, o, ha1, hob, hc⟩ := hi.roles (by intro h; rw [h] at hr; simp at hr)
  obtain ⟨B, c, e0, hbc, hcm, hrow⟩ := hc (r / 2) hr
  have hm1 : i.roles.length ≤ 9223372036854775807 := by have h1 := hi.l1; have h2 := hi.m1; simp only [maxLen] at h2; omega
  have HMEM : Hid (∀ p, memR i r p ↔ if r % 2 = 0 then p ∈ i.roles[r / 2] else swapP p ∈ i.roles[r / 2]) := by
    unfold Hid memR; intro p; rw [show i.roles.getD (r / 2) [] = i.roles[r / 2] by simp [List.getD, List.getElem?_eq_getElem hr]]
  obtain ⟨size, cons, roles, inds⟩ := i
  obtain ⟨a0, a1, a2, c0, c1, c2⟩ := p
  dsimp only at ha1 e0 hbc hrow hm1 HMEM hr hb hlen ⊢
  subst ha1
  have hrl : r < 18446744073709551614 := by omega
  have HM := HMEM
  clear hc hi HMEM
  generalize hq : r / 2 = q at *
  generalize roles[q] = x at *
  have e1 : (r : Int) / 2 = (q : Int) := by omega
  have q0 : (q : Int) < roles.length := by omega
  have HROW := Lib.hid hrow
  have HX := Lib.hid hb
  have HCL := Lib.hid (fun W (hk : Keeps (fun _ => False) w W) => clonePairs_calls x ok B c W (hrow.keep hk (fun _ _ h => h)) (by omega))
  have he0b := World.block_lt_of_cell? w _ e0
  clear hrow hb
  go_enter Tryz.func136, Tryz.ntmps136
  go_wp2_with fail
  refine (HCL.out _ (by repeat (first | exact Keeps.refl _ _ | refine Keeps.drewN ?_ _ | refine Keeps.drew ?_ | refine Keeps.alloc ?_ _ | refine Keeps.set ?_ (Or.inl (by rfl)) _))).mono ?_
  clear HCL e0 he0b
  rintro e w1 ⟨v, rfl, hov, hk1⟩
  have hK1 : Keeps (fun _ => False) w w1 := (show Keeps (fun _ => False) w _ from by repeat (first | exact Keeps.refl _ _ | refine Keeps.drewN ?_ _ | refine Keeps.drew ?_ | refine Keeps.alloc ?_ _ | refine Keeps.set ?_ (Or.inl (by rfl)) _)).then_ hk1
  have hov2 : OwnPairs w1 (w.heap.size + 1) v x := by simpa using hov
  clear hov
  have hov := hov2
  clear hov2
  have HK1 := Lib.hid hK1
  have hz1 := hK1.size
  have HOV := Lib.hid hov
  obtain ⟨AV, cV, rfl, hcV, hrV⟩ := hov.row
  have HRV := Lib.hid hrV
  clear hk1 hK1 hov hrV
  by_cases hp : r % 2 = 0
  · have e2 : (r : Int) % 2 = 0 := by omega
    go_wp2_with fail
    go_ret
    refine ⟨x, AV, cV, rfl, fun hl => ?_, hlen, fun p => by rw [HM.out p, if_pos hp], HK1.out⟩
    obtain ⟨b, o, e, hb, hc⟩ := HRV.out hl
    exact ⟨b, o, e, by omega, hc⟩
  · have e2 : (r : Int) % 2 = 1 := by omega
    go_wp2_with fail
    clear e1 e2
    go_loopw [6, 7, 20] (fun _ _ i wr => ∃ k : Nat, k ≤ x.length ∧ i = .int .i64 k ∧ Hid (OwnPairs wr (w.heap.size + 1) (.slice AV x.length cV) (mixP x k)) ∧ Hid (Keeps (fun b => w.heap.size < b) w1 wr)) (fun _ _ i _ => x.length - (intOf i).toNat)
    case atStart => exact ⟨0, Nat.zero_le _, rfl, HOV, Keeps.refl _ _⟩
    case round =>
      obtain ⟨k, hk, rfl, HO, HK⟩ := hrel
      by_cases hlt : k < x.length
      · obtain ⟨g, cur, rfl, hg, hh, hgl, e0, e1⟩ := HO.out.open_ hlt
        have HH := Lib.hid hh
        have hf0 := blkFree hh (k * 2)
        have hf1 := blkFree hh (k * 2 + 1)
        have i1 : (k : Int) < x.length := by omega
        have HS := Lib.hid (mixP_succ hlt)
        generalize x[k] = xx at *
        obtain ⟨xa, xb⟩ := xx
        dsimp only at e0 e1
        clear hh
        go_wp2_with fail
        go_roundw
        case rel => exact ⟨k + 1, by omega, by go_num, by unfold Hid; rw [HS.out]; exact (HO.out.put (by rw [mixP_len]; exact hlt) xb xa).keep' ((Keeps.refl (fun _ => False) _).alloc _) (fun _ _ h => h), (((HK.out.set (Or.inl (by omega)) _).set (Or.inl (by omega)) _).alloc _)⟩
        case measure => simp [intOf]; omega
      · obtain rfl : k = x.length := by omega
        have HO2 : Hid (OwnPairs wr (w.heap.size + 1) (.slice AV x.length cV) (x.map swapP)) := by
          have h := HO.out
          unfold mixP at h
          rw [List.take_length, List.drop_length, List.append_nil] at h
          exact h
        have HSRT := Lib.hid (sortPairs_calls (x.map swapP) _ _ wr HO2.out (fun p hp => by
          obtain ⟨y, hy, rfl⟩ := List.mem_map.1 hp
          have := HX.out y hy
          exact ⟨this.2.2.1, this.2.2.2, this.1, this.2.1⟩) (by simp; omega))
        clear HO HO2 HOV HRV
        go_wp2_with (go_at_call 165; refine HSRT.out.mono ?_; clear HSRT; rintro e w6 ⟨rfl, l', hl', hm', ho', hk'⟩; have HL' := Lib.hid hl'; have HM' := Lib.hid hm'; have HO' := Lib.hid ho'; have HK' := Lib.hid hk'; clear hl' hm' ho' hk')
        go_ret
        have hll : l'.length = x.length := by rw [HL'.out]; simp
        obtain ⟨AW, cW, ew, hcW, hrW⟩ := HO'.out.row
        refine ⟨l', AW, cW, by rw [← ew]; rfl, fun hl => ?_, by omega, fun p => ?_, ?_⟩
        · obtain ⟨b, o, e, hb, hc⟩ := hrW hl
          exact ⟨b, o, e, by omega, hc⟩
        · rw [HM'.out, HM.out, if_neg hp, List.mem_map]
          constructor
          · rintro ⟨y, hy, rfl⟩; exact hy
          · intro hy; exact ⟨_, hy, rfl⟩
        · refine (HK1.out.trans HK.out (fun i hi => .inr (by omega))).trans HK'.out (fun i hi => .inr ?_)
          have hlt := HO'.out.lt i hi
          omega
end Go.Proofs.YtknonaboaaiabaaGreatDoor
