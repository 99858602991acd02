/- One law for every append onto a row of the call's own. -/
import Derived.Test.YthiclhbnggehoaaGreatDoorMem
import Derived.Deep.AppendSrc
import Derived.OwnWalk
import Derived.Test.YthiclhbnggehoaaGreatDoorProg
import Derived.Lib.Hide
import Derived.Maps.OwnOps
namespace Go.Proofs.YthiclhbnggehoaaGreatDoor
open Go.RowKit
set_option linter.unusedVariables false
set_option linter.unusedSimpArgs false
section
variable {P : Program}
theorem addPlain (g j : Nat) : (⟨g, 0, none⟩ : Addr).add j = ⟨g, j, none⟩ := by unfold Addr.add; split <;> simp_all
theorem setMany {g : Nat} {e : TypeId} (vs : List Value) : ∀ (o : Nat) (w : World) (cur : Array Value), w.heap[g]? = some (.cells cur e (0, 0)) → o + vs.length ≤ cur.size →
    ∃ cur', (w.setCells g o vs).heap[g]? = some (.cells cur' e (0, 0)) ∧ cur'.size = cur.size ∧ cur'.toList.take (o + vs.length) = cur.toList.take o ++ vs := by
  induction vs with
  | nil => intro o w cur h _; exact ⟨cur, h, rfl, by simp⟩
  | cons v r ih =>
    intro o w cur h hl
    simp only [List.length_cons] at hl
    obtain ⟨cur', h3, h4, h5⟩ := ih (o + 1) (w.setCell ⟨g, o, none⟩ v) _ (blkSet h o v) (by simp; omega)
    refine ⟨cur', h3, by rw [h4]; simp, ?_⟩
    rw [List.length_cons, show o + (r.length + 1) = o + 1 + r.length by omega, h5, Array.toList_setIfInBounds, List.take_succ_eq_append_getElem (by simp; omega), List.take_set, List.set_eq_of_length_le (by rw [List.length_take]; omega)]
    simp
theorem setMany_same (g : Nat) (vs : List Value) : ∀ (o : Nat) (w : World), (w.setCells g o vs).os = w.os ∧ (w.setCells g o vs).tape = w.tape ∧ (w.setCells g o vs).output = w.output ∧ (w.setCells g o vs).heap.size = w.heap.size ∧ ∀ k, k ≠ g → (w.setCells g o vs).heap[k]? = w.heap[k]? := by
  induction vs with
  | nil => intro o w; exact ⟨rfl, rfl, rfl, rfl, fun _ _ => rfl⟩
  | cons v r ih =>
    intro o w
    obtain ⟨h1, h2, h3, h4, h5⟩ := ih (o + 1) (w.setCell ⟨g, o, none⟩ v)
    exact ⟨h1, h2, h3, by rw [show w.setCells g o (v :: r) = (w.setCell ⟨g, o, none⟩ v).setCells g (o + 1) r from rfl, h4]; simp [World.setCell], fun k hk => (h5 k hk).trans (Below.heap_setCell _ ⟨g, o, none⟩ _ _ hk)⟩
theorem run_app (w : World) (base : Nat) (t tx ty e : TypeId) (i : TypeInfo) (z : Value) (ht : P.underlying t = some (.slice e)) (hi : P.info? e = some i) (hz : i.zero = some z)
    (hzs : z.cells.size = i.size) (hsz : 0 < i.size) (hb0 : 0 < i.bytes) (v : Value) (n : Nat) (xs : List Value) (hown : w.ownsRow base e i.size v n xs) (x : Value) (m : Nat) (news : List Value) (hs : Src P i.size tx x m news w)
    (hbytes : (n + m) * i.bytes ≤ 140737488355328) (hbase : base ≤ w.heap.size) :
    ∃ v' w', (Builtin.append_ #[t, tx] ty #[v, x]).run P w = .ok v' w' ∧ w'.ownsRow base e i.size v' (n + m) (xs ++ news) ∧ w.grownBy w' v.ownBlock ∧ (v'.ownBlock = v.ownBlock ∨ v'.ownBlock = some w.heap.size) := by
  have hle : n + m ≤ 140737488355328 := Nat.le_trans (Nat.le_mul_of_pos_right _ hb0) hbytes
  have h63 : n + m ≤ maxLen := by simp only [maxLen]; omega
  have hlen : (xs ++ news).length = (n + m) * i.size := by rw [List.length_append, hown.1, hs.newsLen, Nat.add_mul]
  have grow : ∀ (A : Option Addr) (cap : Nat), cap < n + m → (Builtin.firstCells i.size n (.slice A n cap)).run P w.drew = .ok xs.toArray w.drew →
      ∃ v' w', (Builtin.append_ #[t, tx] ty #[.slice A n cap, x]).run P w = .ok v' w' ∧ w'.ownsRow base e i.size v' (n + m) (xs ++ news) ∧ w.grownBy w' (Value.slice A n cap).ownBlock ∧ (v'.ownBlock = (Value.slice A n cap).ownBlock ∨ v'.ownBlock = some w.heap.size) := by
    intro A cap hcap hfo
    have hge := grownCap_ge w (n + m) cap e
    have hcm : grownCap w (n + m) cap e ≤ maxLen := grownCap_le_maxLen w (n + m) cap e h63
    have hfit := growslice_fits hcap hbytes
    have hr := run_append_grow_src (P := P) w t tx ty e i z ht hi hz A n cap xs hfo x m news hs hcap (by omega) (by omega)
    refine ⟨_, _, hr, ⟨hlen, .inr ⟨w.heap.size, _, _, rfl, hbase, heap_alloc_new w.drew _, hge, hcm, ?_, ?_⟩⟩, ⟨rfl, rfl, rfl, by simp, fun k hk _ => heap_alloc_old w.drew _ hk⟩, Or.inr rfl⟩
    · simp only [Array.size_append, List.size_toArray, size_zeroCells, hzs, hlen, ← Nat.add_mul]
      congr 1
      omega
    · simp only [Array.toList_append]
      rw [← hlen]
      exact List.take_left
  rcases hown.2 with ⟨rfl, rfl⟩ | ⟨g, cap, cur, rfl, hbg, hg, hnc, hcm, hcs, htake⟩
  · have hx : xs = [] := List.eq_nil_of_length_eq_zero (by simpa using hown.1)
    subst hx
    by_cases hm : m = 0
    · subst hm
      have hnl : news = [] := List.eq_nil_of_length_eq_zero (by simpa using hs.newsLen)
      subst hnl
      refine ⟨.slice none 0 0, w, ?_, World.ownsRow_nil w base e i.size, ⟨rfl, rfl, rfl, Nat.le_refl _, fun _ _ _ => rfl⟩, Or.inl rfl⟩
      rcases hs.kind with ⟨e', hk⟩ | hk <;> simp [Builtin.append_, run_underlying ht, run_underlying hk, sizeOf, typeInfo, hi, hs.len, hs.cells]
    · exact grow none 0 (by omega) (by simp [Builtin.firstCells])
  · by_cases hroom : n + m ≤ cap
    · have hfit : n * i.size + news.length ≤ cur.size := by rw [hs.newsLen, hcs, ← Nat.add_mul]; exact Nat.mul_le_mul_right _ hroom
      obtain ⟨cur', h3, h4, h5⟩ := setMany news (n * i.size) w cur hg hfit
      obtain ⟨s1, s2, s3, s4, s5⟩ := setMany_same g news (n * i.size) w
      have hr := run_append_room_src (P := P) w t tx ty e i ht hi g 0 n cap x m news hs hroom (fun j hj => by rw [cell_of_row w g _ cur e (0, 0) hg]; simp; omega) (fun j _ => blkFree hg _)
      rw [Nat.zero_add] at hr
      refine ⟨_, _, hr, ⟨hlen, .inr ⟨g, cap, cur', rfl, hbg, h3, hroom, hcm, by rw [h4, hcs], ?_⟩⟩, ⟨s1, s2, s3, by rw [s4]; exact Nat.le_refl _, fun k _ hk => s5 k (fun e => hk (by simp [Value.ownBlock, e]))⟩, Or.inl rfl⟩
      rw [Nat.add_mul, ← hs.newsLen, h5, htake]
    · have holds : ∀ j u, xs[j]? = some u → w.cell? ((⟨g, 0, none⟩ : Addr).add j) = some u := hown.cells (g := g) rfl
      exact grow (some ⟨g, 0, none⟩) cap (by omega) (run_firstCells_some (P := P) w.drew i.size n _ n cap xs hown.1 (by simpa using holds))
variable {ops : Array Oper} {rest : List Oper} {o : Oper} {a : Act} {Q : Exit → Act → World → Prop}
/-- append(v, x..), v a row of the call's own. -/
theorem wp_app {w : World} (hgd : Region.wanted o (yielded ops a.tmps) = true) (s x : Operand) (t tx : TypeId) (ho : o.op = .call { callee := .builtin .append, args := #[s, x], argTypes := #[t, tx] })
    (base e : Nat) (z : Value) (size bytes : Nat) (ht : P.underlying t = some (.slice e)) (hinfo : (P.info? e).map (fun i => (i.zero, i.size, i.bytes)) = some (some z, size, bytes))
    (hzs : z.cells.size = size) (hsz : 0 < size) (hb0 : 0 < bytes) (v : Value) (n : Nat) (xs : List Value) (hown : w.ownsRow base e size v n xs) (hs : a.eval s = v) (xv : Value) (m : Nat) (news : List Value)
    (hsrc : Src P size tx xv m news w) (hx : a.eval x = xv) (hbytes : (n + m) * bytes ≤ 140737488355328) (hbase : base ≤ w.heap.size)
    (h : ∀ v' w', w'.ownsRow base e size v' (n + m) (xs ++ news) → Keeps (fun k => v.ownBlock = some k) w w' → (v'.ownBlock = v.ownBlock ∨ v'.ownBlock = some w.heap.size) → wpList P ops Q rest (a.put o.dst v') w') : wpList P ops Q (o :: rest) a w := by
  obtain ⟨i, hi, hz, hsize, hby⟩ := info_parts hinfo
  subst hsize; subst hby
  obtain ⟨v1, w1, hr1, h1, hg, hat⟩ := run_app (P := P) w base t tx o.type e i z ht hi hz hzs hsz hb0 v n xs hown xv m news hsrc hbytes hbase
  refine wpList_step fun K hK => ?_
  rw [if_pos hgd]
  unfold Oper.wp execOp
  simp only [ho, resolve, invoke, builtin, Sem.run_bind, Sem.run_pure, Result.andThen_ok, List.map_toArray, List.map_cons, List.map_nil, hs, hx, hr1]
  exact hK _ _ (h v1 w1 h1 ⟨hg.os, hg.tape, hg.output, hg.size, fun k hk hn => hg.block k hk (fun e => hn e.symm)⟩ hat)
/-- append(nil, make([]T, m)...) -/
theorem wp_zeros_nil {w : World} (hgd : Region.wanted o (yielded ops a.tmps) = true) (s x : Operand) (t ti : TypeId) {k : IntKind} (ho : o.op = .call { callee := .builtin .append, args := #[s, x], argTypes := #[t, ti] }) (hti : P.underlying ti = some (.int k))
    (e : Nat) (z : Value) (size bytes : Nat) (ht : P.underlying t = some (.slice e)) (hinfo : (P.info? e).map (fun i => (i.zero, i.size, i.bytes)) = some (some z, size, bytes))
    (hzs : z.cells.size = size) (hsz : 0 < size) (hb0 : 0 < bytes) (hs : a.eval s = .slice none 0 0) (m : Nat) (hm : 0 < m) (hx : a.eval x = .int .i64 m) (hbytes : m * bytes ≤ 140737488355328)
    (h : ∀ c cs w', m ≤ c → c ≤ maxLen → cs.size = c * size → w' = w.drew.alloc (.cells cs e) → wpList P ops Q rest (a.put o.dst (.slice (some ⟨w.heap.size, 0, none⟩) m c)) w') : wpList P ops Q (o :: rest) a w := by
  obtain ⟨i, hi, hz, hsize, hby⟩ := info_parts hinfo
  subst hsize; subst hby
  have hle : m ≤ 140737488355328 := Nat.le_trans (Nat.le_mul_of_pos_right _ hb0) hbytes
  have hw : IntKind.i64.wrap (m : Int) = m := by rw [IntKind.wrap_i64]; omega
  have hneg : ¬ ((m : Int) < 0) := by omega
  have hbig : ¬ (281474976710656 < (m : Int) * (i.bytes : Int)) := by rw [← Int.natCast_mul]; omega
  have hfit := growslice_fits (old := 0) (need := m) (by omega) hbytes
  have h48' : ¬ (281474976710656 < Builtin.nextslicecap m 0 * i.bytes) := by omega
  have hmz : ¬ (m * i.size = 0) := Nat.mul_ne_zero (by omega) (by omega)
  have hm0 : ¬ (m = 0) := by omega
  have h63' : ¬ (9223372036854775807 < (m : Int)) := by omega
  have hr1 : (Builtin.append_ #[t, ti] o.type #[.slice none 0 0, .int .i64 m]).run P w = .ok (.slice (some ⟨w.heap.size, 0, none⟩) m (grownCap w m 0 e)) (w.drew.alloc (.cells (Builtin.zeroCells z.cells m ++ Builtin.zeroCells z.cells (grownCap w m 0 e - m)) e)) := by
    simp [Builtin.append_, run_underlying ht, run_underlying hti, sizeOf, typeInfo, zeroValue, hi, hz, asInt, asIntOf, hw, hneg, hbig, h63', h48', Question.forced, Builtin.firstCells, newRow, grownCap, hmz, hm0]
  have hge := grownCap_ge w m 0 e
  refine wpList_step fun K hK => ?_
  rw [if_pos hgd]
  unfold Oper.wp execOp
  simp only [ho, resolve, invoke, builtin, Sem.run_bind, Sem.run_pure, Result.andThen_ok, List.map_toArray, List.map_cons, List.map_nil, hs, hx, hr1]
  exact hK _ _ (h _ _ _ hge (grownCap_le_maxLen w m 0 e (by simp only [maxLen]; omega)) (by simp only [Array.size_append, size_zeroCells, hzs, ← Nat.add_mul]; congr 1; omega) rfl)
end
end Go.Proofs.YthiclhbnggehoaaGreatDoor
/- What slices.Grow (of nil) and slices.Concat compute, at strings. -/
namespace Go.Proofs.YthiclhbnggehoaaGreatDoor
open Go.RowKit
set_option linter.unusedVariables false
set_option linter.unusedSimpArgs false
theorem infoStr : (Tryz.prog.info? 9).map (fun i => (i.zero, i.size, i.bytes)) = some (some (.string ⟨#[]⟩), 1, 16) := by kernel_rfl
set_option maxRecDepth 100000 in
set_option maxHeartbeats 4000000 in
theorem grow_calls (m : Nat) (w : World) (hm : m ≤ 100000) : Calls Tryz.prog 106 #[.slice none 0 0, .int .i64 m] w fun e w' => ∃ v, e = .returned v ∧ w'.ownsRow w.heap.size 9 1 v 0 [] ∧ Keeps (fun _ => False) w w' := by
  by_cases h0 : m = 0
  · subst h0
    go_enter Tryz.func106, Tryz.ntmps106
    go_wp2
    go_ret
    exact ⟨_, rfl, World.ownsRow_nil _ _ _ _, Keeps.refl _ _⟩
  · have h1 : 0 < m := by omega
    have h2 : (0 : Int) < m := by omega
    have HU := Lib.hid Tryz.underlying3
    go_enter Tryz.func106, Tryz.ntmps106
    go_wp2_with (at_builtin; refine wp_zeros_nil rfl _ _ 22 3 rfl Tryz.underlying3 9 (.string ⟨#[]⟩) 1 16 Tryz.underlying22 infoStr rfl (by decide) (by decide) rfl m h1 rfl (by omega) ?_; intro c cs w' hc1 hc2 hc3 hw')
    go_ret
    exact ⟨_, rfl, (World.ownsRow_made w cs c (Nat.le_refl _) hc2 (by simpa using hc3)).drew, ((Keeps.refl _ _).alloc _).drew⟩
/-- Cells that hold slices of strings. -/
def RowsS (ok : Nat → Prop) (w : World) (L : List (List ByteArray)) (b o : Nat) : Prop :=
  ∀ i (h : i < L.length), ∃ A c, w.cell? ⟨b, o + i, none⟩ = some (.slice A L[i].length c) ∧ L[i].length ≤ c ∧ Row1 ok w Value.string L[i] A
theorem RowsS.keep {ok S : Nat → Prop} {w w' : World} {L : List (List ByteArray)} {b o : Nat} (h : RowsS ok w L b o) (hk : Keeps S w w') (hs : ∀ k, ok k → ¬ S k) (hb : ¬ S b) : RowsS ok w' L b o := fun i hi => by
  obtain ⟨A, c, h1, h2, h3⟩ := h i hi
  exact ⟨A, c, hk.cell h1 hb, h2, h3.keep hk hs⟩
theorem take_flat {α : Type} (L : List (List α)) (k : Nat) (h : k < L.length) : (L.take (k + 1)).flatten = (L.take k).flatten ++ L[k] := by
  rw [List.take_succ_eq_append_getElem h, List.flatten_append]; simp
theorem take_flat_le {α : Type} (L : List (List α)) (k : Nat) : (L.take k).flatten.length ≤ L.flatten.length := by
  have : L.flatten.length = ((L.take k).flatten ++ (L.drop k).flatten).length := by rw [← List.flatten_append, List.take_append_drop]
  rw [this, List.length_append]; omega
/-- How many strings the first k lists hold. -/
def flatLen {α : Type} (L : List (List α)) (k : Nat) : Nat := (L.take k).flatten.length
theorem flatLen_succ {α : Type} (L : List (List α)) (k : Nat) (h : k < L.length) : flatLen L (k + 1) = flatLen L k + L[k].length := by unfold flatLen; rw [take_flat L k h, List.length_append]
theorem flatLen_le {α : Type} (L : List (List α)) (k : Nat) : flatLen L k ≤ L.flatten.length := take_flat_le L k
set_option maxRecDepth 100000 in
set_option maxHeartbeats 4000000 in
theorem concat_calls (L : List (List ByteArray)) (ok : Nat → Prop) (b c : Nat) (w : World) (hL : L.length ≤ 100000) (hn : L.flatten.length ≤ 100000) (hr : RowsS ok w L b 0) (h0 : 0 < L.length) :
    Calls Tryz.prog 100 #[.slice (some ⟨b, 0, none⟩) L.length c] w fun e w' => ∃ v, e = .returned v ∧ w'.ownsRow w.heap.size 9 1 v L.flatten.length (L.flatten.map Value.string) ∧ Keeps (fun _ => False) w w' := by
  have HR := Lib.hid hr
  clear hr
  go_enter Tryz.func100, Tryz.ntmps100
  go_wp2_with fail
  go_loop [3, 11] (fun s i => ∃ k : Nat, k ≤ L.length ∧ i = .int .i64 k ∧ s = .int .i64 (flatLen L k : Nat)) (fun _ i => L.length - (intOf i).toNat)
  case atStart => exact ⟨0, Nat.zero_le _, rfl, by simp [flatLen]⟩
  case round =>
    obtain ⟨k, hk, rfl, rfl⟩ := hrel
    by_cases hlt : k < L.length
    · obtain ⟨A, cp, e0, e1, e2⟩ := HR.out k hlt
      rw [Nat.zero_add] at e0
      have hs := Lib.hid (flatLen_succ L k hlt)
      have hle := flatLen_le L (k + 1)
      rw [flatLen_succ L k hlt] at hle
      have E2 := Lib.hid e2
      clear e2
      go_wp2_with fail
      go_round
      case rel => exact ⟨k + 1, by omega, by go_num, by rw [hs.out]; go_num⟩
      case measure => simp [intOf]; omega
    · obtain rfl : k = L.length := by omega
      clear hlt
      have hfl := flatLen_le L L.length
      go_wp2_with (go_at_call 106; refine (grow_calls _ _ (by omega)).mono ?_; rintro e w1 ⟨v, rfl, hv, hk1⟩; have HV := Lib.hid hv; clear hv)
      go_loopw [6, 27] (fun v i wr => ∃ k : Nat, k ≤ L.length ∧ i = .int .i64 k ∧ Hid (wr.ownsRow w.heap.size 9 1 v (flatLen L k) ((L.take k).flatten.map Value.string)) ∧ Keeps (fun _ => False) w wr) (fun _ i _ => L.length - (intOf i).toNat)
      case atStart => exact ⟨0, Nat.zero_le _, rfl, HV, hk1⟩
      case round =>
        obtain ⟨k, hk, rfl, HO, HK⟩ := hrel
        by_cases hlt : k < L.length
        · obtain ⟨A, cp, e0, e1, e2⟩ := (HR.out.keep HK (fun _ _ h => h) (fun h => h)) k hlt
          rw [Nat.zero_add] at e0
          have hs := Lib.hid (take_flat L k hlt)
          have hs2 := Lib.hid (flatLen_succ L k hlt)
          have hle := flatLen_le L (k + 1)
          rw [flatLen_succ L k hlt] at hle
          have E2 := Lib.hid e2
          clear e2
          have hsrc : Hid (Src Tryz.prog 1 22 (.slice A L[k].length cp) L[k].length (L[k].map Value.string) wr) := by
            by_cases hnil : L[k] = []
            · rw [hnil]
              cases A with
              | none => exact Src.ofNil wr Tryz.underlying22 cp
              | some a => exact Src.ofSlice wr Tryz.underlying22 a _ _ [] (by simp) (by simp) (by simp)
            · obtain ⟨b1, o1, rfl, _, hc⟩ := E2.out hnil
              refine Src.ofSlice wr Tryz.underlying22 _ _ _ _ (by simp) (fun j u hu => ?_) (by simp [Value.oneCell'])
              simp only [List.getElem?_map, Option.map_eq_some_iff] at hu
              obtain ⟨x, hx, rfl⟩ := hu
              obtain ⟨hj, rfl⟩ := List.getElem?_eq_some_iff.1 hx
              rw [show ((⟨b1, o1, none⟩ : Addr).add j) = ⟨b1, o1 + j, none⟩ by unfold Addr.add; split <;> simp_all]
              exact hc j hj
          have hsz := HK.size
          go_wp2_with (at_builtin; refine wp_app rfl _ _ 22 22 rfl w.heap.size 9 (.string ⟨#[]⟩) 1 16 Tryz.underlying22 infoStr rfl (by decide) (by decide) _ _ _ HO.out rfl _ _ _ hsrc.out rfl (by omega) hsz ?_; intro v' w2 hv2 hk2 _)
          go_roundw
          case rel => exact ⟨k + 1, by omega, by go_num, by unfold Hid; rw [hs.out, hs2.out, List.map_append]; exact hv2, HK.trans hk2 (fun i hi => .inr (HO.out.lt i hi).1)⟩
          case measure => simp [intOf]; omega
        · obtain rfl : k = L.length := by omega
          go_wp2_with fail
          go_ret
          exact ⟨_, rfl, by have := HO.out; unfold flatLen at this; rw [List.take_length] at this; exact this, HK⟩
end Go.Proofs.YthiclhbnggehoaaGreatDoor
/- Maps of the call's own, as lists of pairs in the order in which the keys came. -/
namespace Go.Proofs.YthiclhbnggehoaaGreatDoor
open Go.RowKit
set_option linter.unusedVariables false
set_option linter.unusedSimpArgs false
set_option linter.unusedSectionVars false
open Classical in
/-- The first entry with a key. -/
noncomputable def findE (x : Value) : List MapEntry → Nat → Option (Nat × Value)
  | [], _ => none
  | e :: r, i => if e.key = x then some (i, e.val) else findE x r (i + 1)
/-- How keys of a kind are written, and that the model tells them apart. -/
structure KeyTy (P : Program) (k : TypeId) {κ : Type} [DecidableEq κ] (ek : κ → Value) : Prop where
  inj : ∀ a b, ek a = ek b → a = b
  find : ∀ (x : κ) (es : List MapEntry) (w : World), (∀ e ∈ es, ∃ a, e.key = ek a) → (Instr.findKey k (ek x) es).run P w = .ok (findE (ek x) es 0) w
  check : ∀ (e : Bool) (a : κ) (w : World), (Instr.checkKey e 10000 k (ek a)).run P w = .ok () w
  bits : ∀ a, Instr.sameBits 10000 (ek a) (ek a) = true
theorem KeyTy.ofNow {P : Program} {k : TypeId} {κ : Type} [DecidableEq κ] {ek : κ → Value} (same : ∃ d, P.underlying k = some d ∧ ∀ a b, Instr.sameNow d (ek a) (ek b) = some (decide (a = b)))
    (check : ∀ (e : Bool) (a : κ) (w : World), (Instr.checkKey e 10000 k (ek a)).run P w = .ok () w) (bits : ∀ a, Instr.sameBits 10000 (ek a) (ek a) = true) : KeyTy P k ek := by
  obtain ⟨d, hd, hs⟩ := same
  have inj : ∀ a b, ek a = ek b → a = b := fun a b h => by
    have h1 := hs a b
    rw [← h, hs a a] at h1
    simpa using h1.symm
  refine ⟨inj, fun x es w hes => ?_, check, bits⟩
  have : ∀ (es : List MapEntry) (i : Nat), (∀ e ∈ es, ∃ a, e.key = ek a) → Instr.findNow d (ek x) es i = some (findE (ek x) es i) := by
    intro es
    induction es with
    | nil => intro i _; rfl
    | cons e r ih =>
      intro i h
      obtain ⟨a, ha⟩ := h e (by simp)
      unfold Instr.findNow findE
      rw [ha, hs x a]
      by_cases e1 : x = a
      · subst e1; simp
      · have e2 : ¬ ek a = ek x := fun h => e1 (inj _ _ h).symm
        simp only [e1, e2, decide_false, if_false]
        exact ih (i + 1) (fun e he => h e (by simp [he]))
  simp [Instr.findKey, run_underlying hd, this es 0 hes]
theorem beqBytes (a b : ByteArray) : (a == b) = decide (a = b) := by
  have h : (a == b) = (a.data == b.data) := rfl
  rw [h, Bool.eq_iff_iff, decide_eq_true_iff, beq_iff_eq]
  exact ⟨ByteArray.ext, fun h => by rw [h]⟩
theorem keyStr {P : Program} {k : TypeId} (h : P.underlying k = some .string) : KeyTy P k Value.string :=
  .ofNow ⟨_, h, fun a b => by simp only [Instr.sameNow, beqBytes]⟩ (fun e a w => MapKept.run_checkKey (k := .string a) h trivial e 9999) (fun a => by show (a == a) = true; rw [beqBytes]; simp)
theorem keyInt {P : Program} {k : TypeId} (h : P.underlying k = some (.int .i64)) : KeyTy P k (Value.int .i64) :=
  .ofNow ⟨_, h, fun a b => by simp only [Instr.sameNow, if_true]; congr 1⟩ (fun e a w => MapKept.run_checkKey (k := .int .i64 a) h rfl e 9999) (fun a => by simp [Instr.sameBits])
variable {κ ν : Type} [DecidableEq κ]
/-- What a list of pairs holds for a key. -/
def findL (l : List (κ × ν)) (k : κ) : Option ν := (l.find? fun p => decide (p.1 = k)).map (·.2)
/-- A store: in place, or behind all others. -/
def putL : List (κ × ν) → κ → ν → List (κ × ν)
  | [], k, v => [(k, v)]
  | p :: r, k, v => if p.1 = k then (k, v) :: r else p :: putL r k v
def MapL (w : World) (b : Nat) (ek : κ → Value) (ev : ν → Value) (l : List (κ × ν)) : Prop :=
  ∃ es clock, w.heap[b]? = some (.map es clock) ∧ es.toList.map (fun e => (e.key, e.val)) = l.map (fun p => (ek p.1, ev p.2)) ∧ (es.toList.map (·.born)).Pairwise (· ≠ ·) ∧ (∀ e ∈ es.toList, e.born < clock) ∧ (l.map (·.1)).Nodup
variable {P : Program} {k : TypeId} {ek : κ → Value} {ev : ν → Value}
theorem MapL.keep {S : Nat → Prop} {w w' : World} {b : Nat} {l : List (κ × ν)} (h : MapL w b ek ev l) (hk : Keeps S w w') (hs : ¬ S b) : MapL w' b ek ev l := by
  obtain ⟨es, c, h1, h2⟩ := h; exact ⟨es, c, hk.blk h1 hs, h2⟩
theorem MapL.lt {w : World} {b : Nat} {l : List (κ × ν)} (h : MapL w b ek ev l) : b < w.heap.size := by
  obtain ⟨es, c, h1, h2⟩ := h; exact blkLt h1
theorem MapL.made (w : World) : MapL (w.alloc (.map #[] 0)) w.heap.size ek ev ([] : List (κ × ν)) :=
  ⟨#[], 0, heap_alloc_new w _, by simp, by simp, by simp, by simp⟩
theorem findE_eq (inj : ∀ a b, ek a = ek b → a = b) (x : κ) : ∀ (es : List MapEntry) (l : List (κ × ν)) (i : Nat), es.map (fun e => (e.key, e.val)) = l.map (fun p => (ek p.1, ev p.2)) →
    (∃ v j, findL l x = some v ∧ findE (ek x) es i = some (i + j, ev v) ∧ (∀ w, (es.set j w).map (fun e => (e.key, e.val)) = (l.map (fun p => (ek p.1, ev p.2))).set j (w.key, w.val)) ∧ (∀ u, putL l x u = l.set j (x, u)) ∧ (l[j]?).map (·.1) = some x ∧ j < es.length) ∨
    (findL l x = none ∧ findE (ek x) es i = none ∧ (∀ u, putL l x u = l ++ [(x, u)]) ∧ x ∉ l.map (·.1))
  | [], [], i, _ => .inr ⟨rfl, rfl, fun _ => rfl, by simp⟩
  | [], _ :: _, _, h => by simp at h
  | _ :: _, [], _, h => by simp at h
  | e :: es, p :: l, i, h => by
    simp only [List.map_cons, List.cons.injEq, Prod.mk.injEq] at h
    obtain ⟨⟨h1, h2⟩, h3⟩ := h
    unfold findE
    rw [h1]
    by_cases hx : x = p.1
    · left
      refine ⟨p.2, 0, by simp [findL, hx], by simp [hx, h2], fun w => by simp [h3], fun u => by simp [putL, hx], by simp [hx], by simp⟩
    · have hx' : ¬ p.1 = x := fun e => hx e.symm
      have hx2 : ¬ ek p.1 = ek x := fun e => hx' (inj _ _ e)
      rw [if_neg hx2]
      rcases findE_eq inj x es l (i + 1) h3 with ⟨v, j, g1, g2, g3, g4, g5, g6⟩ | ⟨g1, g2, g3, g4⟩
      · left
        refine ⟨v, j + 1, by simpa [findL, hx'] using g1, by rw [g2]; congr 2; omega, fun w => by simp [h1, h2, g3], fun u => by simp [putL, hx', g4], by simpa using g5, by simpa using g6⟩
      · right
        exact ⟨by simpa [findL, hx'] using g1, g2, fun u => by simp [putL, hx', g3], by simpa [hx] using g4⟩
theorem keysOf {es : List MapEntry} {l : List (κ × ν)} (h : es.map (fun e => (e.key, e.val)) = l.map (fun p => (ek p.1, ev p.2))) : ∀ e ∈ es, ∃ a, e.key = ek a := fun e he => by
  have : (e.key, e.val) ∈ es.map (fun e => (e.key, e.val)) := List.mem_map.2 ⟨e, he, rfl⟩
  rw [h] at this
  obtain ⟨p, _, hp⟩ := List.mem_map.1 this
  simp only [Prod.mk.injEq] at hp
  exact ⟨p.1, hp.1.symm⟩
/-- 'm[x]': the world stays. -/
theorem MapL.look {w : World} {b : Nat} {l : List (κ × ν)} {t e : TypeId} (h : MapL w b ek ev l) (K : KeyTy P k ek) (ht : P.underlying t = some (.map k e)) {z : Value} (hz : (zeroValue e).run P w = .ok z w) (x : κ) (ok : Bool) :
    (Instr.lookup t (.map (some b)) (ek x) ok).run P w = .ok (if ok then .tuple #[((findL l x).map ev).getD z, .bool (findL l x).isSome] else ((findL l x).map ev).getD z) w := by
  obtain ⟨es, c, h1, h2, _⟩ := h
  have hf := K.find x es.toList w (keysOf h2)
  rcases findE_eq (ev := ev) K.inj x es.toList l 0 h2 with ⟨v, j, g1, g2, _⟩ | ⟨g1, g2, _⟩ <;> rw [g2] at hf <;>
    cases ok <;> simp [Instr.lookup, run_underlying ht, MapKept.run_getObj_map h1, K.check, hf, g1, hz]
theorem setL_map {α β : Type} (f : α → β) (l : List α) (j : Nat) (x : α) : (l.set j x).map f = (l.map f).set j (f x) := List.map_set
theorem putL_nodup {l : List (κ × ν)} {x : κ} {u : ν} (h : (l.map (·.1)).Nodup) : ((putL l x u).map (·.1)).Nodup ∧ ∀ y, y ∈ (putL l x u).map (·.1) ↔ y = x ∨ y ∈ l.map (·.1) := by
  induction l with
  | nil => simp [putL]
  | cons p r ih =>
    simp only [List.map_cons, List.nodup_cons] at h
    obtain ⟨h1, h2⟩ := ih h.2
    unfold putL
    split
    · rename_i e
      subst e
      exact ⟨by simpa using h, by simp⟩
    · rename_i e
      refine ⟨?_, fun y => ?_⟩
      · simp only [List.map_cons, List.nodup_cons]
        exact ⟨fun hm => by rcases (h2 _).1 hm with h | h' <;> simp_all, h1⟩
      · simp only [List.map_cons, List.mem_cons, h2]
        constructor
        · rintro (h | h | h) <;> simp [h]
        · rintro (h | h | h) <;> simp [h]
/-- 'm[x] = v' -/
theorem MapL.put {w : World} {b : Nat} {l : List (κ × ν)} {t e : TypeId} (h : MapL w b ek ev l) (K : KeyTy P k ek) (ht : P.underlying t = some (.map k e)) (x : κ) (v : ν) :
    ∃ w', (Instr.mapUpdate t (.map (some b)) (ek x) (ev v)).run P w = .ok () w' ∧ MapL w' b ek ev (putL l x v) ∧ Keeps (fun i => i = b) w w' ∧ w'.heap.size = w.heap.size := by
  obtain ⟨es, c, h1, h2, h3, h4, h5⟩ := h
  have hf := K.find x es.toList w (keysOf h2)
  have hb := blkLt h1
  have keeps : ∀ o, Keeps (fun i => i = b) w { w with heap := w.heap.setIfInBounds b o } := fun o => ⟨rfl, rfl, rfl, by simp, fun i hi hn => by have : ¬ b = i := fun e => hn e.symm; simp [Array.getElem?_setIfInBounds, this]⟩
  have at_ : ∀ o, ({ w with heap := w.heap.setIfInBounds b o } : World).heap[b]? = some o := fun o => by simp [hb]
  rcases findE_eq (ev := ev) K.inj x es.toList l 0 h2 with ⟨u, j, g1, g2, g3, g4, g5, g6⟩ | ⟨g1, g2, g3, g4⟩ <;> rw [g2] at hf
  · have hj : j < es.size := by simpa using g6
    have hkey : es[j].key = ek x := by
      have e1 : (es.toList.map (fun e => (e.key, e.val)))[j]? = (l.map (fun p => (ek p.1, ev p.2)))[j]? := by rw [h2]
      simp only [List.getElem?_map, Array.getElem?_toList, Array.getElem?_eq_getElem hj, Option.map_some] at e1
      cases hl : l[j]? with
      | none => rw [hl] at g5; simp at g5
      | some p => rw [hl] at g5 e1; simp at g5 e1; rw [e1.1, g5]
    have hmod : (es.modify j fun e => { e with key := ek x, val := ev v }).toList = es.toList.set j { es[j] with key := ek x, val := ev v } := by
      rw [Array.toList_modify]
      have : Inhabited MapEntry := ⟨es[j]⟩
      rw [List.modify_eq_set]
      simp [hj]
    refine ⟨{ w with heap := w.heap.setIfInBounds b (.map (es.modify j fun e => { e with key := ek x, val := ev v }) c) }, ?_, ⟨_, _, at_ _, ?_, ?_, ?_, (putL_nodup h5).1⟩, keeps _, by simp⟩
    · simp [Instr.mapUpdate, run_underlying ht, MapKept.run_getObj_map h1, K.check, hf, hj, hkey, Instr.keyThatStays, K.bits, MapKept.run_setObj_map _ h1]
    · rw [hmod, g3, g4, setL_map]
    · rw [hmod, setL_map]
      have : (es.toList.map (·.born)).set j es[j].born = es.toList.map (·.born) := by
        have hj' : j < (es.toList.map (·.born)).length := by simpa using hj
        have := List.set_getElem_self hj'
        simpa using this
      rw [this]; exact h3
    · intro e he
      rw [hmod] at he
      rcases List.mem_or_eq_of_mem_set he with h | rfl
      · exact h4 e h
      · exact h4 es[j] (by simp)
  · refine ⟨{ w with heap := w.heap.setIfInBounds b (.map (es.push { key := ek x, val := ev v, born := c }) (c + 1)) }, ?_, ⟨_, _, at_ _, ?_, ?_, ?_, (putL_nodup h5).1⟩, keeps _, by simp⟩
    · simp [Instr.mapUpdate, run_underlying ht, MapKept.run_getObj_map h1, K.check, hf, MapKept.run_setObj_map _ h1]
    · simp [h2, g3]
    · simp only [Array.toList_push, List.map_append, List.map_cons, List.map_nil]
      rw [List.pairwise_append]
      refine ⟨h3, by simp, fun a ha b' hb' => ?_⟩
      simp only [List.mem_singleton] at hb'
      obtain ⟨e, he, rfl⟩ := List.mem_map.1 ha
      have := h4 e he
      omega
    · intro e he
      simp only [Array.toList_push, List.mem_append, List.mem_singleton] at he
      rcases he with h | rfl
      · have := h4 e h; omega
      · simp
variable {ops : Array Oper} {rest : List Oper} {o : Oper} {a : Act} {Q : Exit → Act → World → Prop}
theorem wp_look {w : World} (hg : Region.wanted o (yielded ops a.tmps) = true) (m x : Operand) (t : TypeId) (ok : Bool) (hop : o.op = Op.lookup t m x ok) (e : TypeId) (K : KeyTy P k ek) (ht : P.underlying t = some (.map k e)) (b : Nat) (l : List (κ × ν)) (hown : MapL w b ek ev l) (hm : a.eval m = .map (some b))
    (z : Value) (hz : (zeroValue e).run P w = .ok z w) (key : κ) (hx : a.eval x = ek key) (h : wpList P ops Q rest (a.put o.dst (if ok then .tuple #[((findL l key).map ev).getD z, .bool (findL l key).isSome] else ((findL l key).map ev).getD z)) w) : wpList P ops Q (o :: rest) a w := by
  refine wpList_step fun K' hK' => ?_
  rw [if_pos hg]
  have hrun := hown.look K ht hz key ok
  unfold Oper.wp
  simp only [execOp, hop, hm, hx, Sem.run_bind, hrun, Result.andThen_ok, Sem.run_pure]
  exact hK' _ _ h
theorem wp_put {w : World} (hg : Region.wanted o (yielded ops a.tmps) = true) (m x v : Operand) (t : TypeId) (hop : o.op = Op.mapUpdate t m x v) (e : TypeId) (K : KeyTy P k ek) (ht : P.underlying t = some (.map k e)) (b : Nat) (l : List (κ × ν)) (hown : MapL w b ek ev l) (hm : a.eval m = .map (some b))
    (key : κ) (hx : a.eval x = ek key) (u : ν) (hv : a.eval v = ev u) (h : ∀ w', MapL w' b ek ev (putL l key u) → Keeps (fun i => i = b) w w' → wpList P ops Q rest (a.put o.dst undef) w') : wpList P ops Q (o :: rest) a w := by
  refine wpList_step fun K' hK' => ?_
  rw [if_pos hg]
  obtain ⟨w', hrun, r1, r2, _⟩ := hown.put K ht key u
  unfold Oper.wp
  simp [execOp, hop, hm, hx, hv, hrun, Result.andThen]
  exact hK' _ _ (h w' r1 r2)
end Go.Proofs.YthiclhbnggehoaaGreatDoor
