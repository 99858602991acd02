/- The reference's left, Fits and Size. -/
import Derived.Test.YthiclhbnggehoaaGreatDoorBase
import Derived.Test.YthiclhbnggehoaaGreatDoorReads
import Derived.Test.YthiclhbnggehoaaGreatDoorName
import Derived.Test.YthiclhbnggehoaaGreatDoorMap
namespace Go.Proofs.YthiclhbnggehoaaGreatDoor
open Go.RowKit
set_option linter.unusedVariables false
set_option linter.unusedSimpArgs false
theorem leftZ (x y s t : Int) (h : max x 0 = max (y - s) 0) (hx : 0 < x) : max (max (x - t) 0) 0 = max (y - (s + t)) 0 := by omega
theorem sizes_succ (l : List Con) (k : Nat) (h : k < l.length) : Con.sizes (l.take (k + 1)) = Con.sizes (l.take k) + l[k].size := by
  rw [List.take_succ_eq_append_getElem h, sizes_append]; simp [Con.sizes]
set_option maxRecDepth 100000 in
set_option maxHeartbeats 4000000 in
theorem left_calls (N : Nat) : ∀ (c : Con) (A : Option Addr) (cap : Nat) (ok : Nat → Prop) (w : World) (most : Int), c.size < N → -1000 ≤ most → most ≤ 1000 → ConR ok w c [.int .i64 c.op, .int .i64 c.n, .slice A c.args.length cap] →
    Calls Tryz.prog 63 #[.agg #[.int .i64 c.op, .int .i64 c.n, .slice A c.args.length cap], .int .i64 most] w fun e w' => e = .returned (.int .i64 (max (most - c.size) 0)) ∧ Keeps (fun _ => False) w w' := by
  induction N with
  | zero => intro c A cap ok w most h; omega
  | succ N ih =>
  intro c A cap ok w most hN hm1 hm2 hc
  have IH := Lib.hid @ih
  clear ih
  obtain ⟨op, n, args⟩ := c
  simp only [show (Con.mk op n args).op = op from rfl, show (Con.mk op n args).n = n from rfl, show (Con.mk op n args).args = args from rfl] at hc ⊢
  have hsz : (Con.mk op n args).size = Con.sizes args + 1 := by simp [Con.size]
  have hca : ConsAt ok w args A := by
    simp only [ConR] at hc
    obtain ⟨A1, cap1, e1, hcap, hr⟩ := hc
    simp only [List.cons.injEq, Value.slice.injEq, and_true, true_and] at e1
    obtain ⟨rfl, rfl⟩ := e1
    exact hr
  have HCA := Lib.hid hca.lim
  rw [hsz]
  have hNN : Con.sizes args + 1 < N + 1 := by rw [← hsz]; exact hN
  clear hc hca hsz hN
  have hM : ((Con.sizes args + 1 : Nat) : Int) = (Con.sizes args : Int) + 1 := by push_cast; rfl
  rw [hM]
  have HM := Lib.hid hM
  clear hM
  go_enter Tryz.func63, Tryz.ntmps63
  go_wp2_with fail
  generalize hW0 : World.alloc _ _ = W0
  have hK0 : Keeps (fun _ => False) w W0 := by rw [← hW0]; repeat (first | exact Keeps.refl _ _ | refine Keeps.drewN ?_ _ | refine Keeps.drew ?_ | refine Keeps.alloc ?_ _ | refine Keeps.set ?_ (Or.inl (by rfl)) _)
  have hb0 : W0.heap[w.heap.size]? = some (.cells #[.int .i64 op, .int .i64 n, .slice A args.length cap] 37 (0, 0)) := by rw [← hW0]; exact blkNew rfl
  clear hW0
  have HB0 := Lib.hid hb0
  clear hb0
  go_loopw [1, 5] (fun mv iv wr => ∃ (k : Nat) (x : Int), k ≤ args.length ∧ mv = .int .i64 x ∧ iv = .int .i64 k ∧ Hid (max x 0 = max (most - 1 - Con.sizes (args.take k)) 0) ∧ -1001 ≤ x ∧ x ≤ 1000 ∧ Keeps (fun _ => False) W0 wr) (fun _ iv _ => args.length - (intOf iv).toNat)
  case atStart => exact ⟨0, most - 1, Nat.zero_le _, by go_num, rfl, by unfold Hid; simp [Con.sizes], by omega, by omega, Keeps.refl _ _⟩
  case round =>
    obtain ⟨k, x, hk, rfl, rfl, HX, hx1, hx2, HK⟩ := hrel
    obtain ⟨x0, x1, x2⟩ := cells3 (HK.blk HB0.out (fun h => h))
    have hxo := HX.out
    by_cases hlt : k < args.length
    · have hk63 : (k : Int) < args.length := by omega
      by_cases hp : 0 < x
      · have hkb : k ≤ 1000 := by
          have h1 := len_sizes (args.take k)
          rw [List.length_take] at h1
          omega
        obtain ⟨bb, o, A', cap', rfl, hob, hbl, e0, e1, e2, hc⟩ := (HCA.out.keep (hK0.then_ HK) (fun _ _ h => h)).get k hlt
        have hsk := Con.size_at k hlt
        have HSS := Lib.hid (sizes_succ args k hlt)
        generalize args[k] = d at *
        have HCALL := Lib.hid (fun W (hkw : Keeps (fun _ => False) wr W) => IH.out d A' cap' _ W x (by omega) (by omega) (by omega) (hc.keep hkw (fun _ _ h => h)))
        clear hc hxo
        go_wp2_with fail
        refine (HCALL.out wr (Keeps.refl _ _)).mono ?_
        rintro e w5 ⟨rfl, hk5⟩
        clear HCALL
        go_wp2_with fail
        go_roundw
        case rel => exact ⟨k + 1, max (x - d.size) 0, by omega, rfl, by go_num, by unfold Hid; rw [HSS.out]; push_cast; exact leftZ _ _ _ _ HX.out hp, by omega, by omega, HK.then_ hk5⟩
        case measure => simp [intOf]; omega
      · have hst : Con.sizes (args.take k) ≤ Con.sizes args := sizes_take _ _
        have HR : Hid (max (most - ((Con.sizes args : Int) + 1)) 0 = max x 0) := by unfold Hid; omega
        clear HX hxo
        go_wp2_with fail
        go_ret
        exact ⟨by rw [HR.out]; rfl, hK0.then_ HK⟩
    · obtain rfl : args.length = k := by omega
      have HR : Hid (max (most - ((Con.sizes args : Int) + 1)) 0 = max x 0) := by unfold Hid; rw [List.take_length] at hxo; omega
      clear HX hxo
      go_wp2_with fail
      go_ret
      exact ⟨by rw [HR.out]; rfl, hK0.then_ HK⟩
set_option maxRecDepth 100000 in
set_option maxHeartbeats 4000000 in
theorem fits_calls (c : Con) (A : Option Addr) (cap : Nat) (ok : Nat → Prop) (w : World) (most : Int) (hm1 : 0 ≤ most) (hm2 : most ≤ 900) (hc : ConR ok w c [.int .i64 c.op, .int .i64 c.n, .slice A c.args.length cap]) :
    Calls Tryz.prog 32 #[.agg #[.int .i64 c.op, .int .i64 c.n, .slice A c.args.length cap], .int .i64 most] w fun e w' => e = .returned (.bool (decide ((c.size : Int) ≤ most))) ∧ Keeps (fun _ => False) w w' := by
  have HCALL := Lib.hid (fun W (hk : Keeps (fun _ => False) w W) => left_calls (c.size + 1) c A cap ok W (most + 1) (by omega) (by omega) (by omega) (hc.keep hk (fun _ _ h => h)))
  have HV : Hid (decide (0 < max (most + 1 - c.size) 0) = decide ((c.size : Int) ≤ most)) := by unfold Hid; congr 1; apply propext; omega
  generalize (c.size : Int) = sz at *
  clear hc
  go_enter Tryz.func32, Tryz.ntmps32
  go_wp2_with fail
  generalize hW0 : World.alloc _ _ = W0
  have hK0 : Keeps (fun _ => False) w W0 := by rw [← hW0]; repeat (first | exact Keeps.refl _ _ | refine Keeps.drewN ?_ _ | refine Keeps.drew ?_ | refine Keeps.alloc ?_ _ | refine Keeps.set ?_ (Or.inl (by rfl)) _)
  clear hW0
  refine (HCALL.out W0 hK0).mono ?_
  rintro e w1 ⟨rfl, hk1⟩
  go_wp2_with fail
  go_ret
  exact ⟨by rw [← HV.out]; rfl, hK0.then_ hk1⟩
mutual
def depthC : Con → Int
  | ⟨_, _, args⟩ => depthL args + 1
def depthL : List Con → Int
  | [] => 0
  | c :: r => max (depthC c) (depthL r)
end
mutual
theorem depth_le : ∀ c : Con, 0 ≤ depthC c ∧ depthC c ≤ c.size
  | ⟨_, _, args⟩ => by have := depthL_le args; simp only [depthC, Con.size]; omega
theorem depthL_le : ∀ l : List Con, 0 ≤ depthL l ∧ depthL l ≤ Con.sizes l
  | [] => by simp [depthL, Con.sizes]
  | c :: r => by have := depth_le c; have := depthL_le r; simp only [depthL, Con.sizes]; omega
end
theorem depthL_snoc (l : List Con) (c : Con) : depthL (l ++ [c]) = max (depthL l) (depthC c) := by
  induction l with
  | nil => have := depth_le c; simp only [List.nil_append, depthL]; omega
  | cons d r ih => simp only [List.cons_append, depthL, ih]; omega
set_option maxRecDepth 100000 in
set_option maxHeartbeats 4000000 in
theorem size_calls (N : Nat) : ∀ (c : Con) (A : Option Addr) (cap : Nat) (ok : Nat → Prop) (w : World), c.size < N → c.size ≤ 1000 → ConR ok w c [.int .i64 c.op, .int .i64 c.n, .slice A c.args.length cap] →
    Calls Tryz.prog 39 #[.agg #[.int .i64 c.op, .int .i64 c.n, .slice A c.args.length cap]] w fun e w' => e = .returned (.tuple #[.int .i64 c.size, .int .i64 (depthC c)]) ∧ Keeps (fun _ => False) w w' := by
  induction N with
  | zero => intro c A cap ok w h; omega
  | succ N ih =>
  intro c A cap ok w hN hs hc
  have IH := Lib.hid @ih
  clear ih
  obtain ⟨op, n, args⟩ := c
  simp only [show (Con.mk op n args).op = op from rfl, show (Con.mk op n args).n = n from rfl, show (Con.mk op n args).args = args from rfl] at hc ⊢
  have hsz : (Con.mk op n args).size = Con.sizes args + 1 := by simp [Con.size]
  have hca : ConsAt ok w args A := by
    simp only [ConR] at hc
    obtain ⟨A1, cap1, e1, hcap, hr⟩ := hc
    simp only [List.cons.injEq, Value.slice.injEq, and_true, true_and] at e1
    obtain ⟨rfl, rfl⟩ := e1
    exact hr
  have HCA := Lib.hid hca.lim
  have hle := depthL_le args
  rw [show depthC ⟨op, n, args⟩ = depthL args + 1 by simp [depthC], hsz]
  have HV : Hid (((Con.sizes args + 1 : Nat) : Int) = 1 + (Con.sizes args : Int)) := by unfold Hid; push_cast; omega
  have hNN : Con.sizes args + 1 < N + 1 := by rw [← hsz]; exact hN
  have hs2 : Con.sizes args + 1 ≤ 1000 := by rw [← hsz]; exact hs
  have hal := len_sizes args
  clear hc hca hsz hN hs
  go_enter Tryz.func39, Tryz.ntmps39
  go_wp2_with fail
  generalize hW0 : World.alloc _ _ = W0
  have hK0 : Keeps (fun _ => False) w W0 := by rw [← hW0]; repeat (first | exact Keeps.refl _ _ | refine Keeps.drewN ?_ _ | refine Keeps.drew ?_ | refine Keeps.alloc ?_ _ | refine Keeps.set ?_ (Or.inl (by rfl)) _)
  clear hW0
  go_loopw [2, 3, 11] (fun nv dv iv wr => ∃ (k : Nat) (x d : Int), k ≤ args.length ∧ nv = .int .i64 x ∧ dv = .int .i64 d ∧ iv = .int .i64 k ∧ Hid (x = 1 + (Con.sizes (args.take k) : Int)) ∧ Hid (d = depthL (args.take k)) ∧ 0 ≤ x ∧ x ≤ 1000 ∧ 0 ≤ d ∧ d ≤ 1000 ∧ Keeps (fun _ => False) W0 wr) (fun _ _ iv _ => args.length - (intOf iv).toNat)
  case atStart => exact ⟨0, 1, 0, Nat.zero_le _, rfl, rfl, rfl, by unfold Hid; simp [Con.sizes], by unfold Hid; simp [depthL], by omega, by omega, by omega, by omega, Keeps.refl _ _⟩
  case round =>
    obtain ⟨k, x, d, hk, rfl, rfl, rfl, HX, HD, hx1, hx2, hd1, hd2, HK⟩ := hrel
    by_cases hlt : k < args.length
    · obtain ⟨bb, o, A', cap', rfl, hob, hbl, e0, e1, e2, hc⟩ := (HCA.out.keep (hK0.then_ HK) (fun _ _ h => h)).get k hlt
      have hsk := Con.size_at k hlt
      have HSS := Lib.hid (sizes_succ args k hlt)
      have HDS : Hid (depthL (args.take (k + 1)) = max (depthL (args.take k)) (depthC args[k])) := by unfold Hid; rw [List.take_succ_eq_append_getElem hlt, depthL_snoc]
      have hst := sizes_take args (k + 1)
      have hss2 := HSS.out
      have hdc := depth_le args[k]
      generalize args[k] = c1 at *
      have HCALL := Lib.hid (fun W (hkw : Keeps (fun _ => False) wr W) => IH.out c1 A' cap' _ W (by omega) (by omega) (hc.keep hkw (fun _ _ h => h)))
      have hx3 : x + c1.size ≤ 1000 := by have := HX.out; omega
      have hx4 : (0 : Int) ≤ c1.size := by omega
      clear hc hss2
      generalize depthC c1 = dc at *
      generalize hcs : (c1.size : Int) = cs at *
      have HCS := Lib.hid hcs
      clear hcs
      go_wp2_with fail
      refine (HCALL.out _ (by repeat (first | exact Keeps.refl _ _ | refine Keeps.drewN ?_ _ | refine Keeps.drew ?_ | refine Keeps.alloc ?_ _ | refine Keeps.set ?_ (Or.inl (by rfl)) _))).mono ?_
      rintro e w5 ⟨rfl, hk5⟩
      clear HCALL
      go_wp2_with fail
      go_roundw
      case rel => exact ⟨k + 1, x + cs, max d dc, by omega, by go_num, rfl, by go_num, by unfold Hid; have := HCS.out; have := HX.out; rw [HSS.out]; push_cast; omega, by unfold Hid; rw [HDS.out, ← HD.out], by omega, by omega, by omega, by have := HCS.out; omega, (HK.alloc _).then_ hk5⟩
      case measure => simp [intOf]; omega
    · obtain rfl : args.length = k := by omega
      have h1 := HX.out
      have h2 := HD.out
      rw [List.take_length] at h1 h2
      have HXX := Lib.hid h1
      have HDD := Lib.hid h2
      clear HX HD h1 h2
      go_wp2_with fail
      exact bodyPost_ret (v := .tuple #[.int .i64 x, .int .i64 (d + 1)]) (by simp [results, Tryz.results39, go_sem]; try omega) rfl ⟨by rw [HV.out, ← HXX.out, ← HDD.out], hK0.then_ HK⟩
end Go.Proofs.YthiclhbnggehoaaGreatDoor
/- The reference's Arity, Quantified, shaped, Small and Is. -/
namespace Go.Proofs.YthiclhbnggehoaaGreatDoor
open Go.RowKit
set_option linter.unusedVariables false
set_option linter.unusedSimpArgs false
def arityR (op : Int) : Int := if op = 0 ∨ op = 1 ∨ op = 2 then 0 else if op = 3 ∨ op = 6 ∨ op = 7 then 1 else if op = 4 ∨ op = 5 then 2 else -1
set_option maxRecDepth 100000 in
set_option maxHeartbeats 4000000 in
theorem arity_calls (op : Int) (w : World) : Calls Tryz.prog 79 #[.int .i64 op] w fun e w' => e = .returned (.int .i64 (arityR op)) ∧ w' = w := by
  by_cases h : op = 0 ∨ op = 1 ∨ op = 2 ∨ op = 3 ∨ op = 4 ∨ op = 5 ∨ op = 6 ∨ op = 7
  · rcases h with rfl | rfl | rfl | rfl | rfl | rfl | rfl | rfl
    all_goals
      go_enter Tryz.func79, Tryz.ntmps79
      go_wp2_with fail
      go_ret
      exact ⟨by simp [arityR], rfl⟩
  · have HV : Hid (arityR op = -1) := by unfold Hid arityR; repeat (rw [if_neg (by omega)])
    have h0 : (op == 0) = false := by simp; omega
    have h1 : (op == 1) = false := by simp; omega
    have h2 : (op == 2) = false := by simp; omega
    have h3 : (op == 3) = false := by simp; omega
    have h4 : (op == 4) = false := by simp; omega
    have h5 : (op == 5) = false := by simp; omega
    have h6 : (op == 6) = false := by simp; omega
    have h7 : (op == 7) = false := by simp; omega
    clear h
    go_enter Tryz.func79, Tryz.ntmps79
    go_wp2_with fail
    go_ret
    exact ⟨by rw [HV.out]; rfl, rfl⟩
set_option maxRecDepth 100000 in
set_option maxHeartbeats 4000000 in
theorem quantified_calls (op : Int) (w : World) : Calls Tryz.prog 61 #[.int .i64 op] w fun e w' => e = .returned (.bool (decide (op = 6) || decide (op = 7))) ∧ w' = w := by
  go_enter Tryz.func61, Tryz.ntmps61
  by_cases h6 : op = 6
  · subst h6
    go_wp2_with fail
    go_ret
    exact ⟨rfl, rfl⟩
  · by_cases h7 : op = 7
    · subst h7
      go_wp2_with fail
      go_ret
      exact ⟨rfl, rfl⟩
    · have q6 : (op == 6) = false := by simpa using h6
      have q7 : (op == 7) = false := by simpa using h7
      go_wp2_with fail
      go_ret
      exact ⟨by simp [h6, h7], rfl⟩
theorem fit_no {nc nr : Nat} {op n : Int} {args : List Con} (h : arityR op ≠ args.length ∨ n < 0 ∨ nodeOk nc nr op n = false) : fitC nc nr ⟨op, n, args⟩ = false := by
  cases hf : fitC nc nr ⟨op, n, args⟩
  · rfl
  · exfalso
    obtain ⟨h1, h2, h3, h4⟩ := fit_parts hf
    rcases h with h | h | h
    · apply h
      rw [h2]
      have : op = 0 ∨ op = 1 ∨ op = 2 ∨ op = 3 ∨ op = 4 ∨ op = 5 ∨ op = 6 ∨ op = 7 := by omega
      rcases this with rfl | rfl | rfl | rfl | rfl | rfl | rfl | rfl <;> rfl
    · unfold nodeOk at h3
      split at h3
      · simp at h3; omega
      · split at h3 <;> simp at h3 <;> omega
    · rw [h3] at h; cases h
theorem arityR_range {op : Int} {l : Nat} (h : arityR op = l) : (0 ≤ op ∧ op ≤ 7) ∧ (l : Int) = arityZ op := by
  unfold arityR at h
  split at h
  · rename_i h1; exact ⟨by omega, by rcases h1 with rfl | rfl | rfl <;> (rw [← h]; rfl)⟩
  · split at h
    · rename_i h1; exact ⟨by omega, by rcases h1 with rfl | rfl | rfl <;> (rw [← h]; rfl)⟩
    · split at h
      · rename_i h1; exact ⟨by omega, by rcases h1 with rfl | rfl <;> (rw [← h]; rfl)⟩
      · omega
theorem fitL_drop (nc nr : Nat) (l : List Con) (k : Nat) (h : k < l.length) : fitL nc nr (l.drop k) = (fitC nc nr l[k] && fitL nc nr (l.drop (k + 1))) := by
  rw [List.drop_eq_getElem_cons h]; rfl
set_option maxRecDepth 100000 in
set_option maxHeartbeats 4000000 in
theorem shaped_calls (nc nr : Nat) (A0 A1 : Option Addr) (c0 c1 : Nat) (v2 : Value) (hnc : nc ≤ 100000) (hnr : nr ≤ 100000) (N : Nat) : ∀ (c : Con) (A : Option Addr) (cap : Nat) (ok : Nat → Prop) (w : World), c.size < N → c.size ≤ 1000 → ConR ok w c [.int .i64 c.op, .int .i64 c.n, .slice A c.args.length cap] →
    Calls Tryz.prog 60 #[.agg #[.slice A0 nc c0, .slice A1 nr c1, v2], .agg #[.int .i64 c.op, .int .i64 c.n, .slice A c.args.length cap]] w fun e w' => e = .returned (.bool (fitC nc nr c)) ∧ Keeps (fun _ => False) w w' := by
  induction N with
  | zero => intro c A cap ok w h; omega
  | succ N ih =>
  intro c A cap ok w hN hs hc
  have IH := Lib.hid @ih
  clear ih
  obtain ⟨op, n, args⟩ := c
  simp only [show (Con.mk op n args).op = op from rfl, show (Con.mk op n args).n = n from rfl, show (Con.mk op n args).args = args from rfl] at hc ⊢
  have hsz : (Con.mk op n args).size = Con.sizes args + 1 := by simp [Con.size]
  have hca : ConsAt ok w args A := by
    simp only [ConR] at hc
    obtain ⟨A1, cap1, e1, hcap, hr⟩ := hc
    simp only [List.cons.injEq, Value.slice.injEq, and_true, true_and] at e1
    obtain ⟨rfl, rfl⟩ := e1
    exact hr
  have HCA := Lib.hid hca.lim
  have hNN : Con.sizes args + 1 < N + 1 := by rw [← hsz]; exact hN
  have hs2 : Con.sizes args + 1 ≤ 1000 := by rw [← hsz]; exact hs
  have hal := len_sizes args
  have HF : Hid (fitC nc nr ⟨op, n, args⟩ = fitC nc nr ⟨op, n, args⟩) := rfl
  generalize hfv : fitC nc nr ⟨op, n, args⟩ = fv
  have HFV := Lib.hid hfv
  clear hc hca hsz hN hs HF hfv
  go_enter Tryz.func60, Tryz.ntmps60
  go_wp2_with fail
  generalize hW0 : World.alloc _ _ = W0
  have hK0 : Keeps (fun _ => False) w W0 := by rw [← hW0]; repeat (first | exact Keeps.refl _ _ | refine Keeps.drewN ?_ _ | refine Keeps.drew ?_ | refine Keeps.alloc ?_ _ | refine Keeps.set ?_ (Or.inl (by rfl)) _)
  have hn0 : W0.heap[w.heap.size]? = some (.cells #[.slice A0 nc c0, .slice A1 nr c1, v2] 24 (0, 0)) := by rw [← hW0]; exact blkAlloc (blkNew rfl) _
  have hb0 : W0.heap[w.heap.size + 1]? = some (.cells #[.int .i64 op, .int .i64 n, .slice A args.length cap] 37 (0, 0)) := by rw [← hW0]; exact blkNew (by simp)
  clear hW0
  obtain ⟨x0, x1, x2⟩ := cells3 hb0
  obtain ⟨y0, y1, y2⟩ := cells3 hn0
  have HAR := Lib.hid (fun W => arity_calls op W)
  generalize har : arityR op = ar at *
  have HAA := Lib.hid har
  clear har
  by_cases h1 : ar = (args.length : Int)
  · have q1 : (ar == (args.length : Int)) = true := by simpa using h1
    have q2 : (ar != (args.length : Int)) = false := by simpa using h1
    by_cases h2 : n < 0
    · have q3 : decide (n < 0) = true := by simpa using h2
      have HO : Hid (fv = false) := by unfold Hid; rw [← HFV.out]; exact fit_no (.inr (.inl h2))
      have H1 := Lib.hid h1
      clear h1 h2
      go_quiet ((go_at_call 79; exact Calls.quiet_of_same (HAR.out _)))
      go_wp2_with fail
      go_ret
      exact ⟨by rw [HO.out]; rfl, hK0.drewN _⟩
    · have q3 : decide (n < 0) = false := by simpa using h2
      have H1 := Lib.hid h1
      have H2 := Lib.hid h2
      clear h2
      go_quiet ((go_at_call 79; exact Calls.quiet_of_same (HAR.out _)))
      have hK1 := hK0.drewN (n := nq)
      have hn1 : (W0.drewN nq).heap[w.heap.size]? = some (.cells #[.slice A0 nc c0, .slice A1 nr c1, v2] 24 (0, 0)) := hn0
      have hb1 : (W0.drewN nq).heap[w.heap.size + 1]? = some (.cells #[.int .i64 op, .int .i64 n, .slice A args.length cap] 37 (0, 0)) := hb0
      clear x0 x1 x2 y0 y1 y2 hn0 hb0 hK0
      generalize W0.drewN nq = W1 at *
      obtain ⟨x0, x1, x2⟩ := cells3 hb1
      obtain ⟨y0, y1, y2⟩ := cells3 hn1
      have HN1 := Lib.hid hn1
      obtain ⟨hr1, hr2⟩ := arityR_range (HAA.out.trans h1)
      have HFE : Hid (fv = (nodeOk nc nr op n && fitL nc nr args)) := by unfold Hid; rw [← HFV.out]; simp only [fitC]; rw [decide_eq_true hr1, decide_eq_true hr2]; simp
      clear h1 hn1 hb1
      by_cases h0 : op = 0
      · subst h0
        have ha0 : args = [] := by simp [arityZ] at hr2; exact hr2
        have HO : Hid (fv = decide (n < nc)) := by
          unfold Hid
          have h2 := H2.out
          rw [HFE.out, ha0]
          simp [nodeOk, fitL]
          omega
        clear HFE HFV hr1 hr2 ha0
        go_wp2_with fail
        go_ret
        exact ⟨by rw [HO.out]; rfl, hK1⟩
      · have q00 : (op == 0) = false := by simpa using h0
        have HQU := Lib.hid (fun W => quantified_calls op W)
        by_cases hq : op = 6 ∨ op = 7
        · have hqv : (decide (op = 6) || decide (op = 7)) = true := by rcases hq with rfl | rfl <;> rfl
          rw [hqv] at HQU
          have hm : wrap64 (2 * (nr : Int)) = 2 * nr := by unfold wrap64; omega
          have HNO : Hid (nodeOk nc nr op n = decide (0 ≤ n ∧ n < 2 * nr)) := by unfold Hid nodeOk; rw [if_neg h0, if_pos hq]
          have H0 := Lib.hid h0
          have HQ := Lib.hid hq
          have HQV := Lib.hid hqv
          clear h0 hq hqv
          by_cases hn : 2 * (nr : Int) ≤ n
          · have HO : Hid (fv = false) := by unfold Hid; rw [← HFV.out]; exact fit_no (.inr (.inr (by rw [HNO.out]; exact decide_eq_false (by omega))))
            go_wp2_with (go_at_call 61; refine (HQU.out _).mono ?_; rintro e w' ⟨rfl, hw⟩; have hw2 := hw.symm; clear hw; subst hw2)
            go_ret
            exact ⟨by rw [HO.out]; rfl, hK1⟩
          · have HFL : Hid (fv = fitL nc nr (args.drop 0)) := by
              unfold Hid
              have h2 := H2.out
              rw [HFE.out, HNO.out, decide_eq_true (by omega)]; rfl
            clear HFE HFV hr1 hr2
            go_wp2_with (go_at_call 61; refine (HQU.out _).mono ?_; rintro e w' ⟨rfl, hw⟩; have hw2 := hw.symm; clear hw; subst hw2)
            go_loopw [47] (fun i wr => ∃ k : Nat, k ≤ args.length ∧ i = .int .i64 k ∧ Hid (fv = fitL nc nr (args.drop k)) ∧ Keeps (fun _ => False) W1 wr) (fun i _ => args.length - (intOf i).toNat)
            case atStart => exact ⟨0, Nat.zero_le _, rfl, HFL, Keeps.refl _ _⟩
            case round =>
              obtain ⟨k, hk, rfl, HI, HK⟩ := hrel
              have hbn := HK.blk HN1.out (fun h => h)
              obtain ⟨y0, y1, y2⟩ := cells3 hbn
              have hbl0 := blkLt hbn
              clear hbn
              by_cases hlt : k < args.length
              · obtain ⟨bb, o, A', cap', rfl, hob, hbl, e0, e1, e2, hc⟩ := (HCA.out.keep (hK1.then_ HK) (fun _ _ h => h)).get k hlt
                have hsk := Con.size_at k hlt
                have HDR := Lib.hid (fitL_drop nc nr args k hlt)
                generalize args[k] = d1 at *
                have HCALL := Lib.hid (fun W (hkw : Keeps (fun _ => False) wr W) => IH.out d1 A' cap' _ W (by omega) (by omega) (hc.keep hkw (fun _ _ h => h)))
                clear hc
                generalize fitC nc nr d1 = f1 at *
                go_wp2_with fail
                refine (HCALL.out _ (by repeat (first | exact Keeps.refl _ _ | refine Keeps.drewN ?_ _ | refine Keeps.drew ?_ | refine Keeps.alloc ?_ _ | refine Keeps.set ?_ (Or.inl (by rfl)) _))).mono ?_
                rintro e w5 ⟨rfl, hk5⟩
                clear HCALL
                cases f1
                · have HO : Hid (fv = false) := by unfold Hid; rw [HI.out, HDR.out]; rfl
                  clear HI
                  go_wp2_with fail
                  go_ret
                  exact ⟨by rw [HO.out]; rfl, (hK1.then_ (HK.alloc _)).then_ hk5⟩
                · go_wp2_with fail
                  go_roundw
                  case rel => exact ⟨k + 1, by omega, by go_num, by unfold Hid; rw [HI.out, HDR.out]; rfl, (HK.alloc _).then_ hk5⟩
                  case measure => simp [intOf]; omega
              · obtain rfl : args.length = k := by omega
                have HO : Hid (fv = true) := by unfold Hid; rw [HI.out, List.drop_length]; rfl
                clear HI
                go_wp2_with fail
                go_ret
                exact ⟨by rw [HO.out]; rfl, hK1.then_ HK⟩
        · have hqv : (decide (op = 6) || decide (op = 7)) = false := by simp; omega
          rw [hqv] at HQU
          have HNO : Hid (nodeOk nc nr op n = decide (n = 0)) := by unfold Hid nodeOk; rw [if_neg h0, if_neg hq]
          have H0 := Lib.hid h0
          have HQ := Lib.hid hq
          have HQV := Lib.hid hqv
          clear h0 hq hqv
          by_cases hn : n = 0
          · subst hn
            have HFL : Hid (fv = fitL nc nr (args.drop 0)) := by unfold Hid; rw [HFE.out, HNO.out]; rfl
            clear HFE HFV hr1 hr2
            go_wp2_with (go_at_call 61; refine (HQU.out _).mono ?_; rintro e w' ⟨rfl, hw⟩; have hw2 := hw.symm; clear hw; subst hw2)
            go_loopw [47] (fun i wr => ∃ k : Nat, k ≤ args.length ∧ i = .int .i64 k ∧ Hid (fv = fitL nc nr (args.drop k)) ∧ Keeps (fun _ => False) W1 wr) (fun i _ => args.length - (intOf i).toNat)
            case atStart => exact ⟨0, Nat.zero_le _, rfl, HFL, Keeps.refl _ _⟩
            case round =>
              obtain ⟨k, hk, rfl, HI, HK⟩ := hrel
              have hbn := HK.blk HN1.out (fun h => h)
              obtain ⟨y0, y1, y2⟩ := cells3 hbn
              have hbl0 := blkLt hbn
              clear hbn
              by_cases hlt : k < args.length
              · obtain ⟨bb, o, A', cap', rfl, hob, hbl, e0, e1, e2, hc⟩ := (HCA.out.keep (hK1.then_ HK) (fun _ _ h => h)).get k hlt
                have hsk := Con.size_at k hlt
                have HDR := Lib.hid (fitL_drop nc nr args k hlt)
                generalize args[k] = d1 at *
                have HCALL := Lib.hid (fun W (hkw : Keeps (fun _ => False) wr W) => IH.out d1 A' cap' _ W (by omega) (by omega) (hc.keep hkw (fun _ _ h => h)))
                clear hc
                generalize fitC nc nr d1 = f1 at *
                go_wp2_with fail
                refine (HCALL.out _ (by repeat (first | exact Keeps.refl _ _ | refine Keeps.drewN ?_ _ | refine Keeps.drew ?_ | refine Keeps.alloc ?_ _ | refine Keeps.set ?_ (Or.inl (by rfl)) _))).mono ?_
                rintro e w5 ⟨rfl, hk5⟩
                clear HCALL
                cases f1
                · have HO : Hid (fv = false) := by unfold Hid; rw [HI.out, HDR.out]; rfl
                  clear HI
                  go_wp2_with fail
                  go_ret
                  exact ⟨by rw [HO.out]; rfl, (hK1.then_ (HK.alloc _)).then_ hk5⟩
                · go_wp2_with fail
                  go_roundw
                  case rel => exact ⟨k + 1, by omega, by go_num, by unfold Hid; rw [HI.out, HDR.out]; rfl, (HK.alloc _).then_ hk5⟩
                  case measure => simp [intOf]; omega
              · obtain rfl : args.length = k := by omega
                have HO : Hid (fv = true) := by unfold Hid; rw [HI.out, List.drop_length]; rfl
                clear HI
                go_wp2_with fail
                go_ret
                exact ⟨by rw [HO.out]; rfl, hK1.then_ HK⟩
          · have q9 : (n == 0) = false := by simpa using hn
            have q8 : (n != 0) = true := by simpa using hn
            have HO : Hid (fv = false) := by unfold Hid; rw [← HFV.out]; exact fit_no (.inr (.inr (by rw [HNO.out]; exact decide_eq_false hn)))
            go_wp2_with (go_at_call 61; refine (HQU.out _).mono ?_; rintro e w' ⟨rfl, hw⟩; have hw2 := hw.symm; clear hw; subst hw2)
            go_ret
            exact ⟨by rw [HO.out]; rfl, hK1⟩
  · have q1 : (ar == (args.length : Int)) = false := by simpa using h1
    have q2 : (ar != (args.length : Int)) = true := by simpa using h1
    have HO : Hid (fv = false) := by unfold Hid; rw [← HFV.out]; exact fit_no (.inl (by rw [HAA.out]; exact h1))
    clear h1
    go_quiet ((go_at_call 79; exact Calls.quiet_of_same (HAR.out _)))
    go_wp2_with fail
    go_ret
    exact ⟨by rw [HO.out]; rfl, hK0.drewN _⟩
end Go.Proofs.YthiclhbnggehoaaGreatDoor
/- The reference's Small and Is (of concepts), Role, Ind, Axioms, Inverse. -/
namespace Go.Proofs.YthiclhbnggehoaaGreatDoor
open Go.RowKit
set_option linter.unusedVariables false
set_option linter.unusedSimpArgs false
def smallR (c : Con) : Bool := decide (c.size ≤ 400) && decide (depthC c ≤ 20)
def isR (nc nr : Nat) (c : Con) : Bool := smallR c && fitC nc nr c
set_option maxRecDepth 100000 in
set_option maxHeartbeats 4000000 in
theorem small_calls (c : Con) (A : Option Addr) (cap : Nat) (ok : Nat → Prop) (w : World) (hc : ConR ok w c [.int .i64 c.op, .int .i64 c.n, .slice A c.args.length cap]) :
    Calls Tryz.prog 59 #[.agg #[.int .i64 c.op, .int .i64 c.n, .slice A c.args.length cap]] w fun e w' => e = .returned (.bool (smallR c)) ∧ Keeps (fun _ => False) w w' := by
  have HFI := Lib.hid (fun W (hk : Keeps (fun _ => False) w W) => fits_calls c A cap ok W 400 (by omega) (by omega) (hc.keep hk (fun _ _ h => h)))
  have HSZ := Lib.hid (fun W (hk : Keeps (fun _ => False) w W) (h : c.size ≤ 400) => size_calls (c.size + 1) c A cap ok W (by omega) (by omega) (hc.keep hk (fun _ _ h => h)))
  have HV : Hid (smallR c = (decide (c.size ≤ 400) && decide (depthC c ≤ 20))) := rfl
  generalize depthC c = dc at *
  generalize smallR c = sr at *
  clear hc
  go_enter Tryz.func59, Tryz.ntmps59
  go_wp2_with fail
  generalize hW0 : World.alloc _ _ = W0
  have hK0 : Keeps (fun _ => False) w W0 := by rw [← hW0]; repeat (first | exact Keeps.refl _ _ | refine Keeps.drewN ?_ _ | refine Keeps.drew ?_ | refine Keeps.alloc ?_ _ | refine Keeps.set ?_ (Or.inl (by rfl)) _)
  have hb0 : W0.heap[w.heap.size]? = some (.cells #[.int .i64 c.op, .int .i64 c.n, .slice A c.args.length cap] 37 (0, 0)) := by rw [← hW0]; exact blkNew rfl
  clear hW0
  refine (HFI.out W0 hK0).mono ?_
  clear HFI
  rintro e w1 ⟨rfl, hk1⟩
  have hK1 := hK0.then_ hk1
  obtain ⟨x0, x1, x2⟩ := cells3 (hk1.blk hb0 (fun h => h))
  by_cases h4 : c.size ≤ 400
  · have hd : decide ((c.size : Int) ≤ 400) = true := by simp; omega
    have HS2 := Lib.hid (HSZ.out w1 hK1 h4)
    have HO : Hid (sr = decide (dc ≤ 20)) := by unfold Hid; rw [HV.out, decide_eq_true h4]; rfl
    clear HV HSZ h4
    go_wp2_with fail
    refine HS2.out.mono ?_
    clear HS2
    rintro e w2 ⟨rfl, hk2⟩
    go_wp2_with fail
    go_ret
    exact ⟨by rw [HO.out]; rfl, hK1.then_ hk2⟩
  · have hd : decide ((c.size : Int) ≤ 400) = false := by simp; omega
    have HO : Hid (sr = false) := by unfold Hid; rw [HV.out, decide_eq_false h4]; rfl
    clear HV HSZ h4
    go_wp2_with fail
    go_ret
    exact ⟨by rw [HO.out]; rfl, hK1⟩
set_option maxRecDepth 100000 in
set_option maxHeartbeats 4000000 in
theorem is_calls (nc nr : Nat) (A0 A1 : Option Addr) (c0 c1 : Nat) (v2 : Value) (hnc : nc ≤ 100000) (hnr : nr ≤ 100000) (c : Con) (A : Option Addr) (cap : Nat) (ok : Nat → Prop) (w : World) (hc : ConR ok w c [.int .i64 c.op, .int .i64 c.n, .slice A c.args.length cap]) :
    Calls Tryz.prog 29 #[.agg #[.slice A0 nc c0, .slice A1 nr c1, v2], .agg #[.int .i64 c.op, .int .i64 c.n, .slice A c.args.length cap]] w fun e w' => e = .returned (.bool (isR nc nr c)) ∧ Keeps (fun _ => False) w w' := by
  have HSM := Lib.hid (fun W (hk : Keeps (fun _ => False) w W) => small_calls c A cap ok W (hc.keep hk (fun _ _ h => h)))
  have HSH := Lib.hid (fun W (hk : Keeps (fun _ => False) w W) (h : smallR c = true) => shaped_calls nc nr A0 A1 c0 c1 v2 hnc hnr (c.size + 1) c A cap ok W (by omega) (by simp only [smallR, Bool.and_eq_true, decide_eq_true_eq] at h; omega) (hc.keep hk (fun _ _ h => h)))
  have HV : Hid (isR nc nr c = (smallR c && fitC nc nr c)) := rfl
  generalize smallR c = sr at *
  generalize fitC nc nr c = fc at *
  generalize isR nc nr c = ir at *
  clear hc
  go_enter Tryz.func29, Tryz.ntmps29
  go_wp2_with fail
  generalize hW0 : World.alloc _ _ = W0
  have hK0 : Keeps (fun _ => False) w W0 := by rw [← hW0]; repeat (first | exact Keeps.refl _ _ | refine Keeps.drewN ?_ _ | refine Keeps.drew ?_ | refine Keeps.alloc ?_ _ | refine Keeps.set ?_ (Or.inl (by rfl)) _)
  have hn0 : W0.heap[w.heap.size]? = some (.cells #[.slice A0 nc c0, .slice A1 nr c1, v2] 24 (0, 0)) := by rw [← hW0]; exact blkAlloc (blkNew rfl) _
  have hb0 : W0.heap[w.heap.size + 1]? = some (.cells #[.int .i64 c.op, .int .i64 c.n, .slice A c.args.length cap] 37 (0, 0)) := by rw [← hW0]; exact blkNew (by simp)
  clear hW0
  refine (HSM.out W0 hK0).mono ?_
  clear HSM
  rintro e w1 ⟨rfl, hk1⟩
  have hK1 := hK0.then_ hk1
  obtain ⟨x0, x1, x2⟩ := cells3 (hk1.blk hb0 (fun h => h))
  obtain ⟨y0, y1, y2⟩ := cells3 (hk1.blk hn0 (fun h => h))
  cases sr
  · have HO : Hid (ir = false) := by unfold Hid; rw [HV.out]; rfl
    clear HV HSH
    go_wp2_with fail
    go_ret
    exact ⟨by rw [HO.out]; rfl, hK1⟩
  · have HO : Hid (ir = fc) := by unfold Hid; rw [HV.out]; rfl
    have HS2 := Lib.hid (HSH.out w1 hK1 rfl)
    clear HV HSH
    go_wp2_with fail
    refine HS2.out.mono ?_
    clear HS2
    rintro e w2 ⟨rfl, hk2⟩
    go_wp2_with fail
    go_ret
    exact ⟨by rw [HO.out]; rfl, hK1.then_ hk2⟩
end Go.Proofs.YthiclhbnggehoaaGreatDoor
/- The reference's letter, digit, Word, Reserved and Name. -/
namespace Go.Proofs.YthiclhbnggehoaaGreatDoor
open Go.RowKit
set_option linter.unusedVariables false
set_option linter.unusedSimpArgs false
theorem letterR_calls (c : Int) (w : World) : Calls Tryz.prog 98 #[.int .u8 c] w fun e w' => e = .returned (.bool (letterB c)) ∧ w = w' := by
  go_enter Tryz.func98, Tryz.ntmps98
  go_wp2
  all_goals
    go_ret
    refine ⟨congrArg (fun b => Ending.returned (Value.bool b)) ?_, rfl⟩
    rw [Bool.eq_iff_iff]; simp only [letterB, Bool.or_eq_true, Bool.and_eq_true, Bool.not_eq_true', decide_eq_true_eq, decide_eq_false_iff_not, beq_iff_eq, bne_iff_ne, ne_eq, true_iff, iff_true, Bool.false_eq_true, false_iff, iff_false, true_and, and_true, true_or, or_true, false_or, or_false, not_true_eq_false, not_false_eq_true]; omega
def digitB (c : Int) : Bool := decide (48 ≤ c ∧ c ≤ 57)
theorem digitR_calls (c : Int) (w : World) : Calls Tryz.prog 99 #[.int .u8 c] w fun e w' => e = .returned (.bool (digitB c)) ∧ w = w' := by
  go_enter Tryz.func99, Tryz.ntmps99
  go_wp2
  all_goals
    go_ret
    refine ⟨congrArg (fun b => Ending.returned (Value.bool b)) ?_, rfl⟩
    rw [Bool.eq_iff_iff]; simp only [digitB, Bool.or_eq_true, Bool.and_eq_true, Bool.not_eq_true', decide_eq_true_eq, decide_eq_false_iff_not, beq_iff_eq, bne_iff_ne, ne_eq, true_iff, iff_true, Bool.false_eq_true, false_iff, iff_false, true_and, and_true, true_or, or_true, false_or, or_false, not_true_eq_false, not_false_eq_true]; omega
def okAt (s : ByteArray) (i : Nat) : Bool := letterB (bAt s i) || (!decide (i = 0) && (digitB (bAt s i) || decide (bAt s i = 95)))
def wordFrom (s : ByteArray) (k : Nat) : Bool := (List.range' k (s.size - k)).all fun i => okAt s i
theorem wordFrom_step {s : ByteArray} {k : Nat} (h : k < s.size) : wordFrom s k = (okAt s k && wordFrom s (k + 1)) := by
  unfold wordFrom
  obtain ⟨n, hn⟩ : ∃ n, s.size - k = n + 1 := ⟨s.size - k - 1, by omega⟩
  rw [hn, show s.size - (k + 1) = n from by omega, List.range'_succ, List.all_cons]
theorem wordFrom_end {s : ByteArray} : wordFrom s s.size = true := by simp [wordFrom]
def wordR (s : ByteArray) : Bool := wordFrom s 0 && decide (s.size ≠ 0)
def reservedS : List (List UInt8) := [[116, 111, 112], [98, 111, 116], [110, 111, 116], [97, 110, 100], [111, 114], [115, 111, 109, 101], [97, 108, 108], [99, 111, 110, 99, 101, 112, 116], [114, 111, 108, 101], [105, 110, 100]]
def reservedR (s : ByteArray) : Bool := decide (s.toList ∈ reservedS)
def nameR (s : ByteArray) : Bool := decide (s.size ≤ 12) && wordR s && !reservedR s
set_option maxRecDepth 100000 in
set_option maxHeartbeats 4000000 in
theorem reservedR_calls (s : ByteArray) (w : World) : Calls Tryz.prog 78 #[.string s] w fun e w' => e = .returned (.bool (reservedR s)) ∧ w = w' := by
  have HV : Hid (reservedR s = decide (s.toList ∈ reservedS)) := rfl
  generalize reservedR s = rv at *
  go_enter Tryz.func78, Tryz.ntmps78
  go_wp2_with fail
  all_goals
    go_ret
    refine ⟨congrArg (fun b => Ending.returned (Value.bool b)) ?_, rfl⟩
    have h := HV.out
    simp only [reservedS, List.mem_cons, List.not_mem_nil, or_false] at h
    rw [h]
    simp_all
set_option maxRecDepth 100000 in
set_option maxHeartbeats 4000000 in
theorem wordR_calls (s : ByteArray) (w : World) (hs : s.size ≤ maxLen) : Calls Tryz.prog 77 #[.string s] w fun e w' => e = .returned (.bool (wordR s)) ∧ w = w' := by
  unfold maxLen at hs
  have HV : Hid (wordR s = (wordFrom s 0 && decide (s.size ≠ 0))) := rfl
  generalize wordR s = rv at *
  go_enter Tryz.func77, Tryz.ntmps77
  go_wp2_with fail
  go_loop [3] (fun i => ∃ k : Nat, k ≤ s.size ∧ i = .int .i64 k ∧ Hid (wordFrom s 0 = wordFrom s k)) (fun i => s.size - (intOf i).toNat)
  case atStart => exact ⟨0, Nat.zero_le _, rfl, rfl⟩
  case round =>
    obtain ⟨k, hk, rfl, HI⟩ := hrel
    by_cases hlt : k < s.size
    · have bk := bAt_eq hlt
      have HST := Lib.hid (wordFrom_step hlt)
      have HOK : Hid (okAt s k = (letterB (bAt s k) || (!decide (k = 0) && (digitB (bAt s k) || decide (bAt s k = 95))))) := rfl
      have HLE := Lib.hid (fun W => letterR_calls (bAt s k) W)
      have HDI := Lib.hid (fun W => digitR_calls (bAt s k) W)
      have hk0 : ((k : Int) == 0) = decide (k = 0) := by rw [Bool.eq_iff_iff]; simp
      generalize okAt s k = oa at *
      generalize letterB (bAt s k) = lb at *
      generalize digitB (bAt s k) = db at *
      have h95 : (bAt s k != 95) = !decide (bAt s k = 95) := by rw [Bool.eq_iff_iff]; simp
      generalize decide (bAt s k = 95) = nb at *
      generalize decide (k = 0) = kb at *
      cases lb <;> cases kb <;> cases db <;> cases nb
      all_goals
        have HO := Lib.hid HOK.out
        clear HOK
        go_wp2_with (first | (go_at_call 98; refine (HLE.out _).mono ?_; rintro e w' ⟨rfl, rfl⟩) | (go_at_call 99; refine (HDI.out _).mono ?_; rintro e w' ⟨rfl, rfl⟩))
      all_goals first
        | (go_ret; exact ⟨by rw [HV.out, HI.out, HST.out, HO.out]; rfl, rfl⟩)
        | skip
      all_goals
        go_round
        case rel => exact ⟨k + 1, by omega, by go_num, by unfold Hid; rw [HI.out, HST.out, HO.out]; rfl⟩
        case measure => simp [intOf]; omega
    · obtain rfl : k = s.size := by omega
      have HE : Hid (rv = decide (s.size ≠ 0)) := by unfold Hid; rw [HV.out, HI.out, wordFrom_end]; rfl
      clear HV HI
      by_cases z0 : s.size = 0
      · have z1 : s = ByteArray.empty := by
          apply ByteArray.ext; exact Array.size_eq_zero_iff.1 (by simpa using z0)
        subst z1
        go_wp2
        go_ret
        exact ⟨by rw [HE.out]; rfl, rfl⟩
      · have hne : (s != (⟨#[]⟩ : ByteArray)) = true := by
          rw [bne, beqBytes, Bool.not_eq_true', decide_eq_false_iff_not]
          intro h; rw [h] at z0; exact z0 rfl
        have z2 : s.toList ≠ [] := by
          intro h; apply z0
          have := congrArg List.length h
          rw [ByteArray.toList_eq] at this
          simpa using this
        have z1 : s.toList.isEmpty = false := by simpa using z2
        have HE2 : Hid (rv = true) := by unfold Hid; rw [HE.out]; simpa using z0
        clear HE
        go_wp2
        go_ret
        exact ⟨by rw [HE2.out]; rfl, rfl⟩
set_option maxRecDepth 100000 in
set_option maxHeartbeats 4000000 in
theorem nameR_calls (s : ByteArray) (w : World) (hs : s.size ≤ maxLen) : Calls Tryz.prog 57 #[.string s] w fun e w' => e = .returned (.bool (nameR s)) ∧ w = w' := by
  have HW := Lib.hid (fun W => wordR_calls s W hs)
  have HR := Lib.hid (fun W => reservedR_calls s W)
  have HV : Hid (nameR s = (decide (s.size ≤ 12) && wordR s && !reservedR s)) := rfl
  have h12 : decide ((s.size : Int) ≤ 12) = decide (s.size ≤ 12) := by congr 1; apply propext; omega
  generalize nameR s = nv at *
  generalize wordR s = wv at *
  generalize reservedR s = rv at *
  generalize decide (s.size ≤ 12) = sv at *
  unfold maxLen at hs
  cases sv <;> cases wv <;> cases rv
  all_goals
    have HO := Lib.hid HV.out
    clear HV
    go_enter Tryz.func57, Tryz.ntmps57
    go_wp2_with (first | (go_at_call 77; refine (HW.out _).mono ?_; rintro e w' ⟨rfl, rfl⟩) | (go_at_call 78; refine (HR.out _).mono ?_; rintro e w' ⟨rfl, rfl⟩))
    go_ret
    exact ⟨by rw [HO.out]; rfl, rfl⟩
end Go.Proofs.YthiclhbnggehoaaGreatDoor
/- The reference's Role, Ind, Axioms, Inverse, SameInts and Find. -/
namespace Go.Proofs.YthiclhbnggehoaaGreatDoor
open Go.RowKit
set_option linter.unusedVariables false
set_option linter.unusedSimpArgs false
set_option maxRecDepth 100000 in
set_option maxHeartbeats 4000000 in
theorem roleR_calls (nr : Nat) (r : Int) (v0 v2 : Value) (A1 : Option Addr) (c1 : Nat) (w : World) (hn : nr ≤ 1000000) : Calls Tryz.prog 40 #[.agg #[v0, .slice A1 nr c1, v2], .int .i64 r] w fun e w' => e = .returned (.bool (roleOk nr r)) ∧ Keeps (fun _ => False) w w' := by
  go_enter Tryz.func40, Tryz.ntmps40
  go_wp2_with fail
  all_goals
    go_ret
    refine ⟨congrArg (fun b => Ending.returned (Value.bool b)) ?_, by repeat (first | exact Keeps.refl _ _ | refine Keeps.drewN ?_ _ | refine Keeps.drew ?_ | refine Keeps.alloc ?_ _ | refine Keeps.set ?_ (Or.inl (by rfl)) _)⟩
    rw [Bool.eq_iff_iff]; simp only [roleOk, indOk, Bool.or_eq_true, Bool.and_eq_true, Bool.not_eq_true', decide_eq_true_eq, decide_eq_false_iff_not, beq_iff_eq, bne_iff_ne, ne_eq, true_iff, iff_true, Bool.false_eq_true, false_iff, iff_false, true_and, and_true, true_or, or_true, false_or, or_false, not_true_eq_false, not_false_eq_true]; omega
set_option maxRecDepth 100000 in
set_option maxHeartbeats 4000000 in
theorem indR_calls (ni : Nat) (r : Int) (v0 v1 : Value) (A2 : Option Addr) (c2 : Nat) (w : World) : Calls Tryz.prog 41 #[.agg #[v0, v1, .slice A2 ni c2], .int .i64 r] w fun e w' => e = .returned (.bool (indOk ni r)) ∧ Keeps (fun _ => False) w w' := by
  go_enter Tryz.func41, Tryz.ntmps41
  go_wp2_with fail
  all_goals
    go_ret
    refine ⟨congrArg (fun b => Ending.returned (Value.bool b)) ?_, by repeat (first | exact Keeps.refl _ _ | refine Keeps.drewN ?_ _ | refine Keeps.drew ?_ | refine Keeps.alloc ?_ _ | refine Keeps.set ?_ (Or.inl (by rfl)) _)⟩
    rw [Bool.eq_iff_iff]; simp only [roleOk, indOk, Bool.or_eq_true, Bool.and_eq_true, Bool.not_eq_true', decide_eq_true_eq, decide_eq_false_iff_not, beq_iff_eq, bne_iff_ne, ne_eq, true_iff, iff_true, Bool.false_eq_true, false_iff, iff_false, true_and, and_true, true_or, or_true, false_or, or_false, not_true_eq_false, not_false_eq_true]; omega
set_option maxRecDepth 100000 in
set_option maxHeartbeats 4000000 in
theorem axiomsR_calls (b : Kb) (p : KbA) (w : World) (h3 : b.incls.length ≤ 1000000) (h4 : b.roles.length ≤ 1000000) (h5 : b.facts.length ≤ 1000000) (h6 : b.links.length ≤ 1000000) :
    Calls Tryz.prog 25 #[.agg #[.slice p.a0 b.cs.length p.c0, .slice p.a1 b.rs.length p.c1, .slice p.a2 b.is.length p.c2, .slice p.a3 b.incls.length p.c3, .slice p.a4 b.roles.length p.c4, .slice p.a5 b.facts.length p.c5, .slice p.a6 b.links.length p.c6]] w fun e w' => e = .returned (.int .i64 (kbCount b)) ∧ Keeps (fun _ => False) w w' := by
  go_enter Tryz.func25, Tryz.ntmps25
  go_wp2_with fail
  go_ret
  exact ⟨by simp [kbCount], by repeat (first | exact Keeps.refl _ _ | refine Keeps.drewN ?_ _ | refine Keeps.drew ?_ | refine Keeps.alloc ?_ _ | refine Keeps.set ?_ (Or.inl (by rfl)) _)⟩
theorem take_mem {l : List ByteArray} {k : Nat} (h : k < l.length) (s : ByteArray) : s ∈ l.take (k + 1) ↔ s ∈ l.take k ∨ s = l[k] := by
  rw [List.take_succ_eq_append_getElem h, List.mem_append, List.mem_singleton]
theorem toList_ne {s x : ByteArray} (h : ¬ s = x) : (s.toList == x.toList) = false := by
  rw [beq_eq_false_iff_ne]
  intro e
  rw [ByteArray.toList_eq, ByteArray.toList_eq] at e
  exact h (ByteArray.ext (Array.ext' e))
set_option maxRecDepth 100000 in
set_option maxHeartbeats 4000000 in
theorem findR_calls (l : List ByteArray) (s : ByteArray) (ok : Nat → Prop) (A : Option Addr) (c : Nat) (w : World) (hl : Row1 ok w Value.string l A) (hn : l.length ≤ 1000000) :
    Calls Tryz.prog 58 #[.slice A l.length c, .string s] w fun e w' => (∃ z : Int, e = .returned (.int .i64 z) ∧ decide (0 ≤ z) = decide (s ∈ l)) ∧ Keeps (fun _ => False) w w' := by
  have HL := Lib.hid hl
  clear hl
  go_enter Tryz.func58, Tryz.ntmps58
  go_wp2_with fail
  go_loopw [9] (fun i wr => ∃ k : Nat, k ≤ l.length ∧ i = .int .i64 k ∧ Hid (s ∉ l.take k) ∧ Keeps (fun _ => False) w wr) (fun i _ => l.length - (intOf i).toNat)
  case atStart => exact ⟨0, Nat.zero_le _, rfl, by unfold Hid; simp, Keeps.refl _ _⟩
  case round =>
    obtain ⟨k, hk, rfl, HI, HK⟩ := hrel
    by_cases hlt : k < l.length
    · obtain ⟨bb, o, rfl, _, hc⟩ := (HL.out.keep HK (fun _ _ h => h)) (by intro h; subst h; simp at hlt)
      have e0 := hc k hlt
      have HTM := Lib.hid (take_mem hlt s)
      have HMEM := Lib.hid (List.getElem_mem hlt)
      have hk0 : (0 : Int) ≤ k := by omega
      generalize l[k] = x at *
      clear hc
      by_cases hx : s = x
      · have q1 : (s.toList == x.toList) = true := by rw [hx]; exact beq_self_eq_true _
        have HO : Hid (s ∈ l) := by unfold Hid; rw [hx]; exact HMEM.out
        clear hx HMEM HTM HI
        go_wp2_with fail
        go_ret
        exact ⟨⟨k, rfl, by rw [decide_eq_true hk0, decide_eq_true HO.out]⟩, HK⟩
      · have q1 : (s.toList == x.toList) = false := toList_ne hx
        have HO : Hid (s ∉ l.take (k + 1)) := by unfold Hid; rw [HTM.out]; rintro (h | h); exact HI.out h; exact hx h
        clear hx HMEM HTM HI
        go_wp2_with fail
        go_roundw
        case rel => exact ⟨k + 1, by omega, by go_num, HO, HK⟩
        case measure => simp [intOf]; omega
    · obtain rfl : l.length = k := by omega
      have HO : Hid (s ∉ l) := by have h := HI.out; rw [List.take_length] at h; exact h
      clear HI
      go_wp2_with fail
      go_ret
      exact ⟨⟨-1, rfl, by rw [decide_eq_false HO.out]; rfl⟩, HK⟩
end Go.Proofs.YthiclhbnggehoaaGreatDoor
/- The reference's Names and FewNames. -/
namespace Go.Proofs.YthiclhbnggehoaaGreatDoor
open Go.RowKit
set_option linter.unusedVariables false
set_option linter.unusedSimpArgs false
def namesFromR (l : List ByteArray) (k : Nat) : Bool := (List.range' k (l.length - k)).all fun i => nameR (l.getD i ByteArray.empty) && !decide (l.getD i ByteArray.empty ∈ l.take i)
theorem namesFromR_step {l : List ByteArray} {k : Nat} (h : k < l.length) : namesFromR l k = (nameR l[k] && !decide (l[k] ∈ l.take k) && namesFromR l (k + 1)) := by
  unfold namesFromR
  obtain ⟨n, hn⟩ : ∃ n, l.length - k = n + 1 := ⟨l.length - k - 1, by omega⟩
  rw [hn, show l.length - (k + 1) = n from by omega, List.range'_succ, List.all_cons]
  simp [List.getD_eq_getElem?_getD, h]
theorem namesFromR_end {l : List ByteArray} : namesFromR l l.length = true := by simp [namesFromR]
def namesR (cs rs is : List ByteArray) : Bool := decide (cs.length ≤ 16) && decide (rs.length ≤ 6) && decide (is.length ≤ 10) && namesFromR (cs ++ (rs ++ is)) 0
/-- Where the k-th string of the i-th list lies among all of them. -/
theorem flat_at {α : Type} {L : List (List α)} {i k : Nat} (hi : i < L.length) (hk : k < L[i].length) : ∃ h : flatLen L i + k < L.flatten.length, L.flatten[flatLen L i + k] = L[i][k] ∧ L.flatten.take (flatLen L i + k) = (L.take i).flatten ++ L[i].take k := by
  have hd : L.flatten = (L.take i).flatten ++ (L[i] ++ (L.drop (i + 1)).flatten) := by
    conv => lhs; rw [← List.take_append_drop i L, List.drop_eq_getElem_cons hi]
    rw [List.flatten_append, List.flatten_cons]
  have hl : L.flatten.length = flatLen L i + (L[i].length + (L.drop (i + 1)).flatten.length) := by
    conv => lhs; rw [hd]
    rw [List.length_append, List.length_append]; rfl
  refine ⟨by omega, ?_, ?_⟩
  · have h1 : L.flatten[flatLen L i + k]? = some L[i][k] := by
      rw [hd, List.getElem?_append_right (by unfold flatLen; omega)]
      unfold flatLen
      rw [Nat.add_sub_cancel_left, List.getElem?_append_left hk, List.getElem?_eq_getElem hk]
    rw [List.getElem?_eq_getElem (by omega)] at h1
    exact Option.some.inj h1
  · rw [hd]
    unfold flatLen
    rw [List.take_append, List.take_of_length_le (by omega), Nat.add_sub_cancel_left, List.take_append_of_le_length (by omega)]
set_option maxRecDepth 100000 in
set_option maxHeartbeats 4000000 in
theorem names_loop_calls (cs rs is : List ByteArray) (ok : Nat → Prop) (A0 A1 A2 : Option Addr) (c0 c1 c2 : Nat) (w : World) (h0 : Row1 ok w Value.string cs A0) (h1 : Row1 ok w Value.string rs A1) (h2 : Row1 ok w Value.string is A2) (hl0 : cs.length ≤ c0) (hl1 : rs.length ≤ c1) (hl2 : is.length ≤ c2) (hs : ∀ s ∈ cs ++ rs ++ is, s.size ≤ maxLen) (hn0 : cs.length ≤ 1000000) (hn1 : rs.length ≤ 1000000) (hn2 : is.length ≤ 1000000) :
    Calls Tryz.prog 28 #[.agg #[.slice A0 cs.length c0, .slice A1 rs.length c1, .slice A2 is.length c2]] w fun e w' => e = .returned (.bool (namesR cs rs is)) ∧ Keeps (fun _ => False) w w' := by
  have HV : Hid (namesR cs rs is = (decide (cs.length ≤ 16) && decide (rs.length ≤ 6) && decide (is.length ≤ 10) && namesFromR (cs ++ (rs ++ is)) 0)) := rfl
  generalize namesR cs rs is = nv at *
  have H0 := Lib.hid h0.lim
  have H1 := Lib.hid h1.lim
  have H2 := Lib.hid h2.lim
  clear h0 h1 h2
  have HSS := Lib.hid hs
  clear hs
  by_cases hb : cs.length ≤ 16 ∧ rs.length ≤ 6 ∧ is.length ≤ 10
  · obtain ⟨b0, b1, b2⟩ := hb
    have d0 : decide (16 < (cs.length : Int)) = false := by simp; omega
    have d1 : decide (6 < (rs.length : Int)) = false := by simp; omega
    have d2 : decide (10 < (is.length : Int)) = false := by simp; omega
    obtain ⟨L, hL⟩ : ∃ L, L = [cs, rs, is] := ⟨_, rfl⟩
    have HVV : Hid (nv = namesFromR L.flatten 0) := by unfold Hid; rw [HV.out, decide_eq_true b0, decide_eq_true b1, decide_eq_true b2, hL]; simp
    have hL3 : L.length = 3 := by rw [hL]; rfl
    have hLL : ∀ i (h : i < L.length), L[i].length ≤ 16 := by subst hL; intro i h; simp at h; match i, h with | 0, _ => exact b0 | 1, _ => (show rs.length ≤ 16; omega) | 2, _ => (show is.length ≤ 16; omega)
    have hLS : ∀ i (h : i < L.length), ∀ s ∈ L[i], s.size ≤ maxLen := by
      subst hL
      intro i h s hs
      have hi3 : i = 0 ∨ i = 1 ∨ i = 2 := by simp at h; omega
      apply HSS.out s
      rcases hi3 with rfl | rfl | rfl
      · have : s ∈ cs := hs
        simp [this]
      · have : s ∈ rs := hs
        simp [this]
      · have : s ∈ is := hs
        simp [this]
    have hFL : L.flatten.length ≤ 32 := by subst hL; simp; omega
    have HL3 := Lib.hid hL3
    have HLL := Lib.hid hLL
    have HLS := Lib.hid hLS
    have HLE := Lib.hid hL
    clear HV hLL hLS hL3 hL
    go_enter Tryz.func28, Tryz.ntmps28
    go_wp2_with fail
    generalize hW0 : World.alloc _ _ = W0
    have hK0 : Keeps (fun _ => False) w W0 := by rw [← hW0]; repeat (first | exact Keeps.refl _ _ | refine Keeps.drewN ?_ _ | refine Keeps.drew ?_ | refine Keeps.alloc ?_ _ | refine Keeps.set ?_ (Or.inl (by rfl)) _)
    have hb0 : W0.heap[w.heap.size + 1]? = some (.cells #[.slice A0 cs.length c0, .slice A1 rs.length c1, .slice A2 is.length c2] 22 (0, 0)) := by rw [← hW0]; exact blkNew (by simp)
    clear hW0
    have hrw : RowsS (fun k => ok k ∧ k < w.heap.size) W0 L (w.heap.size + 1) 0 := by
      intro i hi
      have hLe := HLE.out
      subst hLe
      simp at hi
      obtain ⟨x0, x1, x2⟩ := cells3 hb0
      match i, hi with
      | 0, _ => exact ⟨A0, c0, x0, hl0, H0.out.keep hK0 (fun _ _ h => h)⟩
      | 1, _ => exact ⟨A1, c1, x1, hl1, H1.out.keep hK0 (fun _ _ h => h)⟩
      | 2, _ => exact ⟨A2, c2, x2, hl2, H2.out.keep hK0 (fun _ _ h => h)⟩
    have HRW := Lib.hid hrw
    have hszW := blkLt hb0
    clear hrw hb0 d0 d1 d2
    go_loopw [3, 32] (fun v i wr => ∃ k : Nat, k ≤ 3 ∧ i = .int .i64 k ∧ Hid (nv = namesFromR L.flatten (flatLen L k)) ∧ Hid (wr.ownsRow W0.heap.size 9 1 v (L.take k).flatten.length ((L.take k).flatten.map Value.string)) ∧ Keeps (fun _ => False) W0 wr) (fun _ i _ => 3 - (intOf i).toNat)
    case atStart => exact ⟨0, by omega, rfl, HVV, World.ownsRow_nil _ _ _ _, Keeps.refl _ _⟩
    case round =>
      obtain ⟨k, hk, rfl, HI, HO, HK⟩ := hrel
      by_cases hlt : k < 3
      · have hkL : k < L.length := by have := HL3.out; omega
        obtain ⟨A, cp, e0, ecp, er⟩ := HRW.out k hkL
        rw [Nat.zero_add] at e0
        replace e0 := HK.cell e0 (fun h => h)
        have HER := Lib.hid er
        have h16 := HLL.out k hkL
        have hk3 : decide ((k : Int) < 3) = true := by simp; omega
        clear er
        go_wp2_with fail
        have hszr := HK.size
        go_loopw [3, 38] (fun v i wr2 => ∃ j : Nat, j ≤ L[k].length ∧ i = .int .i64 j ∧ Hid (nv = namesFromR L.flatten (flatLen L k + j)) ∧ Hid (wr2.ownsRow W0.heap.size 9 1 v ((L.take k).flatten ++ L[k].take j).length (((L.take k).flatten ++ L[k].take j).map Value.string)) ∧ Keeps (fun _ => False) W0 wr2) (fun _ i _ => L[k].length - (intOf i).toNat)
        case atStart => exact ⟨0, Nat.zero_le _, rfl, HI, by unfold Hid; simpa using HO.out, HK⟩
        case round =>
          clear HI HO HK
          obtain ⟨j, hj, rfl, HI, HO, HK⟩ := hrel
          by_cases hlt2 : j < L[k].length
          · obtain ⟨bb, o, rfl, _, hc⟩ := (HER.out.keep HK (fun _ _ h => h)) (by intro h; rw [h] at hlt2; simp at hlt2)
            have e1 := hc j hlt2
            have hsz := HLS.out k hkL _ (List.getElem_mem hlt2)
            obtain ⟨hfl, f1, f2⟩ := flat_at hkL hlt2
            have HST : Hid (namesFromR L.flatten (flatLen L k + j) = (nameR L[k][j] && !decide (L[k][j] ∈ (L.take k).flatten ++ L[k].take j) && namesFromR L.flatten (flatLen L k + (j + 1)))) := by
              unfold Hid
              rw [namesFromR_step hfl, f1, f2]; rfl
            have HTK : Hid ((L.take k).flatten ++ L[k].take (j + 1) = ((L.take k).flatten ++ L[k].take j) ++ [L[k][j]]) := by unfold Hid; rw [List.take_succ_eq_append_getElem hlt2, List.append_assoc]
            have hj2 : (j : Int) < L[k].length := by omega
            have hseen : ((L.take k).flatten ++ L[k].take j).length ≤ 32 := by rw [← f2, List.length_take]; omega
            generalize hxs : L[k][j] = s at *
            clear hxs hfl f1 f2 hc
            generalize (L.take k).flatten ++ L[k].take j = sn at *
            obtain ⟨_, As, cs9, rfl, hcs9, hrow⟩ := ownedRow1 HO.out
            have HNM := Lib.hid (fun W => nameR_calls s W hsz)
            have HFD := Lib.hid (findR_calls sn s _ As cs9 wr hrow (by omega))
            have HSZ := Lib.hid hsz
            clear hrow hsz
            cases hnm : nameR s
            · have HOO : Hid (nv = false) := by unfold Hid; rw [HI.out, HST.out, hnm]; rfl
              rw [hnm] at HNM
              clear HI HST hnm
              go_wp2_with (go_at_call 57; refine (HNM.out _).mono ?_; rintro e w' ⟨rfl, rfl⟩)
              go_ret
              exact ⟨by rw [HOO.out]; rfl, hK0.then_ HK⟩
            · by_cases hmem : s ∈ sn
              · have HOO : Hid (nv = false) := by unfold Hid; rw [HI.out, HST.out, decide_eq_true hmem]; simp
                have HMD := Lib.hid (decide_eq_true hmem)
                rw [hnm] at HNM
                clear HI HST hnm hmem
                go_wp2_with (first | (go_at_call 57; refine (HNM.out _).mono ?_; rintro e w' ⟨rfl, rfl⟩) | (go_at_call 58; refine HFD.out.mono ?_; rintro e w5 ⟨⟨z, rfl, hz⟩, hk5⟩; rw [HMD.out] at hz))
                go_ret
                exact ⟨by rw [HOO.out]; rfl, (hK0.then_ HK).then_ hk5⟩
              · have HOO : Hid (nv = namesFromR L.flatten (flatLen L k + (j + 1))) := by unfold Hid; rw [HI.out, HST.out, hnm, decide_eq_false hmem]; rfl
                have HMD := Lib.hid (decide_eq_false hmem)
                rw [hnm] at HNM
                clear HI HST hnm hmem
                go_wp2_with (first | (go_at_call 57; refine (HNM.out _).mono ?_; rintro e w' ⟨rfl, rfl⟩) | (go_at_call 58; refine HFD.out.mono ?_; clear HFD; rintro e w5 ⟨⟨z, rfl, hz⟩, hk5⟩; rw [HMD.out] at hz; have hs5 := hk5.size; have hs0 := HK.size) | (at_builtin; refine wp_app1 rfl _ _ 22 22 rfl W0.heap.size 9 _ 1 16 Tryz.underlying22 infoStr rfl (by decide) (by decide) (.slice As sn.length cs9) sn.length _ (ownsKeep (S := fun _ => False) HO.out (hk5.alloc _) (fun _ _ h => h)) rfl _ 1 [.string s] (Src.ofBlock Tryz.underlying22 (cs := #[.string s]) (blkNew rfl) rfl (by simp [Value.oneCell'])) rfl (by decide) (by omega) (by simp; omega) ?_; intro g6 cap6 w6 ho6 hk6 hat6 hcap6 hlt6))
                go_roundw
                case rel => exact ⟨j + 1, by omega, by go_num, HOO, by unfold Hid; rw [HTK.out]; simpa using ho6, (HK.then_ (hk5.alloc _)).trans hk6 (fun i hi => .inr (HO.out.lt i hi).1)⟩
                case measure => simp [intOf]; omega
          · obtain rfl : j = L[k].length := by omega
            rw [List.take_length, ← take_flat L k hkL] at HO
            have HFS := Lib.hid (flatLen_succ L k hkL)
            clear hlt2 hj
            go_wp2_with fail
            go_roundw
            case rel => exact ⟨k + 1, by omega, by go_num, by unfold Hid; rw [HFS.out]; exact HI.out, HO, HK⟩
            case measure => simp [intOf]; omega
      · obtain rfl : k = 3 := by omega
        have HOO : Hid (nv = true) := by
          unfold Hid
          rw [HI.out, show flatLen L 3 = L.flatten.length by unfold flatLen; rw [List.take_of_length_le (by rw [HL3.out]; omega)], namesFromR_end]
        clear HI HO
        go_wp2_with fail
        go_ret
        exact ⟨by rw [HOO.out]; rfl, hK0.then_ HK⟩
  · have HO : Hid (nv = false) := by
      unfold Hid
      rw [HV.out]
      cases h1 : decide (cs.length ≤ 16)
      · rfl
      · cases h2 : decide (rs.length ≤ 6)
        · rfl
        · cases h3 : decide (is.length ≤ 10)
          · rfl
          · simp only [decide_eq_true_eq] at h1 h2 h3; exact absurd ⟨h1, h2, h3⟩ hb
    clear HV
    by_cases b0 : cs.length ≤ 16
    · have d0 : decide (16 < (cs.length : Int)) = false := by simp; omega
      by_cases b1 : rs.length ≤ 6
      · have d1 : decide (6 < (rs.length : Int)) = false := by simp; omega
        have d2 : decide (10 < (is.length : Int)) = true := by simp; omega
        clear hb b0 b1
        go_enter Tryz.func28, Tryz.ntmps28
        go_wp2_with fail
        go_ret
        exact ⟨by rw [HO.out]; rfl, by repeat (first | exact Keeps.refl _ _ | refine Keeps.drewN ?_ _ | refine Keeps.drew ?_ | refine Keeps.alloc ?_ _ | refine Keeps.set ?_ (Or.inl (by rfl)) _)⟩
      · have d1 : decide (6 < (rs.length : Int)) = true := by simp; omega
        clear hb b0 b1
        go_enter Tryz.func28, Tryz.ntmps28
        go_wp2_with fail
        go_ret
        exact ⟨by rw [HO.out]; rfl, by repeat (first | exact Keeps.refl _ _ | refine Keeps.drewN ?_ _ | refine Keeps.drew ?_ | refine Keeps.alloc ?_ _ | refine Keeps.set ?_ (Or.inl (by rfl)) _)⟩
    · have d0 : decide (16 < (cs.length : Int)) = true := by simp; omega
      clear hb b0
      go_enter Tryz.func28, Tryz.ntmps28
      go_wp2_with fail
      go_ret
      exact ⟨by rw [HO.out]; rfl, by repeat (first | exact Keeps.refl _ _ | refine Keeps.drewN ?_ _ | refine Keeps.drew ?_ | refine Keeps.alloc ?_ _ | refine Keeps.set ?_ (Or.inl (by rfl)) _)⟩
end Go.Proofs.YthiclhbnggehoaaGreatDoor
/- The reference's FewNames. -/
namespace Go.Proofs.YthiclhbnggehoaaGreatDoor
open Go.RowKit
set_option linter.unusedVariables false
set_option linter.unusedSimpArgs false
def fewL (l : List ByteArray) : Bool := decide (l.length ≤ 100) && l.all fun s => decide (s.size ≤ 100)
def fewNamesR (cs rs is : List ByteArray) : Bool := fewL cs && (fewL rs && fewL is)
set_option maxRecDepth 100000 in
set_option maxHeartbeats 4000000 in
theorem fewNames_calls (cs rs is : List ByteArray) (ok : Nat → Prop) (A0 A1 A2 : Option Addr) (c0 c1 c2 : Nat) (w : World) (h0 : Row1 ok w Value.string cs A0) (h1 : Row1 ok w Value.string rs A1) (h2 : Row1 ok w Value.string is A2) (hl0 : cs.length ≤ c0) (hl1 : rs.length ≤ c1) (hl2 : is.length ≤ c2) :
    Calls Tryz.prog 62 #[.agg #[.slice A0 cs.length c0, .slice A1 rs.length c1, .slice A2 is.length c2]] w fun e w' => e = .returned (.bool (fewNamesR cs rs is)) ∧ Keeps (fun _ => False) w w' := by
  obtain ⟨L, hL⟩ : ∃ L, L = [cs, rs, is] := ⟨_, rfl⟩
  have HV : Hid (fewNamesR cs rs is = (L.drop 0).all fewL) := by unfold Hid; rw [hL]; simp [fewNamesR]
  generalize fewNamesR cs rs is = nv at *
  have H0 := Lib.hid h0.lim
  have H1 := Lib.hid h1.lim
  have H2 := Lib.hid h2.lim
  have hL3 : L.length = 3 := by rw [hL]; rfl
  have HL3 := Lib.hid hL3
  have HLE := Lib.hid hL
  clear h0 h1 h2 hL hL3
  go_enter Tryz.func62, Tryz.ntmps62
  go_wp2_with fail
  generalize hW0 : World.alloc _ _ = W0
  have hK0 : Keeps (fun _ => False) w W0 := by rw [← hW0]; repeat (first | exact Keeps.refl _ _ | refine Keeps.drewN ?_ _ | refine Keeps.drew ?_ | refine Keeps.alloc ?_ _ | refine Keeps.set ?_ (Or.inl (by rfl)) _)
  have hb0 : W0.heap[w.heap.size + 1]? = some (.cells #[.slice A0 cs.length c0, .slice A1 rs.length c1, .slice A2 is.length c2] 22 (0, 0)) := by rw [← hW0]; exact blkNew (by simp)
  clear hW0
  have hrw : RowsS (fun k => ok k ∧ k < w.heap.size) W0 L (w.heap.size + 1) 0 := by
    intro i hi
    have hLe := HLE.out
    subst hLe
    simp at hi
    obtain ⟨x0, x1, x2⟩ := cells3 hb0
    match i, hi with
    | 0, _ => exact ⟨A0, c0, x0, hl0, H0.out.keep hK0 (fun _ _ h => h)⟩
    | 1, _ => exact ⟨A1, c1, x1, hl1, H1.out.keep hK0 (fun _ _ h => h)⟩
    | 2, _ => exact ⟨A2, c2, x2, hl2, H2.out.keep hK0 (fun _ _ h => h)⟩
  have HRW := Lib.hid hrw
  have hszW := blkLt hb0
  clear hrw hb0
  go_loopw [15] (fun i wr => ∃ k : Nat, k ≤ 3 ∧ i = .int .i64 k ∧ Hid (nv = (L.drop k).all fewL) ∧ Keeps (fun _ => False) W0 wr) (fun i _ => 3 - (intOf i).toNat)
  case atStart => exact ⟨0, by omega, rfl, HV, Keeps.refl _ _⟩
  case round =>
    obtain ⟨k, hk, rfl, HI, HK⟩ := hrel
    by_cases hlt : k < 3
    · have hkL : k < L.length := by have := HL3.out; omega
      obtain ⟨A, cp, e0, ecp, er⟩ := HRW.out k hkL
      rw [Nat.zero_add] at e0
      replace e0 := HK.cell e0 (fun h => h)
      have HER := Lib.hid er
      have hk3 : decide ((k : Int) < 3) = true := by simp; omega
      have HDR : Hid ((L.drop k).all fewL = (fewL L[k] && (L.drop (k + 1)).all fewL)) := all_drop fewL L k hkL
      have HFW : Hid (fewL L[k] = (decide (L[k].length ≤ 100) && (L[k].drop 0).all fun s => decide (s.size ≤ 100))) := rfl
      generalize L[k] = l at *
      clear er
      by_cases hln : l.length ≤ 100
      · have d0 : decide (100 < (l.length : Int)) = false := by simp; omega
        go_wp2_with fail
        go_loopw [24] (fun i wr2 => ∃ j : Nat, j ≤ l.length ∧ i = .int .i64 j ∧ Hid (fewL l = (l.drop j).all fun s => decide (s.size ≤ 100)) ∧ Keeps (fun _ => False) W0 wr2) (fun i _ => l.length - (intOf i).toNat)
        case atStart => exact ⟨0, Nat.zero_le _, rfl, by unfold Hid; rw [HFW.out, decide_eq_true hln]; rfl, HK⟩
        case round =>
          clear HK
          obtain ⟨j, hj, rfl, HJ, HK⟩ := hrel
          by_cases hlt2 : j < l.length
          · obtain ⟨bb, o, rfl, _, hc⟩ := (HER.out.keep HK (fun _ _ h => h)) (by intro h; rw [h] at hlt2; simp at hlt2)
            have e1 := hc j hlt2
            have HDJ : Hid ((l.drop j).all (fun s => decide (s.size ≤ 100)) = (decide (l[j].size ≤ 100) && (l.drop (j + 1)).all fun s => decide (s.size ≤ 100))) := all_drop _ l j hlt2
            generalize l[j] = s at *
            clear hc
            by_cases hs : s.size ≤ 100
            · have d1 : decide (100 < (s.size : Int)) = false := by simp; omega
              have HO : Hid (fewL l = (l.drop (j + 1)).all fun s => decide (s.size ≤ 100)) := by unfold Hid; rw [HJ.out, HDJ.out, decide_eq_true hs]; rfl
              clear HJ HDJ
              go_wp2_with fail
              go_roundw
              case rel => exact ⟨j + 1, by omega, by go_num, HO, HK⟩
              case measure => simp [intOf]; omega
            · have d1 : decide (100 < (s.size : Int)) = true := by simp; omega
              have HO : Hid (nv = false) := by unfold Hid; rw [HI.out, HDR.out, HJ.out, HDJ.out, decide_eq_false hs]; rfl
              clear HJ HDJ
              go_wp2_with fail
              go_ret
              exact ⟨by rw [HO.out]; rfl, hK0.then_ HK⟩
          · obtain rfl : j = l.length := by omega
            have HO : Hid (nv = (L.drop (k + 1)).all fewL) := by unfold Hid; rw [HI.out, HDR.out, HJ.out, List.drop_length]; rfl
            clear HJ
            go_wp2_with fail
            go_roundw
            case rel => exact ⟨k + 1, by omega, by go_num, HO, HK⟩
            case measure => simp [intOf]; omega
      · have d0 : decide (100 < (l.length : Int)) = true := by simp; omega
        have HO : Hid (nv = false) := by unfold Hid; rw [HI.out, HDR.out, HFW.out, decide_eq_false hln]; rfl
        clear HI HDR HFW
        go_wp2_with fail
        go_ret
        exact ⟨by rw [HO.out]; rfl, hK0.then_ HK⟩
    · obtain rfl : k = 3 := by omega
      have HO : Hid (nv = true) := by unfold Hid; rw [HI.out, List.drop_of_length_le (by rw [HL3.out]; omega)]; rfl
      clear HI
      go_wp2_with fail
      go_ret
      exact ⟨by rw [HO.out]; rfl, hK0.then_ HK⟩
end Go.Proofs.YthiclhbnggehoaaGreatDoor
