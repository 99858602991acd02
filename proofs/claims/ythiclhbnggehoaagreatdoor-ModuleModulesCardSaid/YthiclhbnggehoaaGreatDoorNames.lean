/- What concept.ValidNames computes. -/
import Derived.Test.YthiclhbnggehoaaGreatDoorProg
import Derived.Test.YthiclhbnggehoaaGreatDoorName
import Derived.Test.YthiclhbnggehoaaGreatDoorMap
namespace Go.Proofs.YthiclhbnggehoaaGreatDoor
open Go.RowKit
set_option linter.unusedVariables false
set_option linter.unusedSimpArgs false
instance : LawfulBEq ByteArray := { eq_of_beq := fun h => by rw [beqBytes] at h; exact of_decide_eq_true h, rfl := by intro a; rw [beqBytes]; simp }
/-- From name k on, each is valid and new. -/
def namesFrom (l : List ByteArray) (k : Nat) : Bool := (List.range' k (l.length - k)).all fun i => nameB (l.getD i ByteArray.empty) && !decide (l.getD i ByteArray.empty ∈ l.take i)
theorem namesFrom_step {l : List ByteArray} {k : Nat} (h : k < l.length) : namesFrom l k = (nameB l[k] && !decide (l[k] ∈ l.take k) && namesFrom l (k + 1)) := by
  unfold namesFrom
  obtain ⟨n, hn⟩ : ∃ n, l.length - k = n + 1 := ⟨l.length - k - 1, by omega⟩
  rw [hn, show l.length - (k + 1) = n from by omega, List.range'_succ, List.all_cons]
  simp [List.getD_eq_getElem?_getD, h]
theorem namesFrom_end {l : List ByteArray} : namesFrom l l.length = true := by simp [namesFrom]
def validNamesB (cs rs is : List ByteArray) : Bool := decide (cs.length ≤ 16) && decide (rs.length ≤ 6) && decide (is.length ≤ 10) && namesFrom (cs ++ rs ++ is) 0
def seenL (l : List ByteArray) (k : Nat) : List (ByteArray × Bool) := (l.take k).map fun s => (s, true)
theorem find_seen (l : List ByteArray) (k : Nat) (s : ByteArray) : findL (seenL l k) s = if s ∈ l.take k then some true else none := by
  unfold findL seenL
  rw [List.find?_map]
  by_cases h : s ∈ l.take k
  · rw [if_pos h]
    obtain ⟨x, hx⟩ := Option.isSome_iff_exists.1 (List.find?_isSome.2 ⟨s, h, by simp⟩ : ((l.take k).find? ((fun p : ByteArray × Bool => decide (p.1 = s)) ∘ fun s => (s, true))).isSome = true)
    rw [hx]; rfl
  · rw [if_neg h, List.find?_eq_none.2]
    · rfl
    · intro x hx; simp; rintro rfl; exact h hx
theorem put_new {κ ν : Type} [DecidableEq κ] (l : List (κ × ν)) (x : κ) (u : ν) (h : findL l x = none) : putL l x u = l ++ [(x, u)] := by
  induction l with
  | nil => rfl
  | cons p r ih =>
    unfold findL at h
    simp only [List.find?_cons] at h
    split at h
    · simp at h
    · rename_i e
      simp only [decide_eq_false_iff_not] at e
      simp [putL, e, ih h]
theorem put_seen {l : List ByteArray} {k : Nat} (h : k < l.length) (hn : l[k] ∉ l.take k) : putL (seenL l k) l[k] true = seenL l (k + 1) := by
  rw [put_new _ _ _ (by rw [find_seen, if_neg hn])]
  unfold seenL
  rw [List.take_succ_eq_append_getElem h, List.map_append]; rfl
theorem zeroBool (w : World) : (zeroValue 4).run Tryz.prog w = .ok (.bool false) w := by kernel_rfl
set_option maxRecDepth 100000 in
set_option maxHeartbeats 4000000 in
theorem validNames_calls (cs rs is : List ByteArray) (ok : Nat → Prop) (A0 A1 A2 : Option Addr) (c0 c1 c2 : Nat) (w : World) (m : Int) (hm : w.cell? ⟨1, 0, none⟩ = some (.int .i64 m))
    (h0 : Row1 ok w Value.string cs A0) (h1 : Row1 ok w Value.string rs A1) (h2 : Row1 ok w Value.string is A2) (hl0 : cs.length ≤ c0) (hl1 : rs.length ≤ c1) (hl2 : is.length ≤ c2) (hs : ∀ s ∈ cs ++ rs ++ is, s.size ≤ maxLen) :
    Calls Tryz.prog 80 #[.agg #[.slice A0 cs.length c0, .slice A1 rs.length c1, .slice A2 is.length c2]] w fun e w' => e = .returned (.bool (validNamesB cs rs is)) ∧ Keeps (fun _ => False) w w' := by
  by_cases hbad : 16 < cs.length ∨ 6 < rs.length ∨ 10 < is.length
  · have HV := Lib.hid (show validNamesB cs rs is = false by
      unfold validNamesB
      rcases hbad with h | h | h
      · rw [show decide (cs.length ≤ 16) = false by simp; omega]; rfl
      · rw [show decide (rs.length ≤ 6) = false by simp; omega]; simp
      · rw [show decide (is.length ≤ 10) = false by simp; omega]; simp)
    clear h0 h1 h2 hs hm
    have hcs : decide (16 < (cs.length : Int)) = true ∨ decide (16 < (cs.length : Int)) = false ∧ (decide (6 < (rs.length : Int)) = true ∨ decide (6 < (rs.length : Int)) = false ∧ decide (10 < (is.length : Int)) = true) := by
      simp only [decide_eq_true_eq, decide_eq_false_iff_not]; omega
    clear hbad
    rcases hcs with d1 | ⟨d1, d2 | ⟨d2, d3⟩⟩
    all_goals
      go_enter Tryz.func80, Tryz.ntmps80
      go_wp2_with fail
      go_ret
      exact ⟨by rw [HV.out]; rfl, by repeat (first | exact Keeps.refl _ _ | refine Keeps.drewN ?_ _ | refine Keeps.drew ?_ | refine Keeps.alloc ?_ _ | refine Keeps.set ?_ (Or.inl (by rfl)) _)⟩
  · have hg : cs.length ≤ 16 ∧ rs.length ≤ 6 ∧ is.length ≤ 10 := by omega
    obtain ⟨g0, g1, g2⟩ := hg
    have HV := Lib.hid (show validNamesB cs rs is = namesFrom (cs ++ rs ++ is) 0 by
      unfold validNamesB; simp [g0, g1, g2])
    have d1 : decide (16 < (cs.length : Int)) = false := by simp; omega
    have d2 : decide (6 < (rs.length : Int)) = false := by simp; omega
    have d3 : decide (10 < (is.length : Int)) = false := by simp; omega
    have hmm := @run_makeMap Tryz.prog
    have HH0 := Lib.hid h0
    have HH1 := Lib.hid h1
    have HH2 := Lib.hid h2
    have HM := Lib.hid hm
    have HS := Lib.hid hs
    clear hbad h0 h1 h2 hm hs
    go_enter Tryz.func80, Tryz.ntmps80
    go_wp2_with fail
    generalize hW0 : World.alloc _ _ = W0
    have hK0 : Keeps (fun _ => False) w W0 := by rw [← hW0]; repeat (first | exact Keeps.refl _ _ | refine Keeps.drewN ?_ _ | refine Keeps.drew ?_ | refine Keeps.alloc ?_ _ | refine Keeps.set ?_ (Or.inl (by rfl)) _)
    have hsz : W0.heap.size = w.heap.size + 3 := by rw [← hW0]; simp
    have hMap : MapL W0 (w.heap.size + 1) Value.string Value.bool (seenL (cs ++ rs ++ is) 0) := by
      have h1 := MapL.made (ek := Value.string) (ev := Value.bool) (κ := ByteArray) (w.alloc (.cells #[.slice A0 cs.length c0, .slice A1 rs.length c1, .slice A2 is.length c2] 24))
      rw [show (w.alloc (.cells #[.slice A0 cs.length c0, .slice A1 rs.length c1, .slice A2 is.length c2] 24)).heap.size = w.heap.size + 1 by simp] at h1
      rw [← hW0]
      exact h1.keep (S := fun _ => False) (by repeat (first | exact Keeps.refl _ _ | refine Keeps.drewN ?_ _ | refine Keeps.drew ?_ | refine Keeps.alloc ?_ _ | refine Keeps.set ?_ (Or.inl (by rfl)) _)) (fun h => h)
    have hR0 : RowsS ok W0 [cs, rs, is] (w.heap.size + 1 + 1) 0 := by
      have hb : W0.heap[w.heap.size + 1 + 1]? = some (.cells #[.slice A0 cs.length c0, .slice A1 rs.length c1, .slice A2 is.length c2] 22) := by rw [← hW0]; exact blkNew (by simp)
      intro i hi
      have hi' : i = 0 ∨ i = 1 ∨ i = 2 := by simp at hi; omega
      rcases hi' with rfl | rfl | rfl
      · exact ⟨A0, c0, by simp [blkCell hb], hl0, HH0.out.keep hK0 (fun _ _ h => h)⟩
      · exact ⟨A1, c1, by simp [blkCell hb], hl1, HH1.out.keep hK0 (fun _ _ h => h)⟩
      · exact ⟨A2, c2, by simp [blkCell hb], hl2, HH2.out.keep hK0 (fun _ _ h => h)⟩
    clear hW0
    have HR := Lib.hid hR0
    have HMap := Lib.hid hMap
    have HSZ := Lib.hid hsz
    clear hR0 hMap hsz HH0 HH1 HH2
    refine (concat_calls [cs, rs, is] ok (w.heap.size + 1 + 1) 3 W0 (by simp) (by simp; omega) HR.out (by simp)).mono ?_
    rintro e w1 ⟨v, rfl, hv, hk⟩
    rw [show [cs, rs, is].flatten = cs ++ rs ++ is by simp] at hv
    obtain ⟨_, A, cA, rfl, hcA, hrow⟩ := ownedRow1 hv
    have hll : (cs ++ rs ++ is).length ≤ 32 := by simp; omega
    generalize cs ++ rs ++ is = l at *
    have HROW := Lib.hid hrow
    clear hv hrow
    go_wp2_with fail
    go_loopw [32] (fun i wr => ∃ k : Nat, k ≤ l.length ∧ i = .int .i64 k ∧ Hid (namesFrom l 0 = namesFrom l k) ∧ Hid (MapL wr (w.heap.size + 1) Value.string Value.bool (seenL l k)) ∧ Keeps (fun i => i = w.heap.size + 1) w1 wr) (fun i _ => l.length - (intOf i).toNat)
    case atStart => exact ⟨0, Nat.zero_le _, rfl, rfl, HMap.out.keep hk (fun h => h), Keeps.refl _ _⟩
    case round =>
      obtain ⟨k, hk2, rfl, HI, HMP, HK⟩ := hrel
      by_cases hlt : k < l.length
      · have hne : l ≠ [] := by intro h; subst h; simp at hlt
        obtain ⟨b, o, rfl, hb, hc⟩ := (HROW.out.keep HK (fun i h h2 => by have := HSZ.out; omega)) hne
        have e0 := hc k hlt
        have hsk := Lib.hid (HS.out l[k] (List.getElem_mem hlt))
        have hst := Lib.hid (namesFrom_step hlt)
        have hfs := Lib.hid (find_seen l k l[k])
        have hps := Lib.hid (put_seen hlt)
        have hmx : Hid (wr.cell? ⟨1, 0, none⟩ = some (.int .i64 m)) := HK.cell (hk.cell (hK0.cell HM.out (fun h => h)) (fun h => h)) (by have := World.block_lt_of_cell? w _ HM.out; simp at this; omega)
        generalize l[k] = s at *
        clear hc
        cases hn : nameB s
        · rw [hn] at hst
          go_wp2_with (go_at_call 101; refine (name_calls s m _ hsk.out hmx.out).mono ?_; rw [hn]; rintro e w' ⟨rfl, rfl⟩)
          go_ret
          exact ⟨by rw [HV.out, HI.out, hst.out]; rfl, (hK0.then_ hk).trans HK (fun i hi => .inr (by omega))⟩
        · rw [hn] at hst
          by_cases hmem : s ∈ l.take k
          all_goals
            simp only [hmem, if_true, if_false, decide_true, decide_false] at hst hfs
            go_wp2_with (first | (go_at_call 101; refine (name_calls s m _ hsk.out hmx.out).mono ?_; rw [hn]; rintro e w' ⟨rfl, rfl⟩) | (at_lookup; refine wp_look rfl _ _ 154 false rfl 4 (keyStr Tryz.underlying9) Tryz.underlying154 (w.heap.size + 1) (seenL l k) HMP.out rfl (.bool false) (zeroBool _) s rfl ?_; rw [hfs.out]; simp only [Option.map_some, Option.map_none, Option.getD_some, Option.getD_none, Bool.false_eq_true, if_false]) | (at_mapUpdate; refine wp_put rfl _ _ _ 154 rfl 4 (keyStr Tryz.underlying9) Tryz.underlying154 (w.heap.size + 1) (seenL l k) HMP.out rfl s rfl true rfl ?_; intro w2 hm2 hk2))
          · go_ret
            exact ⟨by rw [HV.out, HI.out, hst.out]; rfl, (hK0.then_ hk).trans HK (fun i hi => .inr (by omega))⟩
          · go_roundw
            case rel => exact ⟨k + 1, by omega, by go_num, by unfold Hid; rw [HI.out, hst.out]; rfl, by unfold Hid; rw [← hps.out hmem]; exact hm2, HK.then_ hk2⟩
            case measure => simp [intOf]; omega
      · obtain rfl : k = l.length := by omega
        go_wp2_with fail
        go_ret
        exact ⟨by rw [HV.out, HI.out, namesFrom_end]; rfl, (hK0.then_ hk).trans HK (fun i hi => .inr (by omega))⟩
end Go.Proofs.YthiclhbnggehoaaGreatDoor
