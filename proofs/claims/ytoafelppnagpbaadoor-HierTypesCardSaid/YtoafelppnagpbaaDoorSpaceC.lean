/- The marks of a Space under a walk that turns records of its own; the footprint of the loop that lays the marks. -/
import Derived.Test.YtoafelppnagpbaaDoorSpace
namespace Go.Proofs.YtoafelppnagpbaaDoor
open Go.RowKit Go.Shelf
set_option linter.unusedVariables false
set_option linter.unusedSimpArgs false
/-- All blocks of cells but those of Z are as they were. -/
def KeepC (Z : Nat → Prop) (w w' : World) : Prop := ∀ k o, w.heap[k]? = some o → o.isCells = true → ¬ Z k → w'.heap[k]? = some o
theorem Keeps.toC {Z : Nat → Prop} {w w' : World} (h : Keeps Z w w') : KeepC Z w w' := fun k o hk _ hn => (h.block k (blkLt hk) hn).trans hk
theorem cellObj {w : World} {b o : Nat} {v : Value} (h : w.cell? ⟨b, o, none⟩ = some v) : ∃ ob, w.heap[b]? = some ob ∧ ob.isCells = true := by
  unfold World.cell? at h
  simp only at h
  split at h
  · rename_i cs t fz he; exact ⟨_, he, rfl⟩
  · cases h
theorem KeepC.cell {Z : Nat → Prop} {w w' : World} (h : KeepC Z w w') {b o : Nat} {v : Value} (hv : w.cell? ⟨b, o, none⟩ = some v) (hs : ¬ Z b) : w'.cell? ⟨b, o, none⟩ = some v := by
  obtain ⟨ob, h1, h2⟩ := cellObj hv
  exact (World.cell?_of_block (w := w) (a := ⟨b, o, none⟩) ((h b ob h1 h2 hs).trans h1.symm)).trans hv
mutual
theorem ConR.keepC {ok Z : Nat → Prop} {w w' : World} (hk : KeepC Z w w') (hs : ∀ k, ok k → ¬ Z k) : ∀ {c : Con} {cs : List Value}, ConR ok w c cs → ConR ok w' c cs
  | ⟨op, n, args⟩, cs, h => by
    simp only [ConR] at h ⊢
    obtain ⟨A, cap, h1, h2, h3⟩ := h
    exact ⟨A, cap, h1, h2, fun ha => by obtain ⟨b, o, e, hb, hr⟩ := h3 ha; exact ⟨b, o, e, hb, ConsR.keepC hk hs hb hr⟩⟩
theorem ConsR.keepC {ok Z : Nat → Prop} {w w' : World} (hk : KeepC Z w w') (hs : ∀ k, ok k → ¬ Z k) : ∀ {l : List Con} {b o : Nat}, ok b → ConsR ok w l b o → ConsR ok w' l b o
  | [], _, _, _, _ => by simp only [ConsR]
  | c :: r, b, o, hb, h => by
    simp only [ConsR] at h ⊢
    obtain ⟨⟨v0, v1, v2, h0, h1, h2, hc⟩, hr⟩ := h
    exact ⟨⟨v0, v1, v2, hk.cell h0 (hs b hb), hk.cell h1 (hs b hb), hk.cell h2 (hs b hb), ConR.keepC hk hs hc⟩, ConsR.keepC hk hs hb hr⟩
end
theorem OwnCons.keepC {Z : Nat → Prop} {w w' : World} {base : Nat} {v : Value} {l : List Con} (h : OwnCons w base v l) (hk : KeepC Z w w') (hs : ∀ b, base ≤ b → ¬ Z b) : OwnCons w' base v l := by
  obtain ⟨cells, h1, h2⟩ := h
  refine ⟨cells, ⟨h1.1, ?_⟩, fun i hi => ?_⟩
  · have hlt := h1.lt
    rcases h1.2 with hn | ⟨g, cap, cur, rfl, hb, hg, hr⟩
    · exact .inl hn
    · exact .inr ⟨g, cap, cur, rfl, hb, hk g _ hg rfl (hs g hb), hr⟩
  · obtain ⟨v0, v1, v2, e0, e1, e2, hc⟩ := h2 i hi
    exact ⟨v0, v1, v2, e0, e1, e2, hc.keepC hk (fun k hk => hs k hk.1)⟩
theorem MarkR.keepC {w w' : World} {base B S g m : Nat} {b : Kb} {p : KbA} {ms : List Con} {mv : Value} (h : MarkR w base B S g m b p ms mv) (hk : KeepC (fun _ => False) w w') (hm : w'.heap[m]? = w.heap[m]?) : MarkR w' base B S g m b p ms mv :=
  ⟨hk _ _ h.bbox rfl (fun h => h), hk _ _ h.sbox rfl (fun h => h), ⟨hk _ _ h.sp.box rfl (fun h => h), by obtain ⟨es, c, h1, h2⟩ := h.sp.map; exact ⟨es, c, hm.trans h1, h2⟩⟩, h.row.keepC hk (fun _ _ h => h)⟩
theorem grownC {X Y : World} {row : Option Nat} (hg : X.grownBy Y row) (hr : ∀ r, row = some r → ∃ o : Obj, X.heap[r]? = some o ∧ o.isCells = false) : KeepC (fun _ => False) X Y := fun k o hk ho _ =>
  (hg.block k (blkLt hk) (fun e => by obtain ⟨o', h1, h2⟩ := hr k e.symm; rw [hk] at h1; cases h1; rw [ho] at h2; cases h2)).trans hk
theorem putC {W : World} {l : Nat} {o : Obj} (o' : Obj) (hl : W.heap[l]? = some o) (ho : o.isCells = false) : KeepC (fun _ => False) W (W.putObj l o') := fun k ob hk hb _ =>
  ((putKeeps W l o').block k (blkLt hk) (fun e => by subst e; rw [hl] at hk; cases hk; rw [ho] at hb; cases hb)).trans hk
/-- The loop's footprint: the Space, and the row of its marks. -/
def MarkFp (g : Nat) (W : World) (k : Nat) : Prop := k = g ∨ ∃ mv, W.cell? ⟨g, 7, none⟩ = some mv ∧ mv.ownBlock = some k
def MarkInv (ok : Nat → Prop) (w3 : World) (base B S g m : Nat) (b : Kb) (p : KbA) (W : World) : Prop := Still ok w3 W ∧ ∃ ms mv, MarkR W base B S g m b p ms mv
theorem MarkR.cell7 {w : World} {base B S g m : Nat} {b : Kb} {p : KbA} {ms : List Con} {mv : Value} (h : MarkR w base B S g m b p ms mv) : w.cell? ⟨g, 7, none⟩ = some mv := by rw [blkCell h.sp.box]; rfl
theorem MarkR.own {w : World} {base B S g m : Nat} {b : Kb} {p : KbA} {ms : List Con} {mv : Value} (h : MarkR w base B S g m b p ms mv) {k : Nat} (hk : mv.ownBlock = some k) : base ≤ k ∧ k < w.heap.size ∧ ∃ o : Obj, w.heap[k]? = some o ∧ o.isCells = true := by
  obtain ⟨cells, h1, _⟩ := h.row
  refine ⟨(h1.lt k hk).1, (h1.lt k hk).2, ?_⟩
  rcases h1.2 with ⟨rfl, _⟩ | ⟨g', cap, cur, rfl, hb, hg, _⟩
  · simp [Value.ownBlock] at hk
  · simp only [Value.ownBlock, Option.some.injEq] at hk
    subst hk
    exact ⟨_, hg, rfl⟩
theorem markFoot (ok : Nat → Prop) (w3 : World) (base B S g m N : Nat) (b : Kb) (p : KbA) (hN : base ≤ N) (hw : w3.heap.size ≤ N) (hg : g < base ∧ m < base) : Foot N (MarkInv ok w3 base B S g m b p) (MarkFp g) where
  lt W k hI hf := by
    obtain ⟨_, ms, mv, hm⟩ := hI
    rcases hf with rfl | ⟨mv', h1, h2⟩
    · exact blkLt hm.sp.box
    · rw [hm.cell7] at h1
      cases h1
      exact (hm.own h2).2.1
  inv W o hI := by
    obtain ⟨h1, ms, mv, hm⟩ := hI
    have hk := (Keeps.refl (fun _ => False) W).alloc o
    exact ⟨h1.keeps hk (fun _ _ _ h => h), ms, mv, hm.keep hk (fun h => h) (fun h => h) (fun h => h) (fun h => h) (fun _ _ h => h)⟩
  fp W o k hI hf := by
    obtain ⟨h1, ms, mv, hm⟩ := hI
    have hk := (Keeps.refl (fun _ => False) W).alloc o
    rcases hf with rfl | ⟨mv', h2, h3⟩
    · exact .inl rfl
    · rw [hk.cell hm.cell7 (fun h => h)] at h2
      cases h2
      exact .inr ⟨mv, hm.cell7, h3⟩
  pinv W l o o' hl hlo ho hw2 hI := by
    obtain ⟨h1, ms, mv, hm⟩ := hI
    exact ⟨h1.keeps (putKeeps W l o') (fun k _ hk e => by omega), ms, mv, hm.keepC (putC o' hlo ho) ((putKeeps W l o').block m hm.sp.map.lt (by omega))⟩
  pfp W l o o' k hl hlo ho hw2 hI hf := by
    obtain ⟨h1, ms, mv, hm⟩ := hI
    rcases hf with rfl | ⟨mv', h2, h3⟩
    · exact .inl rfl
    · rw [(putC o' hlo ho).cell hm.cell7 (fun h => h)] at h2
      cases h2
      exact .inr ⟨mv, hm.cell7, h3⟩
/-- What a store of a mark owes the loop. -/
theorem markStep {ok : Nat → Prop} {w3 W W' : World} {base B S g m N : Nat} {b : Kb} {p : KbA} {ms ms' : List Con} {mv mv' : Value} (hm : MarkR W base B S g m b p ms mv) (hm' : MarkR W' base B S g m b p ms' mv') (hk : Keeps (fun k => k = g ∨ k = m ∨ mv.ownBlock = some k) W W') (ho : ∀ k, mv'.ownBlock = some k → mv.ownBlock = some k ∨ W.heap.size ≤ k)
    (hok : ∀ k, ok k → k < w3.heap.size → k ≠ g ∧ k ≠ m ∧ k < base) (hN : g < N ∧ m < N) : KeepsFrom N W W' ∧ KpI (MarkInv ok w3 base B S g m b p) (MarkFp g) W W' := by
  refine ⟨KeepsFrom.ofKeeps hk (fun k o hS hk2 hc => ?_), fun hI => ⟨⟨hI.1.keeps hk (fun k hok1 hlt hS => ?_), ms', mv', hm'⟩, KpR.ofKeeps hk (fun k o hS hk2 hc => ?_) (fun k hf => ?_)⟩⟩
  · rcases hS with rfl | rfl | h
    · exact hN.1
    · exact hN.2
    · obtain ⟨_, _, ob, h1, h2⟩ := hm.own h
      rw [hk2] at h1; cases h1; rw [hc] at h2; cases h2
  · have := hok k hok1 hlt
    rcases hS with h | h | h
    · exact this.1 h
    · exact this.2.1 h
    · have := (hm.own h).1; omega
  · rcases hS with rfl | rfl | h
    · exact .inl rfl
    · have := hm.sp.map.nocells hk2; rw [this] at hc; cases hc
    · exact .inr ⟨mv, hm.cell7, h⟩
  · rcases hf with rfl | ⟨mv2, h1, h2⟩
    · exact .inl (.inl rfl)
    · rw [hm'.cell7] at h1
      cases h1
      rcases ho k h2 with h | h
      · exact .inl (.inr ⟨mv, hm.cell7, h⟩)
      · exact .inr h
/-- A function that leaves with the marks of several loops behind it. -/
theorem leaves_marks {F : Fence} {n : Nat} {P : Program} {fn : Func} {tmps : Array Value} {R : Ending → World → Prop} : ∀ (Ds : List Nat) (w : World), Ds.Nodup → (∀ D ∈ Ds, w.heap[D]? = some (.deferred (some []))) →
    (∀ w', Keeps (fun i => i ∈ Ds) w w' → LeavesInM F n P fn tmps R [] .returning w') → LeavesInM F n P fn tmps R (Ds.map fun D => { target := .collected D, args := #[] }) .returning w
  | [], w, _, _, h => h w (Keeps.refl _ _)
  | D :: Ds, w, hn, hD, h => by
    simp only [List.nodup_cons] at hn
    simp only [List.map_cons, LeavesInM]
    refine ⟨by simp, .inl ⟨D, _, rfl, run_takeDeferred (hD D List.mem_cons_self), leaves_marks Ds _ hn.2 (fun D' h' => (putKeeps w D _).blk (hD D' (List.mem_cons_of_mem _ h')) (fun e => hn.1 (e ▸ h'))) (fun w' hk => h w' ?_)⟩⟩
    exact ((putKeeps w D _).sub (fun i hi => by rw [hi]; exact List.mem_cons_self)).then_ (hk.sub (fun i hi => List.mem_cons_of_mem _ hi))
end Go.Proofs.YtoafelppnagpbaaDoor
