/- What hier.NewSpace computes: first its words. -/
import Derived.Test.YtknonaboaaiabaaGreatDoorPut
import Derived.Test.YtknonaboaaiabaaGreatDoorSorted
namespace Go.Proofs.YtknonaboaaiabaaGreatDoor
open Go.RowKit Go.Shelf
set_option linter.unusedVariables false
set_option linter.unusedSimpArgs false
section
variable {F : Fence} {nF : Nat} {P : Program} {ops : Array Oper} {rest : List Oper} {o : Oper} {a : Act} {Q : Exit → Act → World → Prop}
/-- append(v, x) in a fenced walk. -/
theorem wpIn_app1 {w : World} (hgd : o.guard = none) (s x : Operand) (t tx : TypeId) (ho : o.op = .call { callee := .builtin .append, args := #[s, x], argTypes := #[t, tx] })
    (base e : Nat) (z : Value) (size bytes : Nat) (ht : P.underlying t = some (.slice e)) (hinfo : (P.info? e).map (fun i => (i.zero, i.size, i.bytes)) = some (some z, size, bytes))
    (hzs : z.cells.size = size) (hsz : 0 < size) (hb0 : 0 < bytes) (v : Value) (n : Nat) (xs : List Value) (hown : w.ownsRow base e size v n xs) (hs : a.eval s = v) (xv : Value) (m : Nat) (news : List Value)
    (hsrc : Src P size tx xv m news w) (hx : a.eval x = xv) (hm : 0 < m) (hbytes : (n + m) * bytes ≤ 140737488355328) (hbase : base ≤ w.heap.size)
    (h : ∀ g cap w', w'.ownsRow base e size (.slice (some ⟨g, 0, none⟩) (n + m) cap) (n + m) (xs ++ news) → Keeps (fun k => v.ownBlock = some k) w w' → (v.ownBlock = some g ∨ g = w.heap.size) → n + m ≤ cap → g < w'.heap.size → wpListIn F nF P ops Q rest (a.put o.dst (.slice (some ⟨g, 0, none⟩) (n + m) cap)) w') : wpListIn F nF P ops Q (o :: rest) a w := by
  obtain ⟨i, hi, hz, hsize, hby⟩ := info_parts hinfo
  subst hsize; subst hby
  obtain ⟨v1, w1, hr1, h1, hg, hat⟩ := run_app (P := P) w base t tx o.type e i z ht hi hz hzs hsz hb0 v n xs hown xv m news hsrc hbytes hbase
  obtain ⟨g, cap, rfl, hcap, _, hlt⟩ := ownSlice h1 (by omega)
  refine wpListIn_plain hgd fun K hK => ?_
  unfold Oper.wpIn
  refine ⟨by simp [Oper.about, ho, resolve, Target.leads, Sem.run_pure], ?_⟩
  rw [Oper.semAt_plain F _ _ (by rw [ho]; intro c hc'; cases hc')]
  simp [execOp, ho, resolve, invoke, builtin, hs, hx, hr1, Result.andThen]
  exact hK _ _ (h g cap w1 h1 ⟨hg.os, hg.tape, hg.output, hg.size, fun k hk hn => hg.block k hk (fun e => hn e.symm)⟩ (by simpa [Value.ownBlock, eq_comm] using hat) hcap hlt)
end
/-- The normal forms whose parts are the marks. -/
def allC (b : Kb) (more : List Con) : List Con := b.incls.map eitherC ++ b.facts.map (fun x => nnfC x.2 false) ++ more.map (nnfC · false)
def namesC (l : List Con) : List (Int × Bool) := l.foldl (fun m c => markN m (preC c)) []
def nameM (cs rs : List ByteArray) (l : List Con) : List Con := (sortZ ((namesC l).map (·.1))).foldl (fun ms n => putM cs rs ms ⟨0, n, []⟩) []
def quantM (cs rs : List ByteArray) (ms : List Con) (d : Con) : List Con := if d.op = 6 ∨ d.op = 7 then putM cs rs ms (quantC d) else ms
def marksL (cs rs : List ByteArray) (all : List Con) : List Con := all.foldl (fun ms c => (preC c).foldl (quantM cs rs) ms) (nameM cs rs all)
def marksC (b : Kb) (more : List Con) : List Con := marksL b.cs b.rs (allC b more)
theorem foldl_take {α β : Type} (f : β → α → β) (x : β) (l : List α) (k : Nat) (h : k < l.length) : (l.take (k + 1)).foldl f x = f ((l.take k).foldl f x) l[k] := by
  rw [List.take_succ_eq_append_getElem h, List.foldl_append]; rfl
/-- What a row of concepts becomes by an append. -/
theorem cons_step {W0 wr w5 w6 : World} {base : Nat} {v : Value} {l : List Con} {r : Con} {cells : List Value} {v0 v1 v2 : Value} {g cap : Nat} (HO : OwnCons wr base v l) (hb : base ≤ wr.heap.size) (hka : Keeps (fun _ => False) wr w5)
    (hc5 : ConR (fun b => wr.heap.size ≤ b) w5 r [v0, v1, v2]) (hcells : w5.ownsRow base 94 3 v l.length cells) (ho : w6.ownsRow base 94 3 (.slice (some ⟨g, 0, none⟩) (l.length + 1) cap) (l.length + 1) (cells ++ [v0, v1, v2]))
    (hk6 : Keeps (fun k => v.ownBlock = some k) w5 w6) (hat : v.ownBlock = some g ∨ g = w5.heap.size) (hw : Keeps (fun _ => False) W0 wr) (hW : W0.heap.size ≤ base) : OwnCons w6 base (.slice (some ⟨g, 0, none⟩) (l.length + 1) cap) (l ++ [r]) ∧ Keeps (fun _ => False) W0 w6 := by
  have HO' := HO
  obtain ⟨cl, hcl, _⟩ := HO'
  have hlt := hcl.lt
  exact ⟨(HO.keep hka (fun _ _ h => h)).app hcells (hc5.mono (fun k hk => ⟨by omega, fun e => by have := (hlt k e).2; omega⟩)) ho hk6 hat, (hw.then_ hka).trans hk6 (fun i hi => .inr (by have := (hlt i hi).1; omega))⟩
theorem OwnCons.row {w : World} {base : Nat} {v : Value} {l : List Con} (h : OwnCons w base v l) : ∃ cells, w.ownsRow base 94 3 v l.length cells := by obtain ⟨c, h1, _⟩ := h; exact ⟨c, h1⟩
theorem OwnCons.consAt {w : World} {base : Nat} {v : Value} {l : List Con} (h : OwnCons w base v l) : ∃ A cap, v = .slice A l.length cap ∧ l.length ≤ cap ∧ ConsAt (fun k => base ≤ k) w l A := by
  obtain ⟨A, cap, hv, hc⟩ := h.node 0 0
  simp only [ConR] at hc
  obtain ⟨A1, cap1, e, hcap, hr⟩ := hc
  simp only [List.cons.injEq, Value.slice.injEq, and_true, true_and] at e
  obtain ⟨rfl, rfl⟩ := e
  exact ⟨A, cap, hv, hcap, hr⟩
theorem ConsAt.get {ok : Nat → Prop} {w : World} {l : List Con} {A : Option Addr} (h : ConsAt ok w l A) (k : Nat) (hk : k < l.length) : ∃ b o A' cap', A = some ⟨b, o, none⟩ ∧ ok b ∧ b < w.heap.size ∧ w.cell? ⟨b, o + k * 3, none⟩ = some (.int .i64 l[k].op) ∧ w.cell? ⟨b, o + k * 3 + 1, none⟩ = some (.int .i64 l[k].n) ∧ w.cell? ⟨b, o + k * 3 + 2, none⟩ = some (.slice A' l[k].args.length cap') ∧ ConR ok w l[k] [.int .i64 l[k].op, .int .i64 l[k].n, .slice A' l[k].args.length cap'] := by
  obtain ⟨b, o, e, hb, hr⟩ := h (by intro h; subst h; simp at hk)
  obtain ⟨A', cap', e0, e1, e2, hc⟩ := hr.at_ k hk
  exact ⟨b, o, A', cap', e, hb, World.block_lt_of_cell? w _ e0, e0, e1, e2, hc⟩
mutual
theorem preC_size : ∀ c : Con, (preC c).length = c.size
  | ⟨op, n, args⟩ => by simp only [preC, Con.size, List.length_cons, preL_size args]
theorem preL_size : ∀ l : List Con, (preL l).length = Con.sizes l
  | [] => rfl
  | c :: r => by simp only [preL, Con.sizes, List.length_append, preC_size c, preL_size r]
end
mutual
theorem pre_fit {nc nr : Nat} : ∀ {c : Con}, fitC nc nr c = true → ∀ d ∈ preC c, fitC nc nr d = true ∧ d.size ≤ c.size
  | ⟨op, n, args⟩, h, d, hd => by
    simp only [preC, List.mem_cons] at hd
    rcases hd with rfl | hd
    · exact ⟨h, Nat.le_refl _⟩
    · have := preL_fit (fit_parts h).2.2.2 d hd
      exact ⟨this.1, by simp only [Con.size]; omega⟩
theorem preL_fit {nc nr : Nat} : ∀ {l : List Con}, fitL nc nr l = true → ∀ d ∈ preL l, fitC nc nr d = true ∧ d.size ≤ Con.sizes l
  | [], _, d, hd => by simp [preL] at hd
  | c :: r, h, d, hd => by
    simp only [fitL, Bool.and_eq_true] at h
    simp only [preL, List.mem_append] at hd
    rcases hd with hd | hd
    · have := pre_fit h.1 d hd; exact ⟨this.1, by simp only [Con.sizes]; omega⟩
    · have := preL_fit h.2 d hd; exact ⟨this.1, by simp only [Con.sizes]; omega⟩
end
theorem putL_len {κ ν : Type} [DecidableEq κ] (l : List (κ × ν)) (x : κ) (u : ν) : (putL l x u).length ≤ l.length + 1 := by
  induction l with
  | nil => simp [putL]
  | cons p r ih => unfold putL; split <;> simp <;> omega
theorem putL_key {κ ν : Type} [DecidableEq κ] {l : List (κ × ν)} {x : κ} {u : ν} {y : κ} (h : y ∈ (putL l x u).map (·.1)) : y = x ∨ y ∈ l.map (·.1) := by
  induction l with
  | nil => simpa [putL] using h
  | cons p r ih =>
    unfold putL at h
    split at h
    · simp only [List.map_cons, List.mem_cons] at h ⊢
      rcases h with h | h
      · exact .inl h
      · exact .inr (.inr h)
    · simp only [List.map_cons, List.mem_cons] at h ⊢
      rcases h with h | h
      · exact .inr (.inl h)
      · rcases ih h with h | h
        · exact .inl h
        · exact .inr (.inr h)
theorem markN_len (m : List (Int × Bool)) (cs : List Con) : (markN m cs).length ≤ m.length + cs.length := by
  induction cs generalizing m with
  | nil => simp [markN]
  | cons c r ih =>
    have h1 := ih (if c.op = 0 then putL m c.n true else m)
    have h2 := putL_len m c.n true
    have e : markN m (c :: r) = markN (if c.op = 0 then putL m c.n true else m) r := rfl
    rw [e]
    simp only [List.length_cons]
    split at h1 <;> split <;> omega
theorem markN_key {m : List (Int × Bool)} {cs : List Con} {y : Int} (h : y ∈ (markN m cs).map (·.1)) : y ∈ m.map (·.1) ∨ ∃ c ∈ cs, c.op = 0 ∧ c.n = y := by
  induction cs generalizing m with
  | nil => exact .inl h
  | cons c r ih =>
    have e : markN m (c :: r) = markN (if c.op = 0 then putL m c.n true else m) r := rfl
    rw [e] at h
    rcases ih h with h1 | ⟨d, hd, h2⟩
    · split at h1
      · rename_i h0
        rcases putL_key h1 with rfl | h3
        · exact .inr ⟨c, List.mem_cons_self, h0, rfl⟩
        · exact .inl h3
      · exact .inl h1
    · exact .inr ⟨d, List.mem_cons_of_mem _ hd, h2⟩
theorem namesF_len (l : List Con) (m : List (Int × Bool)) : (l.foldl (fun m c => markN m (preC c)) m).length ≤ m.length + Con.sizes l := by
  induction l generalizing m with
  | nil => simp [Con.sizes]
  | cons c r ih =>
    have h1 := ih (markN m (preC c))
    have h2 := markN_len m (preC c)
    rw [preC_size] at h2
    simp only [List.foldl_cons, Con.sizes]
    omega
theorem namesF_key {nc nr : Nat} (l : List Con) (m : List (Int × Bool)) (hf : ∀ c ∈ l, fitC nc nr c = true) {y : Int} (h : y ∈ (l.foldl (fun m c => markN m (preC c)) m).map (·.1)) : y ∈ m.map (·.1) ∨ (0 ≤ y ∧ y < nc) := by
  induction l generalizing m with
  | nil => exact .inl h
  | cons c r ih =>
    rcases ih (markN m (preC c)) (fun d hd => hf d (List.mem_cons_of_mem _ hd)) h with h1 | h1
    · rcases markN_key h1 with h2 | ⟨d, hd, h0, h3⟩
      · exact .inl h2
      · right
        have := (pre_fit (hf c List.mem_cons_self) d hd).1
        obtain ⟨op, n, args⟩ := d
        obtain ⟨_, _, hn, _⟩ := fit_parts this
        simp only [Con.op, Con.n] at h0 h3
        subst h0; subst h3
        simpa [nodeOk] using hn
    · exact .inr h1
theorem putM_len (cs rs : List ByteArray) (ms : List Con) (c : Con) : (putM cs rs ms c).length ≤ ms.length + 1 := by
  unfold putM; split <;> simp
theorem nameF_len (cs rs : List ByteArray) (l : List Int) (ms : List Con) : (l.foldl (fun ms n => putM cs rs ms ⟨0, n, []⟩) ms).length ≤ ms.length + l.length := by
  induction l generalizing ms with
  | nil => simp
  | cons c r ih =>
    have h1 := ih (putM cs rs ms ⟨0, c, []⟩)
    have h2 := putM_len cs rs ms ⟨0, c, []⟩
    simp only [List.foldl_cons, List.length_cons]
    omega
theorem quantF_len (cs rs : List ByteArray) (l : List Con) (ms : List Con) : (l.foldl (quantM cs rs) ms).length ≤ ms.length + l.length := by
  induction l generalizing ms with
  | nil => simp
  | cons c r ih =>
    have h1 := ih (quantM cs rs ms c)
    have h2 : (quantM cs rs ms c).length ≤ ms.length + 1 := by
      unfold quantM; split
      · exact putM_len _ _ _ _
      · omega
    simp only [List.foldl_cons, List.length_cons]
    omega
theorem marksF_len (cs rs : List ByteArray) (l : List Con) (ms : List Con) : (l.foldl (fun ms c => (preC c).foldl (quantM cs rs) ms) ms).length ≤ ms.length + Con.sizes l := by
  induction l generalizing ms with
  | nil => simp [Con.sizes]
  | cons c r ih =>
    have h1 := ih ((preC c).foldl (quantM cs rs) ms)
    have h2 := quantF_len cs rs (preC c) ms
    rw [preC_size] at h2
    simp only [List.foldl_cons, Con.sizes]
    omega
theorem sizes_take (l : List Con) (k : Nat) : Con.sizes (l.take k) ≤ Con.sizes l := by
  induction l generalizing k with
  | nil => simp
  | cons c r ih =>
    cases k with
    | zero => simp [Con.sizes]
    | succ k => have := ih k; simp only [List.take_succ_cons, Con.sizes]; omega
theorem sortZ_len (l : List Int) : (sortZ l).length = l.length := List.length_mergeSort l
theorem sortZ_mem {l : List Int} {y : Int} (h : y ∈ sortZ l) : y ∈ l := List.mem_mergeSort.1 h
end Go.Proofs.YtknonaboaaiabaaGreatDoor
/- The marks of a Space under a walk that turns records of its own; the footprint of the loop that lays the marks. -/
namespace Go.Proofs.YtknonaboaaiabaaGreatDoor
open Go.RowKit Go.Shelf
set_option linter.unusedVariables false
set_option linter.unusedSimpArgs false
/-- All blocks of cells but those of Z are as they were. -/
def KeepC (Z : Nat → Prop) (w w' : World) : Prop := ∀ k o, w.heap[k]? = some o → o.isCells = true → ¬ Z k → w'.heap[k]? = some o
theorem Keeps.toC {Z : Nat → Prop} {w w' : World} (h : Keeps Z w w') : KeepC Z w w' := fun k o hk _ hn => (h.block k (blkLt hk) hn).trans hk
theorem cellObj {w : World} {b o : Nat} {v : Value} (h : w.cell? ⟨b, o, none⟩ = some v) : ∃ ob, w.heap[b]? = some ob ∧ ob.isCells = true := by
  unfold World.cell? at h
  simp only at h
  split at h
  · rename_i cs t fz he; exact ⟨_, he, rfl⟩
  · cases h
theorem KeepC.cell {Z : Nat → Prop} {w w' : World} (h : KeepC Z w w') {b o : Nat} {v : Value} (hv : w.cell? ⟨b, o, none⟩ = some v) (hs : ¬ Z b) : w'.cell? ⟨b, o, none⟩ = some v := by
  obtain ⟨ob, h1, h2⟩ := cellObj hv
  exact (World.cell?_of_block (w := w) (a := ⟨b, o, none⟩) ((h b ob h1 h2 hs).trans h1.symm)).trans hv
mutual
theorem ConR.keepC {ok Z : Nat → Prop} {w w' : World} (hk : KeepC Z w w') (hs : ∀ k, ok k → ¬ Z k) : ∀ {c : Con} {cs : List Value}, ConR ok w c cs → ConR ok w' c cs
  | ⟨op, n, args⟩, cs, h => by
    simp only [ConR] at h ⊢
    obtain ⟨A, cap, h1, h2, h3⟩ := h
    exact ⟨A, cap, h1, h2, fun ha => by obtain ⟨b, o, e, hb, hr⟩ := h3 ha; exact ⟨b, o, e, hb, ConsR.keepC hk hs hb hr⟩⟩
theorem ConsR.keepC {ok Z : Nat → Prop} {w w' : World} (hk : KeepC Z w w') (hs : ∀ k, ok k → ¬ Z k) : ∀ {l : List Con} {b o : Nat}, ok b → ConsR ok w l b o → ConsR ok w' l b o
  | [], b, _, hb, h => by
    simp only [ConsR] at h ⊢
    exact fun hn => by obtain ⟨cs, t, e⟩ := h hn; exact ⟨cs, t, hk b _ e rfl (hs b hb)⟩
  | c :: r, b, o, hb, h => by
    simp only [ConsR] at h ⊢
    obtain ⟨⟨v0, v1, v2, h0, h1, h2, hc⟩, hr⟩ := h
    exact ⟨⟨v0, v1, v2, hk.cell h0 (hs b hb), hk.cell h1 (hs b hb), hk.cell h2 (hs b hb), ConR.keepC hk hs hc⟩, ConsR.keepC hk hs hb hr⟩
end
theorem OwnCons.keepC {Z : Nat → Prop} {w w' : World} {base : Nat} {v : Value} {l : List Con} (h : OwnCons w base v l) (hk : KeepC Z w w') (hs : ∀ b, base ≤ b → ¬ Z b) : OwnCons w' base v l := by
  obtain ⟨cells, h1, h2⟩ := h
  refine ⟨cells, ⟨h1.1, ?_⟩, fun i hi => ?_⟩
  · have hlt := h1.lt
    rcases h1.2 with hn | ⟨g, cap, cur, rfl, hb, hg, hr⟩
    · exact .inl hn
    · exact .inr ⟨g, cap, cur, rfl, hb, hk g _ hg rfl (hs g hb), hr⟩
  · obtain ⟨v0, v1, v2, e0, e1, e2, hc⟩ := h2 i hi
    exact ⟨v0, v1, v2, e0, e1, e2, hc.keepC hk (fun k hk => hs k hk.1)⟩
theorem MarkR.keepC {w w' : World} {base B S g m : Nat} {b : Kb} {p : KbA} {ms : List Con} {mv : Value} (h : MarkR w base B S g m b p ms mv) (hk : KeepC (fun _ => False) w w') (hm : w'.heap[m]? = w.heap[m]?) : MarkR w' base B S g m b p ms mv :=
  ⟨hk _ _ h.bbox rfl (fun h => h), hk _ _ h.sbox rfl (fun h => h), ⟨hk _ _ h.sp.box rfl (fun h => h), by obtain ⟨es, c, h1, h2⟩ := h.sp.map; exact ⟨es, c, hm.trans h1, h2⟩⟩, h.row.keepC hk (fun _ _ h => h)⟩
theorem grownC {X Y : World} {row : Option Nat} (hg : X.grownBy Y row) (hr : ∀ r, row = some r → ∃ o : Obj, X.heap[r]? = some o ∧ o.isCells = false) : KeepC (fun _ => False) X Y := fun k o hk ho _ =>
  (hg.block k (blkLt hk) (fun e => by obtain ⟨o', h1, h2⟩ := hr k e.symm; rw [hk] at h1; cases h1; rw [ho] at h2; cases h2)).trans hk
theorem putC {W : World} {l : Nat} {o : Obj} (o' : Obj) (hl : W.heap[l]? = some o) (ho : o.isCells = false) : KeepC (fun _ => False) W (W.putObj l o') := fun k ob hk hb _ =>
  ((putKeeps W l o').block k (blkLt hk) (fun e => by subst e; rw [hl] at hk; cases hk; rw [ho] at hb; cases hb)).trans hk
/-- The loop's footprint: the Space, and the row of its marks. -/
def MarkFp (g : Nat) (W : World) (k : Nat) : Prop := k = g ∨ ∃ mv, W.cell? ⟨g, 7, none⟩ = some mv ∧ mv.ownBlock = some k
def MarkInv (ok : Nat → Prop) (w3 : World) (base B S g m : Nat) (b : Kb) (p : KbA) (W : World) : Prop := Still ok w3 W ∧ ∃ ms mv, MarkR W base B S g m b p ms mv
theorem MarkR.cell7 {w : World} {base B S g m : Nat} {b : Kb} {p : KbA} {ms : List Con} {mv : Value} (h : MarkR w base B S g m b p ms mv) : w.cell? ⟨g, 7, none⟩ = some mv := by rw [blkCell h.sp.box]; rfl
theorem MarkR.own {w : World} {base B S g m : Nat} {b : Kb} {p : KbA} {ms : List Con} {mv : Value} (h : MarkR w base B S g m b p ms mv) {k : Nat} (hk : mv.ownBlock = some k) : base ≤ k ∧ k < w.heap.size ∧ ∃ o : Obj, w.heap[k]? = some o ∧ o.isCells = true := by
  obtain ⟨cells, h1, _⟩ := h.row
  refine ⟨(h1.lt k hk).1, (h1.lt k hk).2, ?_⟩
  rcases h1.2 with ⟨rfl, _⟩ | ⟨g', cap, cur, rfl, hb, hg, _⟩
  · simp [Value.ownBlock] at hk
  · simp only [Value.ownBlock, Option.some.injEq] at hk
    subst hk
    exact ⟨_, hg, rfl⟩
theorem markFoot (ok : Nat → Prop) (w3 : World) (base B S g m N : Nat) (b : Kb) (p : KbA) (hN : base ≤ N) (hw : w3.heap.size ≤ N) (hg : g < base ∧ m < base) : Foot N (MarkInv ok w3 base B S g m b p) (MarkFp g) where
  lt W k hI hf := by
    obtain ⟨_, ms, mv, hm⟩ := hI
    rcases hf with rfl | ⟨mv', h1, h2⟩
    · exact blkLt hm.sp.box
    · rw [hm.cell7] at h1
      cases h1
      exact (hm.own h2).2.1
  inv W o hI := by
    obtain ⟨h1, ms, mv, hm⟩ := hI
    have hk := (Keeps.refl (fun _ => False) W).alloc o
    exact ⟨h1.keeps hk (fun _ _ _ h => h), ms, mv, hm.keep hk (fun h => h) (fun h => h) (fun h => h) (fun h => h) (fun _ _ h => h)⟩
  fp W o k hI hf := by
    obtain ⟨h1, ms, mv, hm⟩ := hI
    have hk := (Keeps.refl (fun _ => False) W).alloc o
    rcases hf with rfl | ⟨mv', h2, h3⟩
    · exact .inl rfl
    · rw [hk.cell hm.cell7 (fun h => h)] at h2
      cases h2
      exact .inr ⟨mv, hm.cell7, h3⟩
  pinv W l o o' hl hlo ho hw2 hI := by
    obtain ⟨h1, ms, mv, hm⟩ := hI
    exact ⟨h1.keeps (putKeeps W l o') (fun k _ hk e => by omega), ms, mv, hm.keepC (putC o' hlo ho) ((putKeeps W l o').block m hm.sp.map.lt (by omega))⟩
  pfp W l o o' k hl hlo ho hw2 hI hf := by
    obtain ⟨h1, ms, mv, hm⟩ := hI
    rcases hf with rfl | ⟨mv', h2, h3⟩
    · exact .inl rfl
    · rw [(putC o' hlo ho).cell hm.cell7 (fun h => h)] at h2
      cases h2
      exact .inr ⟨mv, hm.cell7, h3⟩
/-- What a store of a mark owes the loop. -/
theorem markStep {ok : Nat → Prop} {w3 W W' : World} {base B S g m N : Nat} {b : Kb} {p : KbA} {ms ms' : List Con} {mv mv' : Value} (hm : MarkR W base B S g m b p ms mv) (hm' : MarkR W' base B S g m b p ms' mv') (hk : Keeps (fun k => k = g ∨ k = m ∨ mv.ownBlock = some k) W W') (ho : ∀ k, mv'.ownBlock = some k → mv.ownBlock = some k ∨ W.heap.size ≤ k)
    (hok : ∀ k, ok k → k < w3.heap.size → k ≠ g ∧ k ≠ m ∧ k < base) (hN : g < N ∧ m < N) : KeepsFrom N W W' ∧ KpI (MarkInv ok w3 base B S g m b p) (MarkFp g) W W' := by
  refine ⟨KeepsFrom.ofKeeps hk (fun k o hS hk2 hc => ?_), fun hI => ⟨⟨hI.1.keeps hk (fun k hok1 hlt hS => ?_), ms', mv', hm'⟩, KpR.ofKeeps hk (fun k o hS hk2 hc => ?_) (fun k hf => ?_)⟩⟩
  · rcases hS with rfl | rfl | h
    · exact hN.1
    · exact hN.2
    · obtain ⟨_, _, ob, h1, h2⟩ := hm.own h
      rw [hk2] at h1; cases h1; rw [hc] at h2; cases h2
  · have := hok k hok1 hlt
    rcases hS with h | h | h
    · exact this.1 h
    · exact this.2.1 h
    · have := (hm.own h).1; omega
  · rcases hS with rfl | rfl | h
    · exact .inl rfl
    · have := hm.sp.map.nocells hk2; rw [this] at hc; cases hc
    · exact .inr ⟨mv, hm.cell7, h⟩
  · rcases hf with rfl | ⟨mv2, h1, h2⟩
    · exact .inl (.inl rfl)
    · rw [hm'.cell7] at h1
      cases h1
      rcases ho k h2 with h | h
      · exact .inl (.inr ⟨mv, hm.cell7, h⟩)
      · exact .inr h
/-- A function that leaves with the marks of several loops behind it. -/
theorem leaves_marks {F : Fence} {n : Nat} {P : Program} {fn : Func} {tmps : Array Value} {R : Ending → World → Prop} : ∀ (Ds : List Nat) (w : World), Ds.Nodup → (∀ D ∈ Ds, w.heap[D]? = some (.deferred (some []))) →
    (∀ w', Keeps (fun i => i ∈ Ds) w w' → LeavesInM F n P fn tmps R [] .returning w') → LeavesInM F n P fn tmps R (Ds.map fun D => { target := .collected D, args := #[] }) .returning w
  | [], w, _, _, h => h w (Keeps.refl _ _)
  | D :: Ds, w, hn, hD, h => by
    simp only [List.nodup_cons] at hn
    simp only [List.map_cons, LeavesInM]
    refine ⟨by simp, .inl ⟨D, _, rfl, run_takeDeferred (hD D List.mem_cons_self), leaves_marks Ds _ hn.2 (fun D' h' => (putKeeps w D _).blk (hD D' (List.mem_cons_of_mem _ h')) (fun e => hn.1 (e ▸ h'))) (fun w' hk => h w' ?_)⟩⟩
    exact ((putKeeps w D _).sub (fun i hi => by rw [hi]; exact List.mem_cons_self)).then_ (hk.sub (fun i hi => List.mem_cons_of_mem _ hi))
end Go.Proofs.YtknonaboaaiabaaGreatDoor
