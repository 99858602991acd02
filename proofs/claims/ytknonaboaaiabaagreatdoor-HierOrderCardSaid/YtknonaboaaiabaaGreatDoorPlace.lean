/- What (*hier.Space).Place computes. -/
import Derived.Test.YtknonaboaaiabaaGreatDoorQuant
import Derived.Test.YtknonaboaaiabaaGreatDoorText
import Derived.Test.YtknonaboaaiabaaGreatDoorMap
namespace Go.Proofs.YtknonaboaaiabaaGreatDoor
open Go.RowKit
set_option linter.unusedVariables false
set_option linter.unusedSimpArgs false
/-- The Space in block g: its base's slices p, its marks mv, its map m of the marks' strings. -/
structure SpaceR (w : World) (g : Nat) (b : Kb) (p : KbA) (mv : Value) (m : Nat) (pl : List (ByteArray × Int)) : Prop where
  box : w.heap[g]? = some (.cells #[.slice p.a0 b.cs.length p.c0, .slice p.a1 b.rs.length p.c1, .slice p.a2 b.is.length p.c2, .slice p.a3 b.incls.length p.c3, .slice p.a4 b.roles.length p.c4, .slice p.a5 b.facts.length p.c5, .slice p.a6 b.links.length p.c6, mv, .map (some m)] 196 (0, 0))
  map : MapL w m Value.string (Value.int .i64) pl
theorem SpaceR.keep {S : Nat → Prop} {w w' : World} {g : Nat} {b : Kb} {p : KbA} {mv : Value} {m : Nat} {pl : List (ByteArray × Int)} (h : SpaceR w g b p mv m pl) (hk : Keeps S w w') (h1 : ¬ S g) (h2 : ¬ S m) : SpaceR w' g b p mv m pl :=
  ⟨hk.blk h.box h1, h.map.keep hk h2⟩
theorem zeroInt (w : World) : (zeroValue 3).run Tryz.prog w = .ok (.int .i64 0) w := by kernel_rfl
def placeV (pl : List (ByteArray × Int)) (t : ByteArray) : Value := .tuple #[((findL pl t).map (Value.int .i64)).getD (.int .i64 0), .bool (findL pl t).isSome]
def placeT (pl : List (ByteArray × Int)) (t : ByteArray) : Value := .tuple #[.int .i64 ((findL pl t).getD 0), .bool (findL pl t).isSome]
theorem placeV_eq (pl : List (ByteArray × Int)) (t : ByteArray) : placeV pl t = placeT pl t := by
  unfold placeV placeT; cases findL pl t <;> rfl
set_option maxRecDepth 100000 in
set_option maxHeartbeats 4000000 in
theorem place_calls (b : Kb) (p : KbA) (mv : Value) (m g : Nat) (pl : List (ByteArray × Int)) (c : Con) (A : Option Addr) (cap : Nat) (ok ok2 : Nat → Prop) (w : World) (hsp : SpaceR w g b p mv m pl)
    (h0 : Row1 ok2 w Value.string b.cs p.a0) (h1 : Row1 ok2 w Value.string b.rs p.a1) (hcs : ∀ s ∈ b.cs, s.size ≤ 12) (hrs : ∀ s ∈ b.rs, s.size ≤ 12) (hcl : b.cs.length ≤ 1000000) (hrl : b.rs.length ≤ 1000000) (hz : c.size ≤ 1000000)
    (hf : fitC b.cs.length b.rs.length c = true) (hc : ConR ok w c [.int .i64 c.op, .int .i64 c.n, .slice A c.args.length cap]) :
    Calls Tryz.prog 184 #[.pointer (some ⟨g, 0, none⟩), .agg #[.int .i64 c.op, .int .i64 c.n, .slice A c.args.length cap]] w fun e w' => e = .returned (placeT pl (textC b.cs b.rs c)) ∧ Keeps (fun _ => False) w w' := by
  obtain ⟨a0, a1, a2, a3, a4, a5, a6, c0, c1, c2, c3, c4, c5, c6⟩ := p
  dsimp only at h0 h1
  have hcall : ∀ W, Keeps (fun _ => False) w W → Calls Tryz.prog 222 #[.agg #[.slice a0 b.cs.length c0, .slice a1 b.rs.length c1, .slice a2 b.is.length c2], .agg #[.int .i64 c.op, .int .i64 c.n, .slice A c.args.length cap]] W fun e w' => e = .returned (.string (textC b.cs b.rs c)) ∧ Keeps (fun _ => False) W w' :=
    fun W hk => text_calls b.cs b.rs hcl hrl hcs hrs a0 a1 c0 c1 _ (c.size + 1) c A cap (fun k => ok k ∨ ok2 k) W (by omega) hz hf ((hc.mono (fun _ h => .inl h)).keep hk (fun _ _ h => h)) ((h0.mono (fun _ h => .inr h)).keep hk (fun _ _ h => h)) ((h1.mono (fun _ h => .inr h)).keep hk (fun _ _ h => h))
  have HCALL := Lib.hid hcall
  generalize textC b.cs b.rs c = tx at *
  have hlook : ∀ W, Keeps (fun _ => False) w W → (Instr.lookup 194 (.map (some m)) (.string tx) true).run Tryz.prog W = .ok (.tuple #[.int .i64 ((findL pl tx).getD 0), .bool (findL pl tx).isSome]) W := fun W hk => by
    rw [show Value.tuple #[.int .i64 ((findL pl tx).getD 0), .bool (findL pl tx).isSome] = placeV pl tx from (placeV_eq pl tx).symm]
    exact (hsp.map.keep hk (fun h => h)).look (keyStr Tryz.underlying9) Tryz.underlying194 (zeroInt W) tx true
  rw [show placeT pl tx = Value.tuple #[.int .i64 ((findL pl tx).getD 0), .bool (findL pl tx).isSome] from rfl]
  generalize (findL pl tx).getD 0 = z at *
  generalize (findL pl tx).isSome = fnd at *
  have HL := Lib.hid hlook
  have HS := Lib.hid hsp.box
  clear hcall hlook hsp h0 h1 hc hcs hrs
  go_enter Tryz.func184, Tryz.ntmps184
  go_wp2_with fail
  generalize hW0 : World.alloc _ _ = W0
  have hK0 : Keeps (fun _ => False) w W0 := by rw [← hW0]; repeat (first | exact Keeps.refl _ _ | refine Keeps.drewN ?_ _ | refine Keeps.drew ?_ | refine Keeps.alloc ?_ _ | refine Keeps.set ?_ (Or.inl (by rfl)) _)
  have hb0 : W0.heap[w.heap.size]? = some (.cells #[.int .i64 c.op, .int .i64 c.n, .slice A c.args.length cap] 94 (0, 0)) := by rw [← hW0]; exact blkNew rfl
  clear hW0
  have HP : ∀ w', Keeps (fun _ => False) w w' → w'.heap[w.heap.size]? = some (.cells #[.int .i64 c.op, .int .i64 c.n, .slice A c.args.length cap] 94 (0, 0)) → w'.cell? ⟨g, 0, none⟩ = some (.slice a0 b.cs.length c0) ∧ w'.cell? ⟨g, 1, none⟩ = some (.slice a1 b.rs.length c1) ∧ w'.cell? ⟨g, 2, none⟩ = some (.slice a2 b.is.length c2) ∧ w'.cell? ⟨g, 8, none⟩ = some (.map (some m)) ∧ w'.cell? ⟨w.heap.size, 0, none⟩ = some (.int .i64 c.op) ∧ w'.cell? ⟨w.heap.size, 1, none⟩ = some (.int .i64 c.n) ∧ w'.cell? ⟨w.heap.size, 2, none⟩ = some (.slice A c.args.length cap) ∧ (Instr.lookup 194 (.map (some m)) (.string tx) true).run Tryz.prog w' = .ok (.tuple #[.int .i64 z, .bool fnd]) w' := fun w' hk hb => by
    have hg := hk.blk HS.out (fun h => h)
    obtain ⟨x0, x1, x2⟩ := cells3 hb
    exact ⟨by rw [blkCell hg]; rfl, by rw [blkCell hg]; rfl, by rw [blkCell hg]; rfl, by rw [blkCell hg]; rfl, x0, x1, x2, HL.out w' hk⟩
  have HPP := Lib.hid HP
  have HB0 := Lib.hid hb0
  have HK0 := Lib.hid hK0
  clear HP hb0 hK0
  go_region_held3 (fun w' => w'.cell? ⟨g, 0, none⟩ = some (.slice a0 b.cs.length c0) ∧ w'.cell? ⟨g, 1, none⟩ = some (.slice a1 b.rs.length c1) ∧ w'.cell? ⟨g, 2, none⟩ = some (.slice a2 b.is.length c2) ∧ w'.cell? ⟨g, 8, none⟩ = some (.map (some m)) ∧ w'.cell? ⟨w.heap.size, 0, none⟩ = some (.int .i64 c.op) ∧ w'.cell? ⟨w.heap.size, 1, none⟩ = some (.int .i64 c.n) ∧ w'.cell? ⟨w.heap.size, 2, none⟩ = some (.slice A c.args.length cap) ∧ (Instr.lookup 194 (.map (some m)) (.string tx) true).run Tryz.prog w' = .ok (.tuple #[.int .i64 z, .bool fnd]) w')
    (first
      | exact HPP.out _ HK0.out HB0.out
      | exact HPP.out _ HK0.out.drew HB0.out
      | exact HPP.out _ (HK0.out.drew.then_ hk5) (hk5.blk HB0.out (fun h => h)))
    ((go_at_call 222; refine (HCALL.out _ (by first | exact HK0.out | exact HK0.out.drew)).mono ?_; clear HCALL; rintro e w5 ⟨rfl, hk5⟩))
  go_wp2_with fail
  exact bodyPost_ret (v := .tuple #[.int .i64 z, .bool fnd]) (by simp [results, Tryz.results184, go_sem]) rfl ⟨rfl, HK0.out.drew.then_ hk5⟩
end Go.Proofs.YtknonaboaaiabaaGreatDoor
