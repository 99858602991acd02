/- The reference's Of. -/
import Derived.Test.YthiclhbnggehoaaGreatDoorBase
namespace Go.Proofs.YthiclhbnggehoaaGreatDoor
open Go.RowKit
set_option linter.unusedVariables false
set_option linter.unusedSimpArgs false
set_option linter.unusedVariables false
set_option linter.unusedSimpArgs false
set_option maxRecDepth 100000 in
set_option maxHeartbeats 4000000 in
theorem of_calls (op n : Int) (A : Option Addr) (l cap : Nat) (w : World) : Calls Tryz.prog 64 #[.int .i64 op, .int .i64 n, .slice A l cap] w fun e w' => e = .returned (.agg #[.int .i64 op, .int .i64 n, .slice A l cap]) ∧ Keeps (fun _ => False) w w' := by
  go_enter Tryz.func64, Tryz.ntmps64
  go_wp2_with fail
  generalize hW0 : World.alloc _ _ = W0
  have hK0 : Keeps (fun _ => False) w W0 := by rw [← hW0]; repeat (first | exact Keeps.refl _ _ | refine Keeps.drewN ?_ _ | refine Keeps.drew ?_ | refine Keeps.alloc ?_ _ | refine Keeps.set ?_ (Or.inl (by rfl)) _)
  have hb0 : W0.heap[w.heap.size]? = some (.cells #[.int .i64 op, .int .i64 n, .slice A l cap] 37 (0, 0)) := by rw [← hW0]; exact blkNew rfl
  clear hW0
  obtain ⟨x0, x1, x2⟩ := cells3 hb0
  exact bodyPost_ret (v := .agg #[.int .i64 op, .int .i64 n, .slice A l cap]) (by simp [results, Tryz.results64, go_sem, x0, x1, x2]) rfl ⟨rfl, hK0⟩
end Go.Proofs.YthiclhbnggehoaaGreatDoor
