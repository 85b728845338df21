/- What is proved: contract of find's comparison. -/
import Derived.Test.YtibjelonabhcmaaDoorTrI
namespace Go.Proofs.YtibjelonabhcmaaDoor
open Go.RowKit
set_option linter.unusedVariables false
set_option linter.unusedSimpArgs false
set_option maxRecDepth 100000 in
set_option maxHeartbeats 1000000 in
theorem fcmp_any (x : Rel) (n : Int) (w : World) : Calls Tryd.prog 73 #[relV x, .int .i64 n] w fun e w' => e = .returned (.int .i64 (wrap64 (x.i - n))) ∧ Below w.heap.size w w' := by
  unfold relV
  go_enter Tryd.func73, Tryd.ntmps73
  go_wp2_with fail
  go_ret
  exact ⟨rfl, (Below.refl w.heap.size w).alloc (Nat.le_refl _) _⟩
end Go.Proofs.YtibjelonabhcmaaDoor
