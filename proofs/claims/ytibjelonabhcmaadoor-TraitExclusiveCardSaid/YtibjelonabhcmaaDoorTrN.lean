/- What is proved: the comparison of two relations. -/
import Derived.Test.YtibjelonabhcmaaDoorTrG
import Derived.Laws.StructEq
namespace Go.Proofs.YtibjelonabhcmaaDoor
open Go.RowKit
set_option linter.unusedVariables false
set_option linter.unusedSimpArgs false
def treq (x y : Rel) : Bool := x.a == y.a && (x.e == y.e && (x.w == y.w && (x.t == y.t && x.r == y.r)))
def releq (x y : Rel) : Bool := x.i == y.i && treq x y
theorem st29 : Tryd.prog.stoodInHeld 29 = false := by kernel_rfl
theorem st31 : Tryd.prog.stoodInHeld 31 = false := by kernel_rfl
set_option maxRecDepth 100000 in
set_option maxHeartbeats 1000000 in
theorem run_treq (w : World) (d : Nat) (x y : Rel) : (Op.equalIn (d + 2) 29 (.agg #[.bool x.a, .bool x.e, .int .i64 x.w, .int .i64 x.t, .int .i64 x.r]) (.agg #[.bool y.a, .bool y.e, .int .i64 y.w, .int .i64 y.t, .int .i64 y.r])).run Tryd.prog w = .ok (treq x y) w := by
  have hu : Tryd.prog.underlying 29 = some (.struct (Tryd.prog.fieldsOf 29)) := by kernel_rfl
  rw [run_equalIn_agg w (d + 1) _ _ _ hu st29]
  unfold treq
  cases h1 : (x.a == y.a) <;> cases h2 : (x.e == y.e) <;> cases h3 : (x.w == y.w) <;> cases h4 : (x.t == y.t) <;> cases h5 : (x.r == y.r)
  all_goals simp [go_sem, Tryd.underlying29, Tryd.underlying3, Tryd.underlying4, h1, h2, h3, h4, h5]
set_option maxRecDepth 100000 in
set_option maxHeartbeats 1000000 in
theorem run_req (w : World) (d : Nat) (x y : Rel) : (Op.equalIn (d + 3) 31 (relV x) (relV y)).run Tryd.prog w = .ok (releq x y) w := by
  have hu : Tryd.prog.underlying 31 = some (.struct (Tryd.prog.fieldsOf 31)) := by kernel_rfl
  have hT := run_treq w d x y
  unfold relV
  rw [run_equalIn_agg w (d + 2) _ _ _ hu st31]
  unfold releq
  cases h1 : (x.i == y.i)
  all_goals simp [go_sem, Tryd.underlying31, Tryd.underlying29, Tryd.underlying3, Tryd.underlying4, h1]
  unfold treq
  by_cases q1 : x.a = y.a <;> by_cases q2 : x.e = y.e <;> by_cases q3 : x.w = y.w <;> by_cases q4 : x.t = y.t <;> by_cases q5 : x.r = y.r <;> simp [q1, q2, q3, q4, q5]
theorem run_eql_rel (w : World) (x y : Rel) : (binOp .eql 31 (relV x) (relV y)).run Tryd.prog w = .ok (.bool (releq x y)) w := by
  have h := run_req w 9997 x y
  unfold relV at h ⊢
  rw [run_eql_struct, h]; rfl
theorem run_neq_rel (w : World) (x y : Rel) : (binOp .neq 31 (relV x) (relV y)).run Tryd.prog w = .ok (.bool (!releq x y)) w := by
  have h := run_req w 9997 x y
  unfold relV at h ⊢
  rw [run_neq_struct, h]; rfl
end Go.Proofs.YtibjelonabhcmaaDoor
