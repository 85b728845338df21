/- What is proved: contracts of column's at, joined and Get. -/
import Derived.Test.YtbcbknajhdaneaaTaS
import Derived.Laws.CopyOwn
import Derived.OwnWalk
import Derived.IntWalk
import Derived.Deep.OwnRows
namespace Go.Proofs.Ytbcbknajhdaneaa
open Go.RowKit
set_option linter.unusedVariables false
set_option linter.unusedSimpArgs false
/-- the address of a row's words -/
def atA (A : Option Addr) (W k : Nat) : Option Addr := if (k + 1) * W = k * W then A else A.map (·.add (k * W))
theorem elem_u : Try.prog.elem 43 = 26 := by kernel_rfl
theorem run_at (A : Option Addr) (n c W k : Nat) (h : (k + 1) * W ≤ c) (w : World) :
    (Instr.slice 43 (.slice A n c) (some (.int .i64 ((k * W : Nat) : Int))) (some (.int .i64 (((k + 1) * W : Nat) : Int))) (some (.int .i64 (((k + 1) * W : Nat) : Int)))).run Try.prog w = .ok (.slice (atA A W k) W W) w := by
  obtain ⟨i0, hi0, hz0, hz1, hz2⟩ := info_parts info_u64
  have hm : (k + 1) * W = k * W + W := Nat.succ_mul k W
  rw [run_slice_lhm w 43 A n c (by rw [elem_u]; exact Try.underlying43) .i64 .i64 .i64 _ _ _ (by omega) (by omega) (by omega) (by omega), elem_u]
  have hs : (sizeOf 26).run Try.prog w = .ok 1 w := by simp [sizeOf, typeInfo, hi0, hz1]
  rw [hs]
  simp only [Result.andThen, Int.toNat_natCast]
  unfold sliced atA
  rw [Nat.mul_one, hm, Nat.add_sub_cancel_left]
theorem i64_wrap {a : Int} (h : -9223372036854775808 ≤ a ∧ a ≤ 9223372036854775807) : IntKind.i64.wrap a = a := IntWalk.i64_in a h
theorem rows_le {k R W : Nat} (hk : k < R) : (k + 1) * W ≤ R * W := Nat.mul_le_mul_right W hk
set_option maxRecDepth 100000 in
theorem cat_any (W R k : Nat) (A : Option Addr) (n c : Nat) (w : World) (hk : k < R) (hW : W ≤ 4) (hR : R ≤ 1048578) (hn : n = W * R) (hc : n ≤ c) (hcm : c ≤ maxLen) :
    Calls Try.prog 117 #[colV W R A n c, .int .i64 k] w fun e w' => e = .returned (.slice (atA A W k) W W) ∧ Below w.heap.size w w' := by
  have h1 : (k + 1) * W ≤ R * W := rows_le hk
  have h2 : R * W = W * R := Nat.mul_comm _ _
  have hm : (k + 1) * W = k * W + W := Nat.succ_mul k W
  have h4 : R * W ≤ 1048578 * 4 := Nat.mul_le_mul hR hW
  have hrun := fun w => run_at A n c W k (by omega) w
  have e1 : IntKind.i64.wrap ((k : Int) * (W : Int)) = ((k * W : Nat) : Int) := by rw [← Int.natCast_mul, i64_wrap (by omega)]
  have e2 : IntKind.i64.wrap ((k : Int) + 1) = (k : Int) + 1 := by rw [i64_wrap (by omega)]
  have e3 : IntKind.i64.wrap (((k : Int) + 1) * (W : Int)) = (((k + 1) * W : Nat) : Int) := by rw [show ((k : Int) + 1) = ((k + 1 : Nat) : Int) from by omega, ← Int.natCast_mul, i64_wrap (by omega)]
  have c0 := new_cell w 68 #[.int .i64 (W : Int), .int .i64 (R : Int), .slice A n c] (k := 0) (v := .int .i64 (W : Int)) rfl
  have c2 := new_cell w 68 #[.int .i64 (W : Int), .int .i64 (R : Int), .slice A n c] (k := 2) (v := .slice A n c) rfl
  have hb := (Below.refl w.heap.size w).alloc (Nat.le_refl _) (.cells #[.int .i64 (W : Int), .int .i64 (R : Int), .slice A n c] 68)
  clear h1 h2 hm h4 hk hW hR hn hc hcm
  generalize k * W = f at *
  generalize (k + 1) * W = g at *
  unfold colV
  go_enter Try.func117, Try.ntmps117
  go_wp2_with fail
  go_quiet (fail)
  go_wp2_with fail
  go_ret
  exact ⟨rfl, below_drewN' hb _⟩
end Go.Proofs.Ytbcbknajhdaneaa
