/- What is proved: columns: contracts of column's Check and Same and of the document's Right and Same. -/
import Derived.Test.YtbcbknajhdaneaaTaD
namespace Go.Proofs.Ytbcbknajhdaneaa
open Go.RowKit
set_option linter.unusedVariables false
set_option linter.unusedSimpArgs false
/-- a column's cells -/
def colV (W R : Int) (A : Option Addr) (n c : Nat) : Value := .agg #[.int .i64 W, .int .i64 R, .slice A n c]
/-- may a column be? -/
def colB (W R : Int) (n : Nat) : Bool := decide (0 ≤ W ∧ W ≤ 4 ∧ 0 ≤ R ∧ R ≤ 1048578 ∧ (n : Int) = W * R)
theorem col_ways (W R : Int) (n : Nat) : (W < 0 ∧ colB W R n = false) ∨ (0 ≤ W ∧ 4 < W ∧ colB W R n = false) ∨ (0 ≤ W ∧ W ≤ 4 ∧ R < 0 ∧ colB W R n = false) ∨ (0 ≤ W ∧ W ≤ 4 ∧ 0 ≤ R ∧ 1048578 < R ∧ colB W R n = false) ∨
    (0 ≤ W ∧ W ≤ 4 ∧ 0 ≤ R ∧ R ≤ 1048578 ∧ ((n : Int) == W * R) = false ∧ colB W R n = false) ∨ (0 ≤ W ∧ W ≤ 4 ∧ 0 ≤ R ∧ R ≤ 1048578 ∧ ((n : Int) == W * R) = true ∧ colB W R n = true) := by
  unfold colB
  rcases (show W < 0 ∨ (0 ≤ W ∧ 4 < W) ∨ (0 ≤ W ∧ W ≤ 4) from by omega) with h | ⟨h, h2⟩ | ⟨h, h2⟩
  · exact .inl ⟨h, decide_eq_false (by omega)⟩
  · exact .inr (.inl ⟨h, h2, decide_eq_false (by omega)⟩)
  · rcases (show R < 0 ∨ (0 ≤ R ∧ 1048578 < R) ∨ (0 ≤ R ∧ R ≤ 1048578) from by omega) with g | ⟨g, g2⟩ | ⟨g, g2⟩
    · exact .inr (.inr (.inl ⟨h, h2, g, decide_eq_false (by omega)⟩))
    · exact .inr (.inr (.inr (.inl ⟨h, h2, g, g2, decide_eq_false (by omega)⟩)))
    · by_cases e : (n : Int) = W * R
      · exact .inr (.inr (.inr (.inr (.inr ⟨h, h2, g, g2, by simpa using e, decide_eq_true ⟨h, h2, g, g2, e⟩⟩))))
      · exact .inr (.inr (.inr (.inr (.inl ⟨h, h2, g, g2, by simpa using e, decide_eq_false (fun q => e q.2.2.2.2)⟩))))
theorem mul_small {W R : Int} (h : 0 ≤ W) (h2 : W ≤ 4) (g : 0 ≤ R) (g2 : R ≤ 1048578) : 0 ≤ W * R ∧ W * R ≤ 4194312 := by
  rcases (show W = 0 ∨ W = 1 ∨ W = 2 ∨ W = 3 ∨ W = 4 from by omega) with rfl | rfl | rfl | rfl | rfl <;> omega
set_option maxRecDepth 100000 in
set_option maxHeartbeats 2000000 in
theorem rcol_any (W R : Int) (A : Option Addr) (n c : Nat) (w : World) (hn : n ≤ maxLen) : Calls Try.prog 71 #[colV W R A n c] w fun e w' => e = .returned (.bool (colB W R n)) ∧ Below w.heap.size w w' := by
  unfold maxLen at hn
  unfold colV
  rcases col_ways W R n with ⟨h, k⟩ | ⟨h, h2, k⟩ | ⟨h, h2, g, k⟩ | ⟨h, h2, g, g2, k⟩ | ⟨h, h2, g, g2, e, k⟩ | ⟨h, h2, g, g2, e, k⟩
  case inl =>
    have t1 : decide (0 ≤ W) = false := decide_eq_false (by omega)
    rw [k]; clear k
    go_enter Try.func71, Try.ntmps71
    go_wp2_with fail
    go_ret
    exact ⟨rfl, (Below.refl _ _).alloc (Nat.le_refl _) _⟩
  case inr.inl =>
    have t1 : decide (0 ≤ W) = true := decide_eq_true (by omega)
    have t2 : decide (W ≤ 4) = false := decide_eq_false (by omega)
    rw [k]; clear k
    go_enter Try.func71, Try.ntmps71
    go_wp2_with fail
    go_ret
    exact ⟨rfl, (Below.refl _ _).alloc (Nat.le_refl _) _⟩
  case inr.inr.inl =>
    have t1 : decide (0 ≤ W) = true := decide_eq_true (by omega)
    have t2 : decide (W ≤ 4) = true := decide_eq_true (by omega)
    have t3 : decide (0 ≤ R) = false := decide_eq_false (by omega)
    rw [k]; clear k
    go_enter Try.func71, Try.ntmps71
    go_wp2_with fail
    go_ret
    exact ⟨rfl, (Below.refl _ _).alloc (Nat.le_refl _) _⟩
  case inr.inr.inr.inl =>
    have t1 : decide (0 ≤ W) = true := decide_eq_true (by omega)
    have t2 : decide (W ≤ 4) = true := decide_eq_true (by omega)
    have t3 : decide (0 ≤ R) = true := decide_eq_true (by omega)
    have t4 : decide (R ≤ 1048578) = false := decide_eq_false (by omega)
    rw [k]; clear k
    go_enter Try.func71, Try.ntmps71
    go_wp2_with fail
    go_ret
    exact ⟨rfl, (Below.refl _ _).alloc (Nat.le_refl _) _⟩
  all_goals
    have t1 : decide (0 ≤ W) = true := decide_eq_true (by omega)
    have t2 : decide (W ≤ 4) = true := decide_eq_true (by omega)
    have t3 : decide (0 ≤ R) = true := decide_eq_true (by omega)
    have t4 : decide (R ≤ 1048578) = true := decide_eq_true (by omega)
    obtain ⟨m1, m2⟩ := mul_small h h2 g g2
    obtain ⟨q, hq⟩ : ∃ q, W * R = q := ⟨_, rfl⟩
    rw [hq] at e m1 m2
    rw [k]; clear k
    go_enter Try.func71, Try.ntmps71
    go_wp2_with fail
    go_ret
    exact ⟨rfl, (Below.refl _ _).alloc (Nat.le_refl _) _⟩
end Go.Proofs.Ytbcbknajhdaneaa
