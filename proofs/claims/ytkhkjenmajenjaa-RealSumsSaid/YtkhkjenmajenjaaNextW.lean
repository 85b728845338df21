/- What is proved: the walk of RealNext: for every two words the law returns true. -/
import Derived.Test.YtkhkjenmajenjaaOneL
namespace Go.Proofs.Ytkhkjenmajenjaa
open Go.RowKit
set_option linter.unusedVariables false
theorem cls_zero (a : Int) (h : Word a) : cls a = 0 ↔ a = 0 ∨ a = 9223372036854775808 := by
  obtain ⟨h0, h1⟩ := h
  unfold cls ex mt
  (repeat' split) <;> omega
theorem cls_inf (a : Int) (h : Word a) : cls a = 3 ↔ a = 9218868437227405312 ∨ a = 18442240474082181120 := by
  obtain ⟨h0, h1⟩ := h
  unfold cls ex mt
  (repeat' split) <;> omega
theorem nxt_ok (a : Int) (h : Word a) (he : nxe a = 0) : Word (nxt a) ∧ cls a ≠ 4 ∧ cls (nxt a) ≠ 4 ∧ rk (nxt a) = rk a + 1 := by
  have h4 := cls_nan a h
  have h0 := cls_zero a h
  have h3 := cls_inf a h
  have hb := cls_bd a
  obtain ⟨l0, l1⟩ := id h
  have key : Word (nxt a) ∧ cls a ≠ 4 ∧ nxt a % 9223372036854775808 ≤ 9218868437227405312 ∧ rk (nxt a) = rk a + 1 := by
    unfold nxe at he
    unfold nxt rk Word
    (repeat' split at he) <;> (repeat' split) <;> omega
  refine ⟨key.1, key.2.1, fun e => ?_, key.2.2.2⟩
  have := (cls_nan _ key.1).1 e
  omega
theorem next_cases (a x : Int) (h : Word a) (hx : Word x) :
    ((nxe a == 0) = false ∧ nxt a = 0 ∧ (nxe a == 2) = true ∧ (cls a == 4) = true) ∨ ((nxe a == 0) = false ∧ nxt a = 0 ∧ (nxe a == 2) = false ∧ (cls a == 4) = false) ∨
    ((nxe a == 0) = true ∧ tst 2 (nxt a) a = true ∧ tst 2 x a = false) ∨ ((nxe a == 0) = true ∧ tst 2 (nxt a) a = true ∧ tst 2 x a = true ∧ tst 1 x (nxt a) = false) := by
  by_cases he : nxe a = 0
  · obtain ⟨k1, k2, k3, k4⟩ := nxt_ok a h he
    have e1 : tst 2 (nxt a) a = true := by rw [tst_gt _ _ k1 h k3 k2, decide_eq_true_iff]; omega
    have e0 : (nxe a == 0) = true := by rw [he]; rfl
    cases e2 : tst 2 x a with
    | false => exact .inr (.inr (.inl ⟨e0, e1, rfl⟩))
    | true =>
      refine .inr (.inr (.inr ⟨e0, e1, rfl, ?_⟩))
      by_cases hn : cls x = 4
      · exact (tst_nan x _ hx k1 (.inl hn)).1
      · rw [tst_gt _ _ hx h hn k2, decide_eq_true_iff] at e2
        rw [tst_lt _ _ hx k1 hn k3, decide_eq_false_iff_not]; omega
  · have e0 : (nxe a == 0) = false := beq_eq_false_iff_ne.2 he
    have hz := cls_bd a
    by_cases h4 : cls a = 4
    · refine .inl ⟨e0, by unfold nxt; rw [if_pos (.inl h4)], by unfold nxe; rw [if_pos h4]; rfl, by rw [h4]; rfl⟩
    · unfold nxe at he
      rw [if_neg h4] at he
      split at he
      · rename_i h3
        refine .inr (.inl ⟨e0, by unfold nxt; rw [if_pos (.inr h3)], by unfold nxe; rw [if_neg h4, if_pos h3]; rfl, beq_eq_false_iff_ne.2 h4⟩)
      · exact absurd rfl he
set_option maxHeartbeats 4000000 in
theorem realNext_any (a x : Int) (ha : Word a) (hx : Word x) (w : World) :
    Calls Try.prog 4 #[.int .u64 a, .int .u64 x] w fun e w' => e = .returned (.bool true) ∧ Below w.heap.size w w' := by
  rcases next_cases a x ha hx with ⟨e1, e2, e3, e4⟩ | ⟨e1, e2, e3, e4⟩ | ⟨e1, e2, e3⟩ | ⟨e1, e2, e3, e4⟩
  all_goals
    go_enter Try.func4, Try.ntmps4
    go_wp2_with fail
    refine (wakes_any _).mono ?_
    rintro e w1 ⟨rfl, hbe⟩
    go_wp2_with (first
          | (go_at_call 12; refine (next_any _ (by assumption) _).mono ?_; rintro e w' ⟨rfl, rfl⟩)
          | (go_at_call 10; refine (class_any _ (by assumption) _).mono ?_; rintro e w' ⟨rfl, rfl⟩)
          | (go_at_call 9; refine (test_any _ _ _ (by decide) (by decide) _).mono ?_; rintro e w2 ⟨rfl, hb2⟩; have hbe := hbe.trans (hb2.mono hbe.size); clear hb2))
    go_ret
    exact ⟨ret_bool (by simp [*]), hbe⟩
theorem realNext_walk (a : Int) (wa : (Lit.int .u64 a).wf = true) (b : Int) (wb : (Lit.int .u64 b).wf = true) (w : World) :
    Calls Try.prog 4 #[.int .u64 a, .int .u64 b] w fun e w' => e = .returned (.bool true) ∧ Below w.heap.size w w' :=
  realNext_any a b (word_of_wf wa) (word_of_wf wb) w
end Go.Proofs.Ytkhkjenmajenjaa
