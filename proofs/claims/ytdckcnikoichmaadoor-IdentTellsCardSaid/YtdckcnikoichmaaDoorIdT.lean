/- What is proved: contracts of the document's Takes and Digits. -/
import Derived.Test.YtdckcnikoichmaaDoorIdL
namespace Go.Proofs.YtdckcnikoichmaaDoor
open Go.RowKit
set_option linter.unusedVariables false
set_option linter.unusedSimpArgs false
set_option maxHeartbeats 4000000 in
theorem rtakes_any (p a : Int) (hp : Word p) (h : Word a) (w : World) :
    Calls Tryd.prog 21 #[.int .u64 p, .int .u64 a] w fun e w' => e = .returned (.bool (takes p a)) ∧ w = w' := by
  have cP := fun w => rkind_any p hp w
  have cA := fun w => rkind_any a h w
  have hP := fun w => rhalves_any p hp w
  have hA := fun w => rhalves_any a h w
  have dp := kd_bd p
  have da := kd_bd a
  by_cases k4 : kd p = 4
  · have e : takes p a = (kd a == 3 && ((hi p == 0 || hi p == hi a) && (lo p == 0 || lo p == lo a))) := by unfold takes; rw [if_pos k4]
    rw [e]; clear e
    rw [k4] at cP
    clear dp da k4 hp h
    cases h3 : (kd a == 3)
    all_goals
      generalize kd a = ka at *
      cases q1 : (hi p == 0) <;> cases q2 : (hi p == hi a) <;> cases q3 : (lo p == 0) <;> cases q4 : (lo p == lo a)
      all_goals
        generalize hi p = a1 at *
        generalize hi a = a2 at *
        generalize lo p = a3 at *
        generalize lo a = a4 at *
        go_enter Tryd.func21, Tryd.ntmps21
        go_wp2_with (first
          | (go_at_call 17; with_reducible refine (cP _).mono ?_; rintro e w' ⟨rfl, rfl⟩)
          | (go_at_call 17; with_reducible refine (cA _).mono ?_; rintro e w' ⟨rfl, rfl⟩)
          | (go_at_call 27; with_reducible refine (hP _).mono ?_; rintro e w' ⟨rfl, rfl⟩)
          | (go_at_call 27; with_reducible refine (hA _).mono ?_; rintro e w' ⟨rfl, rfl⟩)
          | fail)
        go_ret
        exact ⟨rfl, rfl⟩
  · have e : takes p a = (p == a && kd a != 0) := by unfold takes; rw [if_neg k4]
    rw [e]; clear e
    have hlt : decide (kd p < 4) = true := decide_eq_true (by omega)
    have key : (decide (kd a > 0) = true ∧ (kd a != 0) = true) ∨ (decide (kd a > 0) = false ∧ (kd a != 0) = false) := by
      by_cases e : kd a = 0
      · right; rw [e]; decide
      · left; exact ⟨decide_eq_true (by omega), by simpa using e⟩
    clear dp da k4 hp h
    generalize kd a = ka at *
    generalize kd p = kp at *
    rcases key with ⟨q1, q2⟩ | ⟨q1, q2⟩
    all_goals
      cases q3 : (p == a)
      all_goals
        go_enter Tryd.func21, Tryd.ntmps21
        go_wp2_with (first
          | (go_at_call 17; with_reducible refine (cP _).mono ?_; rintro e w' ⟨rfl, rfl⟩)
          | (go_at_call 17; with_reducible refine (cA _).mono ?_; rintro e w' ⟨rfl, rfl⟩)
          | fail)
        go_ret
        exact ⟨by rw [q2]; rfl, rfl⟩
end Go.Proofs.YtdckcnikoichmaaDoor
