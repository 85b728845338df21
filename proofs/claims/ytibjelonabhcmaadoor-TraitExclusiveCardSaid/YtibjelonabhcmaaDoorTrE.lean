/- What is proved: contracts of trait's index, May, and the document's RightTraits. -/
import Derived.Test.YtibjelonabhcmaaDoorTrD
namespace Go.Proofs.YtibjelonabhcmaaDoor
open Go.RowKit
set_option linter.unusedVariables false
set_option linter.unusedSimpArgs false
/-- traits, as a value -/
def trV (a e : Bool) (w t r : Int) : Value := .agg #[.bool a, .bool e, .int .i64 w, .int .i64 t, .int .i64 r]
def ok2 (x : Int) : Bool := decide (0 ≤ x ∧ x ≤ 2)
def mayE (w t r : Int) : Int := if w < 0 ∨ 4 < w then 231 else if ok2 t = true ∧ ok2 r = true then 0 else 2
theorem idx_any (n : Int) (w : World) : Calls Tryd.prog 42 #[.int .i64 n] w fun e w' => e = .returned (.bool (decide (1 ≤ n ∧ n ≤ 1048578))) ∧ w = w' := by
  by_cases h1 : 1 ≤ n
  · by_cases h2 : n ≤ 1048578
    · rw [decide_eq_true (show 1 ≤ n ∧ n ≤ 1048578 from ⟨h1, h2⟩)]
      go_enter Tryd.func42, Tryd.ntmps42
      go_wp2_with fail
      go_ret
      exact ⟨ret_bool (by simp [*]), rfl⟩
    · rw [decide_eq_false (show ¬ (1 ≤ n ∧ n ≤ 1048578) from fun h => h2 h.2)]
      have h3 : decide (n ≤ 1048578) = false := decide_eq_false h2
      go_enter Tryd.func42, Tryd.ntmps42
      go_wp2_with fail
      go_ret
      exact ⟨ret_bool (by simp [*]), rfl⟩
  · rw [decide_eq_false (show ¬ (1 ≤ n ∧ n ≤ 1048578) from fun h => h1 h.1)]
    have h3 : decide (1 ≤ n) = false := decide_eq_false h1
    go_enter Tryd.func42, Tryd.ntmps42
    go_wp2_with fail
    go_ret
    exact ⟨ret_bool (by simp [*]), rfl⟩
theorem pol_any (n : Int) (w : World) : Calls Tryd.prog 43 #[.int .i64 n] w fun e w' => e = .returned (.bool (ok2 n)) ∧ w = w' := by
  unfold ok2
  by_cases h1 : 0 ≤ n
  · by_cases h2 : n ≤ 2
    · rw [decide_eq_true (show 0 ≤ n ∧ n ≤ 2 from ⟨h1, h2⟩)]
      go_enter Tryd.func43, Tryd.ntmps43
      go_wp2_with fail
      go_ret
      exact ⟨ret_bool (by simp [*]), rfl⟩
    · rw [decide_eq_false (show ¬ (0 ≤ n ∧ n ≤ 2) from fun h => h2 h.2)]
      have h3 : decide (n ≤ 2) = false := decide_eq_false h2
      go_enter Tryd.func43, Tryd.ntmps43
      go_wp2_with fail
      go_ret
      exact ⟨ret_bool (by simp [*]), rfl⟩
  · rw [decide_eq_false (show ¬ (0 ≤ n ∧ n ≤ 2) from fun h => h1 h.1)]
    have h3 : decide (0 ≤ n) = false := decide_eq_false h1
    go_enter Tryd.func43, Tryd.ntmps43
    go_wp2_with fail
    go_ret
    exact ⟨ret_bool (by simp [*]), rfl⟩
theorem may_ways (w t r : Int) : (decide (w < 0) = true ∧ mayE w t r = 231) ∨ (decide (w < 0) = false ∧ decide (4 < w) = true ∧ mayE w t r = 231) ∨
    (decide (w < 0) = false ∧ decide (4 < w) = false ∧ ok2 t = false ∧ mayE w t r = 2) ∨ (decide (w < 0) = false ∧ decide (4 < w) = false ∧ ok2 t = true ∧ ok2 r = false ∧ mayE w t r = 2) ∨
    (decide (w < 0) = false ∧ decide (4 < w) = false ∧ ok2 t = true ∧ ok2 r = true ∧ mayE w t r = 0) := by
  unfold mayE
  by_cases h1 : w < 0
  · left; exact ⟨decide_eq_true h1, by rw [if_pos (.inl h1)]⟩
  · by_cases h2 : 4 < w
    · right; left; exact ⟨decide_eq_false h1, decide_eq_true h2, by rw [if_pos (.inr h2)]⟩
    · have h3 : ¬ (w < 0 ∨ 4 < w) := by omega
      rw [if_neg h3, decide_eq_false h1, decide_eq_false h2]
      cases ok2 t <;> cases ok2 r <;> simp
set_option maxHeartbeats 2000000 in
theorem may_any (a e : Bool) (w t r : Int) (W : World) : Calls Tryd.prog 12 #[trV a e w t r] W fun en w' => en = .returned (.int .i64 (mayE w t r)) ∧ Below W.heap.size W w' := by
  have p1 := fun w => pol_any t w
  have p2 := fun w => pol_any r w
  unfold trV
  rcases may_ways w t r with ⟨h1, h5⟩ | ⟨h1, h2, h5⟩ | ⟨h1, h2, h3, h5⟩ | ⟨h1, h2, h3, h4, h5⟩ | ⟨h1, h2, h3, h4, h5⟩
  all_goals
    rw [h5]
    try rw [h3] at p1
    try rw [h4] at p2
    clear h5
    go_enter Tryd.func12, Tryd.ntmps12
    go_wp2_with (first
      | (go_at_call 43; with_reducible refine (p1 _).mono ?_; rintro en w' ⟨rfl, rfl⟩)
      | (go_at_call 43; with_reducible refine (p2 _).mono ?_; rintro en w' ⟨rfl, rfl⟩)
      | fail)
    go_ret
    exact ⟨rfl, (Below.refl W.heap.size W).alloc (Nat.le_refl _) _⟩
set_option maxHeartbeats 2000000 in
theorem rmay_any (a e : Bool) (w t r : Int) (W : World) : Calls Tryd.prog 13 #[trV a e w t r] W fun en w' => en = .returned (.int .i64 (mayE w t r)) ∧ Below W.heap.size W w' := by
  have i1 := fun W => is_any w 0 4 W
  have i2 := fun W => is_any t 0 2 W
  have i3 := fun W => is_any r 0 2 W
  simp only [inn1] at i1 i2 i3
  unfold trV
  have key : (decide (0 ≤ w ∧ w ≤ 4) = false ∧ mayE w t r = 231) ∨ (decide (0 ≤ w ∧ w ≤ 4) = true ∧ decide (0 ≤ t ∧ t ≤ 2) = false ∧ mayE w t r = 2) ∨ (decide (0 ≤ w ∧ w ≤ 4) = true ∧ decide (0 ≤ t ∧ t ≤ 2) = true ∧ decide (0 ≤ r ∧ r ≤ 2) = false ∧ mayE w t r = 2) ∨ (decide (0 ≤ w ∧ w ≤ 4) = true ∧ decide (0 ≤ t ∧ t ≤ 2) = true ∧ decide (0 ≤ r ∧ r ≤ 2) = true ∧ mayE w t r = 0) := by
    unfold mayE ok2
    by_cases h1 : w < 0 ∨ 4 < w
    · left; exact ⟨decide_eq_false (by omega), by rw [if_pos h1]⟩
    · right
      rw [if_neg h1, decide_eq_true (show 0 ≤ w ∧ w ≤ 4 by omega)]
      cases decide (0 ≤ t ∧ t ≤ 2) <;> cases decide (0 ≤ r ∧ r ≤ 2) <;> simp
  rcases key with ⟨h1, h5⟩ | ⟨h1, h2, h5⟩ | ⟨h1, h2, h3, h5⟩ | ⟨h1, h2, h3, h5⟩
  all_goals
    rw [h5]
    try rw [h1] at i1
    try rw [h2] at i2
    try rw [h3] at i3
    clear h5 h1
    go_enter Tryd.func13, Tryd.ntmps13
    go_wp2_with (first
      | (go_at_call 25; with_reducible refine (i1 _).mono ?_; rintro en w' ⟨rfl, rfl⟩)
      | (go_at_call 25; with_reducible refine (i2 _).mono ?_; rintro en w' ⟨rfl, rfl⟩)
      | (go_at_call 25; with_reducible refine (i3 _).mono ?_; rintro en w' ⟨rfl, rfl⟩)
      | fail)
    go_ret
    exact ⟨rfl, (Below.refl W.heap.size W).alloc (Nat.le_refl _) _⟩
end Go.Proofs.YtibjelonabhcmaaDoor
