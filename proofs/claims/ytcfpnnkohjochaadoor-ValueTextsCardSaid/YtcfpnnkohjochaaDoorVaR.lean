/- What is proved: how values stand: turned round, over a third, with what stands behind, and words that are 0. -/
import Derived.Test.YtcfpnnkohjochaaDoorVaQ
namespace Go.Proofs.YtcfpnnkohjochaaDoor
open Go.RowKit
set_option linter.unusedVariables false
set_option linter.unusedSimpArgs false
theorem cmpV_neg : ∀ (a b : List Int), cmpV b a = - cmpV a b
  | [], [] => rfl
  | [], _ :: _ => rfl
  | _ :: _, [] => rfl
  | x :: a, y :: b => by
    rcases (show x < y ∨ (¬ x < y ∧ y < x) ∨ (¬ x < y ∧ ¬ y < x) from by omega) with h | ⟨h, h2⟩ | ⟨h, h2⟩
    · rw [cmpV_lt _ _ h, cmpV_gt _ _ h]; rfl
    · rw [cmpV_gt _ _ h2, cmpV_lt _ _ h2]
    · rw [cmpV_step _ _ h h2, cmpV_step _ _ h2 h]; exact cmpV_neg a b
theorem cmpV_trans : ∀ (a b c : List Int), cmpV a b ≤ 0 → cmpV b c ≤ 0 → cmpV a c ≤ 0 ∧ (cmpV a c = 0 ↔ cmpV a b = 0 ∧ cmpV b c = 0)
  | [], [], [] => by decide
  | [], [], z :: c => by
    intro _ _
    exact ⟨by show (-1 : Int) ≤ 0; decide, ⟨fun h => absurd h (by show ¬ ((-1 : Int) = 0); decide), fun h => absurd h.2 (by show ¬ ((-1 : Int) = 0); decide)⟩⟩
  | [], y :: b, [] => by intro _ h; exact absurd h (by show ¬ ((1 : Int) ≤ 0); decide)
  | [], y :: b, z :: c => by
    intro _ _
    refine ⟨by show (-1 : Int) ≤ 0; decide, ⟨fun h => absurd h (by show ¬ ((-1 : Int) = 0); decide), fun h => absurd h.1 (by show ¬ ((-1 : Int) = 0); decide)⟩⟩
  | x :: a, [], c => by intro h _; exact absurd h (by show ¬ ((1 : Int) ≤ 0); decide)
  | x :: a, y :: b, [] => by intro _ h; exact absurd h (by show ¬ ((1 : Int) ≤ 0); decide)
  | x :: a, y :: b, z :: c => by
    have ih := cmpV_trans a b c
    intro h1 h2
    rcases (show x < y ∨ (¬ x < y ∧ y < x) ∨ (¬ x < y ∧ ¬ y < x) from by omega) with h | ⟨h, h'⟩ | ⟨h, h'⟩
    · rcases (show y < z ∨ (¬ y < z ∧ z < y) ∨ (¬ y < z ∧ ¬ z < y) from by omega) with g | ⟨g, g'⟩ | ⟨g, g'⟩
      · rw [cmpV_lt _ _ h, cmpV_lt _ _ g, cmpV_lt _ _ (show x < z by omega)]; decide
      · rw [cmpV_gt _ _ g'] at h2; omega
      · rw [cmpV_lt _ _ h, cmpV_lt _ _ (show x < z by omega)]
        exact ⟨by decide, by omega, by omega⟩
    · rw [cmpV_gt _ _ h'] at h1; omega
    · have e : x = y := by omega
      subst e
      rw [cmpV_step _ _ h h'] at h1 ⊢
      rcases (show x < z ∨ (¬ x < z ∧ z < x) ∨ (¬ x < z ∧ ¬ z < x) from by omega) with g | ⟨g, g'⟩ | ⟨g, g'⟩
      · rw [cmpV_lt _ _ g, cmpV_lt _ _ g]
        exact ⟨by decide, by omega, by omega⟩
      · rw [cmpV_gt _ _ g'] at h2; omega
      · rw [cmpV_step _ _ g g'] at h2
        rw [cmpV_step _ _ g g', cmpV_step _ _ g g']
        exact ih h1 h2
theorem cmpV_app : ∀ (a b x y : List Int), a.length = b.length → cmpV a b ≠ 0 → cmpV (a ++ x) (b ++ y) = cmpV a b
  | [], [], x, y => by intro _ h; exact absurd rfl h
  | [], _ :: _, x, y => by intro h; simp at h
  | _ :: _, [], x, y => by intro h; simp at h
  | p :: a, q :: b, x, y => by
    intro hl hne
    rw [List.cons_append, List.cons_append]
    rcases (show p < q ∨ (¬ p < q ∧ q < p) ∨ (¬ p < q ∧ ¬ q < p) from by omega) with h | ⟨h, h2⟩ | ⟨h, h2⟩
    · rw [cmpV_lt _ _ h, cmpV_lt _ _ h]
    · rw [cmpV_gt _ _ h2, cmpV_gt _ _ h2]
    · rw [cmpV_step _ _ h h2] at hne ⊢
      rw [cmpV_step _ _ h h2]
      exact cmpV_app a b x y (by simpa using hl) hne
theorem cmpV_zero : ∀ (c : List Int), (∀ x ∈ c, Word x) → cmpV (zerosL c.length) c ≤ 0
  | [], _ => by decide
  | x :: c, h => by
    have hx := (h x (by simp)).1
    have ih := cmpV_zero c (fun y hy => h y (by simp [hy]))
    show cmpV (0 :: zerosL c.length) (x :: c) ≤ 0
    rcases (show 0 < x ∨ ¬ 0 < x from by omega) with g | g
    · rw [cmpV_lt _ _ g]; decide
    · rw [cmpV_step _ _ g (by omega)]; exact ih
end Go.Proofs.YtcfpnnkohjochaaDoor
