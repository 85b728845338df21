/- What is proved: the contracts of Entity, Component, Pair, and of the reference's functions over bits. -/
import Derived.Test.YtibjelonabhcmaaDoorTrC
namespace Go.Proofs.YtibjelonabhcmaaDoor
open Go.RowKit
set_option linter.unusedVariables false
set_option linter.unusedSimpArgs false
theorem inn1 (low most x : Int) : inn low most [x] = decide (low ≤ x ∧ x ≤ most) := by simp [inn]
theorem inn2 (low most x y : Int) : inn low most [x, y] = (decide (low ≤ x ∧ x ≤ most) && decide (low ≤ y ∧ y ≤ most)) := by simp [inn]
def I64 (x : Int) : Prop := -9223372036854775808 ≤ x ∧ x ≤ 9223372036854775807
theorem is_any (n low most : Int) (w : World) :
    Calls Tryd.prog 25 #[.int .i64 n, .int .i64 low, .int .i64 most] w fun e w' => e = .returned (.bool (inn low most [n])) ∧ w = w' := by
  rw [inn1]
  by_cases h1 : low ≤ n
  · by_cases h2 : n ≤ most
    · go_enter Tryd.func25, Tryd.ntmps25
      go_wp2
      go_ret
      exact ⟨ret_bool (by simp [h1, h2]), rfl⟩
    · have hd : decide (n ≤ most) = false := decide_eq_false h2
      go_enter Tryd.func25, Tryd.ntmps25
      go_wp2
      go_ret
      exact ⟨ret_bool (by simp [h1, h2]), rfl⟩
  · have hd : decide (low ≤ n) = false := decide_eq_false h1
    go_enter Tryd.func25, Tryd.ntmps25
    go_wp2
    go_ret
    exact ⟨ret_bool (by simp [h1]), rfl⟩
theorem made_any (m s f : Int) (hm : Mark m) (hs : Part s) (hf : Part f) (w : World) :
    Calls Tryd.prog 36 #[.int .u64 m, .int .i64 s, .int .i64 f] w fun e w' => e = .returned (.int .u64 (m + s * 4294967296 + f)) ∧ w = w' := by
  obtain ⟨s0, s1⟩ := hs
  obtain ⟨f0, f1⟩ := hf
  have hmb : 0 ≤ m ∧ m ≤ 9223372036854775808 := by rcases hm with rfl | rfl | rfl <;> omega
  clear hm
  obtain ⟨m0, m1⟩ := hmb
  go_enter Tryd.func36, Tryd.ntmps36
  go_wp2
  go_ret
  exact ⟨rfl, rfl⟩
theorem inn_cases (low most x : Int) : inn low most [x] = true ∨ inn low most [x] = false := by cases inn low most [x] <;> simp
theorem inn12 (low most x y : Int) : inn low most [x, y] = (inn low most [x] && inn low most [y]) := by rw [inn2, inn1, inn1]
def paiV (r t : Int) : Int := if 0 ≤ r ∧ r ≤ 1048578 ∧ 0 ≤ t ∧ t ≤ 1048578 then 9223372036854775808 + r * 4294967296 + t else 0
def paiE (r t : Int) : Int := if 0 ≤ r ∧ r ≤ 1048578 ∧ 0 ≤ t ∧ t ≤ 1048578 then 0 else 2
theorem inn_cases2 (low most x y : Int) : inn low most [x, y] = true ∨ inn low most [x, y] = false := by cases inn low most [x, y] <;> simp
set_option maxHeartbeats 2000000 in
theorem pair_any (r t : Int) (w : World) :
    Calls Tryd.prog 54 #[.int .i64 r, .int .i64 t] w fun e w' => e = .returned (.tuple #[.int .u64 (paiV r t), .int .i64 (paiE r t)]) ∧ Below w.heap.size w w' := by
  rcases inn_cases2 0 1048578 r t with t0 | t0
  · have b0 := t0; rw [inn2] at b0; simp only [Bool.and_eq_true, decide_eq_true_iff] at b0
    have e1 : paiV r t = 9223372036854775808 + r * 4294967296 + t := by unfold paiV; rw [if_pos (by omega)] <;> omega
    have e2 : paiE r t = 0 := by unfold paiE; rw [if_pos (by omega)]
    rw [e1, e2]; clear e1 e2
    go_enter Tryd.func54, Tryd.ntmps54
    go_wp2_with (first
          | (go_at_call 68; (with_reducible refine (within_any 0 1048578 _ 2 2 [r, t] _ ?_ (by omega)).mono ?_); exact reads_at _ _ (i64s [r, t]) 3 _ 2 (by simp) rfl (by simp); rintro e w' ⟨rfl, rfl⟩)
          | (go_at_call 67; refine (packed_any _ _ _ (.inr (.inr rfl)) ⟨by omega, by omega⟩ ⟨by omega, by omega⟩ _).mono ?_; rintro e w' ⟨rfl, rfl⟩))
    go_ret2
    exact ⟨by simp, by repeat (first | exact Below.refl _ _ | apply Below.drew | (refine Below.alloc ?_ (by simp <;> omega) _))⟩
  · have b0 := t0; rw [inn2] at b0; simp only [Bool.and_eq_true, Bool.and_eq_false_iff, decide_eq_true_iff, decide_eq_false_iff_not] at b0
    have e1 : paiV r t = 0 := by unfold paiV; rw [if_neg (by omega)]
    have e2 : paiE r t = 2 := by unfold paiE; rw [if_neg (by omega)]
    rw [e1, e2]; clear e1 e2
    go_enter Tryd.func54, Tryd.ntmps54
    go_wp2_with (first
          | (go_at_call 68; (with_reducible refine (within_any 0 1048578 _ 2 2 [r, t] _ ?_ (by omega)).mono ?_); exact reads_at _ _ (i64s [r, t]) 3 _ 2 (by simp) rfl (by simp); rintro e w' ⟨rfl, rfl⟩)
          | (go_at_call 67; refine (packed_any _ _ _ (.inr (.inr rfl)) ⟨by omega, by omega⟩ ⟨by omega, by omega⟩ _).mono ?_; rintro e w' ⟨rfl, rfl⟩))
    go_ret2
    exact ⟨by simp, by repeat (first | exact Below.refl _ _ | apply Below.drew | (refine Below.alloc ?_ (by simp <;> omega) _))⟩
end Go.Proofs.YtibjelonabhcmaaDoor
