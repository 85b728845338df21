/- What is proved: the walk of RealTells: for every row of words and of exponents the law returns true. -/
import Derived.Test.YtkhkjenmajenjaaRef
namespace Go.Proofs.Ytkhkjenmajenjaa
open Go.RowKit
set_option linter.unusedVariables false
def Mok (e m : Int) : Prop := 0 ≤ e ∧ e ≤ 2047 ∧ m < 4503599627370496
instance (e m : Int) : Decidable (Mok e m) := by unfold Mok; exact inferInstance
def mv (b : Bool) (e m : Int) : Int := if Mok e m then e * 4503599627370496 + m + (if b then 9223372036854775808 else 0) else 0
def me (e m : Int) : Int := if Mok e m then 0 else 2
theorem or_add (x y : Int) (n : Nat) (hx : 0 ≤ x) (hx1 : x < 18446744073709551616) (hy : 0 ≤ y) (hy1 : y < 18446744073709551616) (h : x.toNat % 2 ^ n = 0) (h2 : y.toNat < 2 ^ n) : bits .or .u64 x y = x + y := by
  rw [u64_or _ _ hx hx1 hy hy1, nat_join n _ _ h h2]; omega
theorem made_any (b : Bool) (e m : Int) (hm : Word m) (w : World) :
    Calls Try.prog 20 #[.bool b, .int .i64 e, .int .u64 m] w fun e' w' => e' = .returned (.tuple #[.int .u64 (mv b e m), .int .i64 (me e m)]) ∧ w = w' := by
  obtain ⟨m0, m1⟩ := hm
  rcases (show e < 0 ∨ 2047 < e ∨ (0 ≤ e ∧ e ≤ 2047 ∧ 4503599627370496 ≤ m) ∨ (0 ≤ e ∧ e ≤ 2047 ∧ m < 4503599627370496) from by omega) with h | h | ⟨h, h', h2⟩ | ⟨h, h', h2⟩
  · have e1 : mv b e m = 0 := by unfold mv; rw [if_neg (by unfold Mok; omega)]
    have e2 : me e m = 2 := by unfold me; rw [if_neg (by unfold Mok; omega)]
    rw [e1, e2]; clear e1 e2
    go_enter Try.func20, Try.ntmps20
    go_wp2
    go_ret2
    exact ⟨rfl, rfl⟩
  · have e1 : mv b e m = 0 := by unfold mv; rw [if_neg (by unfold Mok; omega)]
    have e2 : me e m = 2 := by unfold me; rw [if_neg (by unfold Mok; omega)]
    rw [e1, e2]; clear e1 e2
    go_enter Try.func20, Try.ntmps20
    go_wp2
    go_ret2
    exact ⟨rfl, rfl⟩
  · have e1 : mv b e m = 0 := by unfold mv; rw [if_neg (by unfold Mok; omega)]
    have e2 : me e m = 2 := by unfold me; rw [if_neg (by unfold Mok; omega)]
    rw [e1, e2]; clear e1 e2
    go_enter Try.func20, Try.ntmps20
    go_wp2
    go_ret2
    exact ⟨rfl, rfl⟩
  · have e2 : me e m = 0 := by unfold me; rw [if_pos ⟨h, h', h2⟩]
    have o1 : bits .or .u64 (e * 4503599627370496) m = e * 4503599627370496 + m := or_add _ _ 52 (by omega) (by omega) (by omega) (by omega) (by omega) (by omega)
    cases b with
    | false =>
      have e1 : mv false e m = e * 4503599627370496 + m := by unfold mv; rw [if_pos ⟨h, h', h2⟩]; simp
      rw [e1, e2]; clear e1 e2
      go_enter Try.func20, Try.ntmps20
      go_wp2
      go_ret2
      exact ⟨rfl, rfl⟩
    | true =>
      have e1 : mv true e m = e * 4503599627370496 + m + 9223372036854775808 := by unfold mv; rw [if_pos ⟨h, h', h2⟩]; simp
      have o2 := or_sign (e * 4503599627370496 + m) (by omega) (by omega)
      rw [e1, e2]; clear e1 e2
      go_enter Try.func20, Try.ntmps20
      go_wp2
      go_ret2
      exact ⟨rfl, rfl⟩
def rnx (a : Int) : Int := if a % 9223372036854775808 = 0 then 1 else if a < 9223372036854775808 then a + 1 else if a % 9223372036854775808 = 1 then 0 else a - 1
theorem rnext_any (a : Int) (h : Word a) (w : World) :
    Calls Try.prog 21 #[.int .u64 a] w fun e w' => e = .returned (.int .u64 (rnx a)) ∧ w = w' := by
  obtain ⟨a0, a1⟩ := id h
  have sa : sg a = decide (9223372036854775808 ≤ a) := rfl
  rcases (show (a % 9223372036854775808 == 0) = true ∨ ((a % 9223372036854775808 == 0) = false ∧ a < 9223372036854775808) ∨ ((a % 9223372036854775808 == 0) = false ∧ 9223372036854775808 ≤ a ∧ (a % 9223372036854775808 == 1) = true) ∨ ((a % 9223372036854775808 == 0) = false ∧ 9223372036854775808 ≤ a ∧ (a % 9223372036854775808 == 1) = false) from by simp only [beq_iff_eq, beq_eq_false_iff_ne]; omega) with k | ⟨k, k2⟩ | ⟨k, k2, k3⟩ | ⟨k, k2, k3⟩
  · have e1 : rnx a = 1 := by unfold rnx; rw [if_pos (beq_iff_eq.1 k)]
    rw [e1]; clear e1
    go_enter Try.func21, Try.ntmps21
    go_wp2_with (first | (go_at_call 19; refine (rparts_any _ (by assumption) _).mono ?_; rintro e w' ⟨rfl, rfl⟩) | (go_at_call 38; refine (far_any _ (by assumption) _).mono ?_; rintro e w' ⟨rfl, rfl⟩))
    go_ret
    exact ⟨rfl, rfl⟩
  · have e1 : rnx a = a + 1 := by unfold rnx; rw [if_neg (beq_eq_false_iff_ne.1 k), if_pos k2]
    rw [e1]; clear e1
    rw [decide_eq_false (by omega)] at sa
    go_enter Try.func21, Try.ntmps21
    go_wp2_with (first | (go_at_call 19; refine (rparts_any _ (by assumption) _).mono ?_; rintro e w' ⟨rfl, rfl⟩) | (go_at_call 38; refine (far_any _ (by assumption) _).mono ?_; rintro e w' ⟨rfl, rfl⟩))
    go_ret
    exact ⟨rfl, rfl⟩
  · have e1 : rnx a = 0 := by unfold rnx; rw [if_neg (beq_eq_false_iff_ne.1 k), if_neg (by omega), if_pos (beq_iff_eq.1 k3)]
    rw [e1]; clear e1
    rw [decide_eq_true k2] at sa
    go_enter Try.func21, Try.ntmps21
    go_wp2_with (first | (go_at_call 19; refine (rparts_any _ (by assumption) _).mono ?_; rintro e w' ⟨rfl, rfl⟩) | (go_at_call 38; refine (far_any _ (by assumption) _).mono ?_; rintro e w' ⟨rfl, rfl⟩))
    go_ret
    exact ⟨rfl, rfl⟩
  · have e1 : rnx a = a - 1 := by unfold rnx; rw [if_neg (beq_eq_false_iff_ne.1 k), if_neg (by omega), if_neg (beq_eq_false_iff_ne.1 k3)]
    rw [e1]; clear e1
    rw [decide_eq_true k2] at sa
    go_enter Try.func21, Try.ntmps21
    go_wp2_with (first | (go_at_call 19; refine (rparts_any _ (by assumption) _).mono ?_; rintro e w' ⟨rfl, rfl⟩) | (go_at_call 38; refine (far_any _ (by assumption) _).mono ?_; rintro e w' ⟨rfl, rfl⟩))
    go_ret
    exact ⟨rfl, rfl⟩
theorem tells_next (v : Int) (h : Word v) :
    ((cls v == 4) = true ∧ nxt v = 0 ∧ nxe v = 2) ∨ ((cls v == 4) = false ∧ (v == 9218868437227405312) = true ∧ nxt v = 0 ∧ nxe v = 4) ∨ ((cls v == 4) = false ∧ (v == 9218868437227405312) = false ∧ nxt v = rnx v ∧ nxe v = 0) := by
  have h4 := cls_nan v h
  have h3 := cls_inf v h
  have h0 := cls_zero v h
  obtain ⟨v0, v1⟩ := h
  simp only [beq_iff_eq, beq_eq_false_iff_ne]
  unfold nxt nxe rnx
  (repeat' split) <;> omega
theorem made_parts (v : Int) (h : Word v) : mv (sg v) (ex v) (mt v) = v ∧ me (ex v) (mt v) = 0 := by
  have h1 := ex_bd v
  have h2 := mt_bd v
  obtain ⟨v0, v1⟩ := h
  have hk : Mok (ex v) (mt v) := ⟨by omega, by omega, by omega⟩
  refine ⟨?_, by unfold me; rw [if_pos hk]⟩
  unfold mv
  rw [if_pos hk]
  unfold sg ex mt
  split <;> simp_all <;> omega
theorem parts_made (b : Bool) (e m : Int) (hm : 0 ≤ m) (h : Mok e m) : Word (mv b e m) ∧ sg (mv b e m) = b ∧ ex (mv b e m) = e ∧ mt (mv b e m) = m := by
  unfold mv
  rw [if_pos h]
  obtain ⟨h0, h1, h2⟩ := h
  unfold Word sg ex mt
  cases b <;> simp <;> omega
theorem mv_word (b : Bool) (e m : Int) (hm : 0 ≤ m) : Word (mv b e m) := by
  by_cases h : Mok e m
  · exact (parts_made b e m hm h).1
  · unfold mv; rw [if_neg h]; exact ⟨by omega, by omega⟩
/-- the ways of one exponent -/
theorem exp_cases (b : Bool) (e v : Int) (hv : Word v) :
    (e < 0 ∧ mv b e v = 0 ∧ me e v = 2) ∨ (2047 < e ∧ mv b e v = 0 ∧ me e v = 2) ∨ (0 ≤ e ∧ e ≤ 2047 ∧ 4503599627370496 ≤ v ∧ mv b e v = 0 ∧ me e v = 2) ∨
    (0 ≤ e ∧ e ≤ 2047 ∧ v < 4503599627370496 ∧ me e v = 0 ∧ sg (mv b e v) = b ∧ ex (mv b e v) = e ∧ mt (mv b e v) = v) := by
  obtain ⟨v0, v1⟩ := hv
  by_cases h : Mok e v
  · obtain ⟨h0, h1, h2⟩ := id h
    have := parts_made b e v v0 h
    exact .inr (.inr (.inr ⟨h0, h1, h2, by unfold me; rw [if_pos h], this.2.1, this.2.2.1, this.2.2.2⟩))
  · have e1 : mv b e v = 0 := by unfold mv; rw [if_neg h]
    have e2 : me e v = 2 := by unfold me; rw [if_neg h]
    unfold Mok at h
    rcases (show e < 0 ∨ 2047 < e ∨ (0 ≤ e ∧ e ≤ 2047 ∧ 4503599627370496 ≤ v) from by omega) with k | k | ⟨k, k2, k3⟩
    · exact .inl ⟨k, e1, e2⟩
    · exact .inr (.inl ⟨k, e1, e2⟩)
    · exact .inr (.inr (.inl ⟨k, k2, k3, e1, e2⟩))
end Go.Proofs.Ytkhkjenmajenjaa
