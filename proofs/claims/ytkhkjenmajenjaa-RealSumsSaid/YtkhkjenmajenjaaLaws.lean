/- What is proved: plain laws of words as numbers: tests, classes, order. -/
import Derived.Test.YtkhkjenmajenjaaWalkA
namespace Go.Proofs.Ytkhkjenmajenjaa
def rk (a : Int) : Int := if 9223372036854775808 ≤ a then -(a - 9223372036854775808) else a
theorem rank_eq (a : Int) (h : Word a) : rank a.toNat = rk a := by
  obtain ⟨h0, h1⟩ := h
  unfold rank rk
  by_cases hc : 9223372036854775808 ≤ a
  · have e : (a.toNat / 9223372036854775808 % 2 == 1) = true := by rw [beq_iff_eq]; omega
    rw [if_pos e, if_pos hc]; omega
  · have e : ¬ (a.toNat / 9223372036854775808 % 2 == 1) = true := by rw [beq_iff_eq]; omega
    rw [if_neg e, if_neg hc]; omega
theorem cls_nan (a : Int) (h : Word a) : cls a = 4 ↔ 9218868437227405312 < a % 9223372036854775808 := by
  obtain ⟨h0, h1⟩ := h
  unfold cls ex mt
  (repeat' split) <;> omega
theorem fo_num (a b : Int) (ha : Word a) (hb : Word b) (na : cls a ≠ 4) (nb : cls b ≠ 4) (o : Ordering) : fo a b o = (compare (rk a) (rk b) == o) := by
  have h1 := cls_nan a ha
  have h2 := cls_nan b hb
  unfold fo
  rw [order_num _ _ (by have := ha.1; omega) (by have := hb.1; omega), rank_eq a ha, rank_eq b hb]
  generalize compare (rk a) (rk b) = x
  cases x <;> cases o <;> rfl
theorem fo_nan (a b : Int) (ha : Word a) (hb : Word b) (h : cls a = 4 ∨ cls b = 4) (o : Ordering) : fo a b o = false := by
  have h1 := cls_nan a ha
  have h2 := cls_nan b hb
  unfold fo
  rcases h with h | h
  · rw [order_nan_left _ _ (by have := ha.1; omega)]; rfl
  · rw [order_nan_right _ _ (by have := hb.1; omega)]; rfl
theorem tst_1 (a b : Int) : tst 1 a b = fo a b .lt := rfl
theorem tst_2 (a b : Int) : tst 2 a b = fo a b .gt := rfl
theorem tst_3 (a b : Int) : tst 3 a b = fo a b .eq := rfl
theorem tst_lt (a b : Int) (ha : Word a) (hb : Word b) (na : cls a ≠ 4) (nb : cls b ≠ 4) : tst 1 a b = decide (rk a < rk b) := by
  rw [tst_1, fo_num a b ha hb na nb]
  rcases Int.lt_trichotomy (rk a) (rk b) with h | h | h
  · rw [Int.compare_eq_lt.2 h]; simp [h]
  · rw [Int.compare_eq_eq.2 h]; simp [h]
  · rw [Int.compare_eq_gt.2 h]; simp; omega
theorem tst_gt (a b : Int) (ha : Word a) (hb : Word b) (na : cls a ≠ 4) (nb : cls b ≠ 4) : tst 2 a b = decide (rk b < rk a) := by
  rw [tst_2, fo_num a b ha hb na nb]
  rcases Int.lt_trichotomy (rk a) (rk b) with h | h | h
  · rw [Int.compare_eq_lt.2 h]; simp; omega
  · rw [Int.compare_eq_eq.2 h]; simp [h]
  · rw [Int.compare_eq_gt.2 h]; simp; omega
theorem tst_eq (a b : Int) (ha : Word a) (hb : Word b) (na : cls a ≠ 4) (nb : cls b ≠ 4) : tst 3 a b = decide (rk a = rk b) := by
  rw [tst_3, fo_num a b ha hb na nb]
  rcases Int.lt_trichotomy (rk a) (rk b) with h | h | h
  · rw [Int.compare_eq_lt.2 h]; simp; omega
  · rw [Int.compare_eq_eq.2 h]; simp [h]
  · rw [Int.compare_eq_gt.2 h]; simp; omega
theorem tst_nan (a b : Int) (ha : Word a) (hb : Word b) (h : cls a = 4 ∨ cls b = 4) : tst 1 a b = false ∧ tst 2 a b = false ∧ tst 3 a b = false :=
  ⟨by rw [tst_1]; exact fo_nan a b ha hb h _, by rw [tst_2]; exact fo_nan a b ha hb h _, by rw [tst_3]; exact fo_nan a b ha hb h _⟩
theorem tst_swap (a b : Int) (ha : Word a) (hb : Word b) : tst 2 b a = tst 1 a b := by
  by_cases h : cls a = 4 ∨ cls b = 4
  · rw [(tst_nan a b ha hb h).1, (tst_nan b a hb ha h.symm).2.1]
  · rw [tst_lt a b ha hb (fun e => h (.inl e)) (fun e => h (.inr e)), tst_gt b a hb ha (fun e => h (.inr e)) (fun e => h (.inl e))]
theorem kc_cases (a b : Int) : (kc a b = -1 ∧ key a < key b) ∨ (kc a b = 0 ∧ key a = key b) ∨ (kc a b = 1 ∧ key b < key a) := by
  unfold kc cm; (repeat' split) <;> omega
theorem key_inj (a b : Int) (ha : Word a) (hb : Word b) : key a = key b ↔ a = b := by
  obtain ⟨_, _⟩ := ha; obtain ⟨_, _⟩ := hb
  unfold key; split <;> split <;> omega
theorem key_rk (a b : Int) (ha : Word a) (hb : Word b) (h : rk a < rk b) : key a < key b := by
  obtain ⟨_, _⟩ := ha; obtain ⟨_, _⟩ := hb
  unfold key rk at *; split <;> split <;> (repeat' split at h) <;> omega
def cnt (x y z : Bool) : Int := x.toInt + y.toInt + z.toInt
theorem one_num (a b : Int) (ha : Word a) (hb : Word b) (na : cls a ≠ 4) (nb : cls b ≠ 4) : cnt (tst 1 a b) (tst 2 a b) (tst 3 a b) = 1 := by
  rw [tst_lt a b ha hb na nb, tst_gt a b ha hb na nb, tst_eq a b ha hb na nb]
  rcases Int.lt_trichotomy (rk a) (rk b) with h | h | h
  · rw [decide_eq_true h, decide_eq_false (by omega), decide_eq_false (by omega)]; rfl
  · rw [decide_eq_false (by omega), decide_eq_false (by omega), decide_eq_true h]; rfl
  · rw [decide_eq_false (by omega), decide_eq_true h, decide_eq_false (by omega)]; rfl
theorem one_nan (a b : Int) (ha : Word a) (hb : Word b) (h : cls a = 4 ∨ cls b = 4) : cnt (tst 1 a b) (tst 2 a b) (tst 3 a b) = 0 := by
  obtain ⟨h1, h2, h3⟩ := tst_nan a b ha hb h
  rw [h1, h2, h3]; rfl
theorem kc_not_gt (a b : Int) (ha : Word a) (hb : Word b) (h : key a < key b) : tst 2 a b = false := by
  by_cases hn : cls a = 4 ∨ cls b = 4
  · exact (tst_nan a b ha hb hn).2.1
  · rw [tst_gt a b ha hb (fun e => hn (.inl e)) (fun e => hn (.inr e)), decide_eq_false_iff_not]
    intro h2
    have := key_rk b a hb ha h2
    omega
theorem kc_not_lt (a b : Int) (ha : Word a) (hb : Word b) (h : key b ≤ key a) : tst 1 a b = false := by
  by_cases hn : cls a = 4 ∨ cls b = 4
  · exact (tst_nan a b ha hb hn).1
  · rw [tst_lt a b ha hb (fun e => hn (.inl e)) (fun e => hn (.inr e)), decide_eq_false_iff_not]
    intro h2
    have := key_rk a b ha hb h2
    omega
end Go.Proofs.Ytkhkjenmajenjaa
