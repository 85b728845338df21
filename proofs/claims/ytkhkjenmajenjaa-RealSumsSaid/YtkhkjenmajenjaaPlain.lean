/- What is proved: how the model's float64 order compares two words, as a comparison of whole numbers. -/
import Derived.Laws.Cover2
namespace Go.Proofs.Ytkhkjenmajenjaa

/-- a magnitude's value in units of the least place -/
def mval (r : Nat) : Nat := if r < 4503599627370496 then r else (4503599627370496 + r % 4503599627370496) * 2 ^ (r / 4503599627370496 - 1)

theorem mval_succ (r : Nat) : mval r < mval (r + 1) := by
  unfold mval
  by_cases h1 : r + 1 < 4503599627370496
  · rw [if_pos (by omega), if_pos h1]; omega
  · rw [if_neg h1]
    by_cases h2 : r < 4503599627370496
    · rw [if_pos h2]
      have e : r + 1 = 4503599627370496 := by omega
      rw [e]; simp; omega
    · rw [if_neg h2]
      by_cases h3 : (r + 1) % 4503599627370496 = 0
      · have e1 : (r + 1) / 4503599627370496 = r / 4503599627370496 + 1 := by omega
        have e2 : r % 4503599627370496 = 4503599627370495 := by omega
        have e3 : r / 4503599627370496 + 1 - 1 = (r / 4503599627370496 - 1) + 1 := by omega
        have hp := Nat.two_pow_pos (r / 4503599627370496 - 1)
        rw [e1, e2, h3, e3, Nat.pow_succ]
        generalize 2 ^ (r / 4503599627370496 - 1) = p at *
        omega
      · have e1 : (r + 1) / 4503599627370496 = r / 4503599627370496 := by omega
        have e2 : (r + 1) % 4503599627370496 = r % 4503599627370496 + 1 := by omega
        rw [e1, e2]
        exact Nat.mul_lt_mul_of_pos_right (by omega) (Nat.two_pow_pos _)

theorem mval_mono {a b : Nat} (h : a < b) : mval a < mval b := by
  induction b with
  | zero => omega
  | succ b ih =>
    rcases Nat.lt_or_ge a b with h1 | h1
    · exact Nat.lt_trans (ih h1) (mval_succ b)
    · have : a = b := by omega
      subst this; exact mval_succ a

theorem mval_lt_iff (a b : Nat) : mval a < mval b ↔ a < b := by
  constructor
  · intro h
    rcases Nat.lt_trichotomy a b with h1 | h1 | h1
    · exact h1
    · subst h1; omega
    · have := mval_mono h1; omega
  · exact mval_mono

/-- the datum that a word reads as -/
def mg (r : Nat) : Nat := if r < 4503599627370496 then r else 4503599627370496 + r % 4503599627370496
def up (r : Nat) : Nat := if r < 4503599627370496 then 0 else r / 4503599627370496 - 1
theorem mval_eq (r : Nat) : mval r = mg r <<< up r := by
  unfold mval mg up
  rw [Nat.shiftLeft_eq]
  split
  · simp
  · rfl

theorem read_fin (w : Nat) (h : w % 9223372036854775808 < 9218868437227405312) :
    FloatKind.f64.format.read w = .number (w / 9223372036854775808 % 2 == 1) (mg (w % 9223372036854775808)) (-1074 + (up (w % 9223372036854775808) : Nat)) := by
  show Ieee.double.read w = _
  unfold Ieee.Format.read
  have e1 : Ieee.double.signWeight = 9223372036854775808 := by decide
  have e2 : Ieee.double.binade = 4503599627370496 := by decide
  have e3 : Ieee.double.infRung = 9218868437227405312 := by decide
  have e4 : Ieee.double.leastPlace = -1074 := by decide
  simp only [e1, e2, e3, e4]
  unfold mg up
  split
  · simp
  · rfl

theorem read_inf (w : Nat) (h : w % 9223372036854775808 = 9218868437227405312) :
    FloatKind.f64.format.read w = .infinity (w / 9223372036854775808 % 2 == 1) := by
  show Ieee.double.read w = _
  unfold Ieee.Format.read
  have e1 : Ieee.double.signWeight = 9223372036854775808 := by decide
  have e2 : Ieee.double.binade = 4503599627370496 := by decide
  have e3 : Ieee.double.infRung = 9218868437227405312 := by decide
  simp only [e1, e2, e3]
  rw [if_neg (by omega), if_neg (by omega), if_pos h]

theorem read_nan (w : Nat) (h : 9218868437227405312 < w % 9223372036854775808) :
    ∃ f, FloatKind.f64.format.read w = .nan (w / 9223372036854775808 % 2 == 1) f := by
  refine ⟨w % 9223372036854775808 - 9218868437227405312, ?_⟩
  show Ieee.double.read w = _
  unfold Ieee.Format.read
  have e1 : Ieee.double.signWeight = 9223372036854775808 := by decide
  have e2 : Ieee.double.binade = 4503599627370496 := by decide
  have e3 : Ieee.double.infRung = 9218868437227405312 := by decide
  simp only [e1, e2, e3]
  rw [if_neg (by omega), if_neg (by omega), if_neg (by omega)]

theorem compare_scale (x y : Int) (p : Nat) (hp : 0 < p) : compare (x * p) (y * p) = compare x y := by
  have hp' : (0 : Int) < p := by omega
  rcases Int.lt_trichotomy x y with h | h | h
  · rw [Int.compare_eq_lt.2 h, Int.compare_eq_lt.2 (Int.mul_lt_mul_of_pos_right h hp')]
  · subst h; simp
  · rw [Int.compare_eq_gt.2 h, Int.compare_eq_gt.2 (Int.mul_lt_mul_of_pos_right h hp')]

theorem signed_scale (s : Bool) (m k j : Nat) : Ieee.signed s m (k + j) = Ieee.signed s m k * (2 ^ j : Nat) := by
  unfold Ieee.signed
  rw [Nat.shiftLeft_eq, Nat.shiftLeft_eq, Nat.pow_add, ← Nat.mul_assoc]
  split
  · rw [Int.neg_mul, Int.natCast_mul]
  · rw [Int.natCast_mul]

/-- a finite word's number in units of the least place -/
def sval (w : Nat) : Int := if w / 9223372036854775808 % 2 == 1 then -(mval (w % 9223372036854775808) : Int) else mval (w % 9223372036854775808)

theorem signed_up (s : Bool) (r : Nat) : Ieee.signed s (mg r) (up r) = if s then -(mval r : Int) else mval r := by
  unfold Ieee.signed
  rw [mval_eq]

theorem order_fin (a b : Nat) (ha : a % 9223372036854775808 < 9218868437227405312) (hb : b % 9223372036854775808 < 9218868437227405312) :
    FloatKind.f64.format.order a b = some (compare (sval a) (sval b)) := by
  unfold Ieee.Format.order
  rw [read_fin a ha, read_fin b hb]
  unfold Ieee.Datum.order
  simp only
  congr 1
  generalize hx : (a / 9223372036854775808 % 2 == 1) = s
  generalize hy : (b / 9223372036854775808 % 2 == 1) = t
  unfold sval
  rw [hx, hy, ← signed_up, ← signed_up]
  generalize hi : up (a % 9223372036854775808) = i
  generalize hj : up (b % 9223372036854775808) = j
  generalize mg (a % 9223372036854775808) = m
  generalize mg (b % 9223372036854775808) = n
  have e1 : ((-1074 + (i : Int)) - min (-1074 + (i : Int)) (-1074 + (j : Int))).toNat = i - min i j := by omega
  have e2 : ((-1074 + (j : Int)) - min (-1074 + (i : Int)) (-1074 + (j : Int))).toNat = j - min i j := by omega
  rw [e1, e2]
  have e3 : i = (i - min i j) + min i j := by omega
  have e4 : j = (j - min i j) + min i j := by omega
  have f1 : Ieee.signed s m i = Ieee.signed s m (i - min i j) * (2 ^ (min i j) : Nat) := by
    rw [← signed_scale, ← e3]
  have f2 : Ieee.signed t n j = Ieee.signed t n (j - min i j) * (2 ^ (min i j) : Nat) := by
    rw [← signed_scale, ← e4]
  rw [f1, f2, compare_scale _ _ _ (Nat.two_pow_pos _)]

/-- where a word's number stands: a whole number that rises with it -/
def rank (w : Nat) : Int := if w / 9223372036854775808 % 2 == 1 then -((w % 9223372036854775808 : Nat) : Int) else (w % 9223372036854775808 : Nat)

theorem mval_zero : mval 0 = 0 := by unfold mval; simp

theorem compare_congr {x y x' y' : Int} (h1 : x < y ↔ x' < y') (h2 : y < x ↔ y' < x') : compare x y = compare x' y' := by
  rcases Int.lt_trichotomy x y with h | h | h
  · rw [Int.compare_eq_lt.2 h, Int.compare_eq_lt.2 (h1.1 h)]
  · have : x' = y' := by omega
    subst h this; simp
  · rw [Int.compare_eq_gt.2 h, Int.compare_eq_gt.2 (h2.1 h)]

theorem sval_lt (a b : Nat) : sval a < sval b ↔ rank a < rank b := by
  unfold sval rank
  have h1 := mval_lt_iff (a % 9223372036854775808) (b % 9223372036854775808)
  have h2 := mval_lt_iff (b % 9223372036854775808) (a % 9223372036854775808)
  have h3 := mval_lt_iff 0 (a % 9223372036854775808)
  have h4 := mval_lt_iff 0 (b % 9223372036854775808)
  rw [mval_zero] at h3 h4
  split <;> split <;> omega

theorem order_nan_left (a b : Nat) (ha : 9218868437227405312 < a % 9223372036854775808) : FloatKind.f64.format.order a b = none := by
  unfold Ieee.Format.order
  obtain ⟨f, hf⟩ := read_nan a ha
  rw [hf]; rfl
theorem order_nan_right (a b : Nat) (hb : 9218868437227405312 < b % 9223372036854775808) : FloatKind.f64.format.order a b = none := by
  unfold Ieee.Format.order
  obtain ⟨f, hf⟩ := read_nan b hb
  rw [hf]
  unfold Ieee.Datum.order
  split <;> first | rfl | simp_all

/-- the order of two words that are no NaN -/
theorem order_num (a b : Nat) (ha : a % 9223372036854775808 ≤ 9218868437227405312) (hb : b % 9223372036854775808 ≤ 9218868437227405312) :
    FloatKind.f64.format.order a b = some (compare (rank a) (rank b)) := by
  rcases Nat.lt_or_ge (a % 9223372036854775808) 9218868437227405312 with h1 | h1
  · rcases Nat.lt_or_ge (b % 9223372036854775808) 9218868437227405312 with h2 | h2
    · rw [order_fin a b h1 h2]
      congr 1
      exact compare_congr (sval_lt a b) (sval_lt b a)
    · have h2' : b % 9223372036854775808 = 9218868437227405312 := by omega
      unfold Ieee.Format.order
      rw [read_fin a h1, read_inf b h2']
      unfold Ieee.Datum.order rank
      simp only
      congr 1
      by_cases ht : (b / 9223372036854775808 % 2 == 1) = true
      · rw [if_pos ht, if_pos ht]
        exact (Int.compare_eq_gt.2 (by split <;> omega)).symm
      · rw [if_neg ht, if_neg ht]
        exact (Int.compare_eq_lt.2 (by split <;> omega)).symm
  · have h1' : a % 9223372036854775808 = 9218868437227405312 := by omega
    rcases Nat.lt_or_ge (b % 9223372036854775808) 9218868437227405312 with h2 | h2
    · unfold Ieee.Format.order
      rw [read_inf a h1', read_fin b h2]
      unfold Ieee.Datum.order rank
      simp only
      congr 1
      by_cases ht : (a / 9223372036854775808 % 2 == 1) = true
      · rw [if_pos ht, if_pos ht]
        exact (Int.compare_eq_lt.2 (by split <;> omega)).symm
      · rw [if_neg ht, if_neg ht]
        exact (Int.compare_eq_gt.2 (by split <;> omega)).symm
    · have h2' : b % 9223372036854775808 = 9218868437227405312 := by omega
      unfold Ieee.Format.order
      rw [read_inf a h1', read_inf b h2']
      unfold Ieee.Datum.order rank
      simp only
      congr 1
      rw [h1', h2']
      generalize (a / 9223372036854775808 % 2 == 1) = s
      generalize (b / 9223372036854775808 % 2 == 1) = t
      cases s <;> cases t <;> decide
end Go.Proofs.Ytkhkjenmajenjaa
