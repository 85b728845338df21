/- What is proved: contracts of the scalar functions of package real: parts, classes, order keys, tests, the next word. -/
import Derived.Test.YtkhkjenmajenjaaProg
import Derived.Test.YtkhkjenmajenjaaPlain
import Derived.WalkKit
import Derived.WalkLawsBesides
import Derived.WalkSpells
import Derived.Laws.EntriesVeiled
namespace Go.Proofs.Ytkhkjenmajenjaa
open Go.RowKit
set_option linter.unusedVariables false
theorem run_store_float (P : Program) (w : World) (a : Addr) (m : Mode) (k : FloatKind) (b : Nat) : (store a (.float k b) m).run P w = stored P w a (.float k b) m := run_store P w a _ m rfl
attribute [local go_sem] run_store_float
theorem frombits (a : Int) (w : World) : (callFunc 23 #[.int .u64 a]).run Try.prog w = .ok (.value (.float .f64 a.toNat)) w := by
  rw [run_callFunc_extern (e := Extern.MathFloatBits.float64frombits) Try.func23 (by kernel_rfl) (by kernel_rfl) (by kernel_rfl) (by kernel_rfl)]
  rfl
theorem tobits (b : Nat) (w : World) : (callFunc 26 #[.float .f64 b]).run Try.prog w = .ok (.value (.int .u64 b)) w := by
  rw [run_callFunc_extern (e := Extern.MathFloatBits.float64bits) Try.func26 (by kernel_rfl) (by kernel_rfl) (by kernel_rfl) (by kernel_rfl)]
  rfl
theorem ret_int {k : IntKind} {a b : Int} (h : a = b) : Ending.returned (.int k a) = .returned (.int k b) := by rw [h]
theorem ret_bool {a b : Bool} (h : a = b) : Ending.returned (.bool a) = .returned (.bool b) := by rw [h]

def sg (a : Int) : Bool := decide (9223372036854775808 ≤ a)
def ex (a : Int) : Int := a / 4503599627370496 % 2048
def mt (a : Int) : Int := a % 4503599627370496
def cls (a : Int) : Int := if ex a = 2047 ∧ 0 < mt a then 4 else if ex a = 2047 then 3 else if 0 < ex a then 2 else if 0 < mt a then 1 else 0
def key (a : Int) : Int := if 9223372036854775808 ≤ a then 18446744073709551615 - a else a + 9223372036854775808
def cm (a b : Int) : Int := if a < b then -1 else if b < a then 1 else 0
def kc (a b : Int) : Int := cm (key a) (key b)
def fo (a b : Int) (o : Ordering) : Bool := FloatKind.f64.format.order a.toNat b.toNat == some o
def tst (k a b : Int) : Bool := if k = 1 then fo a b .lt else if k = 2 then fo a b .gt else if k = 3 then fo a b .eq else false
def Word (a : Int) : Prop := 0 ≤ a ∧ a ≤ 18446744073709551615
theorem ex_bd (a : Int) : 0 ≤ ex a ∧ ex a ≤ 2047 := by unfold ex; omega
theorem mt_bd (a : Int) : 0 ≤ mt a ∧ mt a ≤ 4503599627370495 := by unfold mt; omega
theorem sign_eq (a : Int) (h : Word a) : (a / 9223372036854775808 == 1) = decide (9223372036854775808 ≤ a) := by
  obtain ⟨h0, h1⟩ := h
  rw [Bool.eq_iff_iff]; simp; omega
theorem and_mask (a b : Int) (n : Nat) (h : 0 ≤ a) (h1 : a < 18446744073709551616) (hb : b = 2 ^ n - 1) (hn : n ≤ 63) : bits .and .u64 a b = a % 2 ^ n := by
  have hp : (0 : Nat) < 2 ^ n := Nat.two_pow_pos n
  have hp2 : (2 : Nat) ^ n ≤ 2 ^ 63 := Nat.pow_le_pow_right (by omega) hn
  have e : (2 : Int) ^ n = ((2 ^ n : Nat) : Int) := by simp
  rw [hb, e, u64_and _ _ h h1 (by omega) (by omega)]
  have e2 : (((2 ^ n : Nat) : Int) - 1).toNat = 2 ^ n - 1 := by omega
  rw [e2, Nat.and_two_pow_sub_one_eq_mod, Int.natCast_emod, Int.toNat_of_nonneg h]
theorem not_eq (a : Int) (h : Word a) : bits .xor .u64 IntKind.u64.max a = 18446744073709551615 - a := by
  obtain ⟨h0, h1⟩ := h
  obtain ⟨n, rfl⟩ := Int.eq_ofNat_of_zero_le h0
  have hm : IntKind.u64.max = ((18446744073709551615 : Nat) : Int) := by decide
  rw [hm, u64_xor_nat _ _ (by omega) (by omega)]
  have h2 : (18446744073709551615 : Nat) ^^^ n = 18446744073709551615 - n := by
    have := @BitVec.toNat_not 64 (BitVec.ofNat 64 n)
    rw [← BitVec.allOnes_xor, BitVec.toNat_xor] at this
    simp only [BitVec.toNat_allOnes, BitVec.toNat_ofNat] at this
    rw [Nat.mod_eq_of_lt (by omega)] at this
    simpa using this
  rw [h2]; omega
theorem or_sign (a : Int) (h0 : 0 ≤ a) (h1 : a < 9223372036854775808) : bits .or .u64 a 9223372036854775808 = a + 9223372036854775808 := by
  obtain ⟨n, rfl⟩ := Int.eq_ofNat_of_zero_le h0
  have := u64_or_nat n 9223372036854775808 (by omega) (by omega)
  rw [show ((9223372036854775808 : Nat) : Int) = 9223372036854775808 from rfl] at this
  rw [this, Nat.or_comm, nat_join 63 _ _ (by decide) (by omega)]
  omega
theorem parts_any (a : Int) (h : Word a) (w : World) :
    Calls Try.prog 18 #[.int .u64 a] w fun e w' => e = .returned (.tuple #[.bool (sg a), .int .i64 (ex a), .int .u64 (mt a)]) ∧ w = w' := by
  have hs := sign_eq a h
  obtain ⟨h0, h1⟩ := h
  have e1 : bits BinOp.and IntKind.u64 (a / 4503599627370496) 2047 = a / 4503599627370496 % 2048 := and_mask _ _ 11 (by omega) (by omega) (by decide) (by decide)
  have e2 : bits BinOp.and IntKind.u64 a 4503599627370495 = a % 4503599627370496 := and_mask _ _ 52 (by omega) (by omega) (by decide) (by decide)
  go_enter Try.func18, Try.ntmps18
  go_wp2
  go_ret3
  exact ⟨rfl, rfl⟩
theorem rparts_any (a : Int) (h : Word a) (w : World) :
    Calls Try.prog 19 #[.int .u64 a] w fun e w' => e = .returned (.tuple #[.bool (sg a), .int .i64 (ex a), .int .u64 (mt a)]) ∧ w = w' := by
  obtain ⟨h0, h1⟩ := h
  go_enter Try.func19, Try.ntmps19
  go_wp2
  go_ret3
  exact ⟨rfl, rfl⟩
theorem class_any (a : Int) (h : Word a) (w : World) :
    Calls Try.prog 10 #[.int .u64 a] w fun e w' => e = .returned (.int .i64 (cls a)) ∧ w = w' := by
  obtain ⟨e0, e1⟩ := ex_bd a
  obtain ⟨m0, m1⟩ := mt_bd a
  go_enter Try.func10, Try.ntmps10
  go_wp2_with (go_at_call 18; refine (parts_any _ h _).mono ?_; rintro e w' ⟨rfl, rfl⟩)
  all_goals (go_ret; exact ⟨ret_int (by unfold cls; (repeat' split) <;> omega), rfl⟩)
theorem rclass_any (a : Int) (h : Word a) (w : World) :
    Calls Try.prog 22 #[.int .u64 a] w fun e w' => e = .returned (.int .i64 (cls a)) ∧ w = w' := by
  obtain ⟨e0, e1⟩ := ex_bd a
  obtain ⟨m0, m1⟩ := mt_bd a
  go_enter Try.func22, Try.ntmps22
  go_wp2_with (go_at_call 19; refine (rparts_any _ h _).mono ?_; rintro e w' ⟨rfl, rfl⟩)
  all_goals (go_ret; exact ⟨ret_int (by unfold cls; (repeat' split) <;> omega), rfl⟩)
theorem key_any (a : Int) (h : Word a) (w : World) :
    Calls Try.prog 36 #[.int .u64 a] w fun e w' => e = .returned (.int .u64 (key a)) ∧ w = w' := by
  have hs := sign_eq a h
  have hn := not_eq a h
  obtain ⟨h0, h1⟩ := h
  rcases Int.lt_or_le a 9223372036854775808 with hc | hc
  · have ho := or_sign a h0 hc
    go_enter Try.func36, Try.ntmps36
    go_wp2
    go_ret
    exact ⟨ret_int (by unfold key; rw [if_neg (by omega)]), rfl⟩
  · go_enter Try.func36, Try.ntmps36
    go_wp2
    go_ret
    exact ⟨ret_int (by unfold key; rw [if_pos hc]), rfl⟩
theorem isnan_any (a : Int) (w : World) :
    Calls Try.prog 44 #[.int .u64 a] w fun e w' => e = .returned (.bool false) ∧ w = w' := by
  go_enter Try.func44, Try.ntmps44
  go_wp2
  go_ret
  exact ⟨rfl, rfl⟩
theorem key_bd (a : Int) (h : Word a) : 0 ≤ key a ∧ key a ≤ 18446744073709551615 := by
  obtain ⟨h0, h1⟩ := h; unfold key; split <;> omega
theorem cmp_any (a b : Int) (w : World) :
    Calls Try.prog 35 #[.int .u64 a, .int .u64 b] w fun e w' => e = .returned (.int .i64 (cm a b)) ∧ w = w' := by
  go_enter Try.func35, Try.ntmps35
  go_wp2_with (first | (go_at_call 44; refine (isnan_any _ _).mono ?_; rintro e w' ⟨rfl, rfl⟩))
  all_goals (go_ret; exact ⟨ret_int (by unfold cm; (repeat' split) <;> omega), rfl⟩)
theorem compare_any (a b : Int) (ha : Word a) (hb : Word b) (w : World) :
    Calls Try.prog 11 #[.int .u64 a, .int .u64 b] w fun e w' => e = .returned (.int .i64 (kc a b)) ∧ w = w' := by
  go_enter Try.func11, Try.ntmps11
  go_wp2_with fail
  refine (key_any _ ha _).mono ?_; rintro e w' ⟨rfl, rfl⟩
  go_wp2_with fail
  refine (key_any _ hb _).mono ?_; rintro e w' ⟨rfl, rfl⟩
  go_wp2_with fail
  refine (cmp_any _ _ _).mono ?_; rintro e w' ⟨rfl, rfl⟩
  go_wp2_with fail
  go_ret
  exact ⟨rfl, rfl⟩
theorem number_any (a : Int) (w : World) : Calls Try.prog 30 #[.int .u64 a] w fun e w' => e = .returned (.float .f64 a.toNat) ∧ w = w' := by
  have hf := frombits
  go_enter Try.func30, Try.ntmps30
  go_wp2
  go_ret
  exact ⟨rfl, rfl⟩
set_option maxHeartbeats 1000000 in
theorem test_any (k a b : Int) (hk0 : -9223372036854775808 ≤ k) (hk1 : k ≤ 9223372036854775807) (w : World) :
    Calls Try.prog 9 #[.int .i64 k, .int .u64 a, .int .u64 b] w fun e w' => e = .returned (.bool (tst k a b)) ∧ Below w.heap.size w w' := by
  have hmf : ∀ (fn : Fn) (first cap : Array Value) (w : World), (Instr.makeFunc fn first cap).run Try.prog w = .ok (.func fn first cap) w := fun _ _ _ _ => rfl
  rcases (show k < 0 ∨ k = 0 ∨ k = 1 ∨ k = 2 ∨ k = 3 ∨ 4 ≤ k from by omega) with hk | rfl | rfl | rfl | rfl | hk
  all_goals
    go_enter Try.func9, Try.ntmps9
    go_wp2_with (first | (go_at_call 30; refine (number_any _ _).mono ?_; rintro e w' ⟨rfl, rfl⟩) | go_in)
    go_ret
    exact ⟨ret_bool (by unfold tst; first | rfl | (rw [if_neg (by omega), if_neg (by omega), if_neg (by omega)])), (((Below.refl _ _).alloc (by simp) _).alloc (by simp) _).alloc (by simp; omega) _⟩
def nxt (a : Int) : Int := if cls a = 4 ∨ (cls a = 3 ∧ a < 9223372036854775808) then 0 else if cls a = 0 then 1 else if a < 9223372036854775808 then a + 1 else if a = 9223372036854775809 then 0 else a - 1
def nxe (a : Int) : Int := if cls a = 4 then 2 else if cls a = 3 ∧ a < 9223372036854775808 then 4 else 0
theorem cls_bd (a : Int) : 0 ≤ cls a ∧ cls a ≤ 4 := by unfold cls; (repeat' split) <;> omega
theorem next_any (a : Int) (h : Word a) (w : World) :
    Calls Try.prog 12 #[.int .u64 a] w fun e w' => e = .returned (.tuple #[.int .u64 (nxt a), .int .i64 (nxe a)]) ∧ w = w' := by
  obtain ⟨h0, h1⟩ := id h
  have hc : a < 9223372036854775808 → cls a ≠ 3 → cls a ≠ 4 → a < 9223372036854775807 := by
    unfold cls ex mt; intro _; (repeat' split) <;> omega
  have hz : a = 9223372036854775808 → cls a = 0 := by
    rintro rfl; decide
  have hd := cls_bd a
  rcases (show cls a = 4 ∨ (cls a = 3 ∧ a < 9223372036854775808) ∨ cls a = 0 ∨ (¬ cls a = 4 ∧ ¬ cls a = 3 ∧ ¬ cls a = 0 ∧ a < 9223372036854775808) ∨ (¬ cls a = 4 ∧ ¬ cls a = 0 ∧ 9223372036854775808 < a ∧ a = 9223372036854775809) ∨ (¬ cls a = 4 ∧ ¬ cls a = 0 ∧ 9223372036854775809 < a) from by omega) with k | ⟨k, l⟩ | k | ⟨k, l, m, n⟩ | ⟨k, l, m, n⟩ | ⟨k, l, m⟩
  · have e1 : nxt a = 0 := by unfold nxt; rw [if_pos (.inl k)]
    have e2 : nxe a = 2 := by unfold nxe; rw [if_pos k]
    rw [e1, e2]; clear e1 e2 hc hz hd
    go_enter Try.func12, Try.ntmps12
    go_wp2_with (first | (go_at_call 18; refine (parts_any _ h _).mono ?_; rintro e w' ⟨rfl, rfl⟩) | (go_at_call 10; refine (class_any _ h _).mono ?_; rintro e w' ⟨rfl, rfl⟩))
    go_ret2
    exact ⟨rfl, rfl⟩
  · have e1 : nxt a = 0 := by unfold nxt; rw [if_pos (.inr ⟨k, l⟩)]
    have e2 : nxe a = 4 := by unfold nxe; rw [if_neg (by omega), if_pos ⟨k, l⟩]
    have e3 : sg a = false := by unfold sg; rw [decide_eq_false_iff_not]; omega
    rw [e1, e2]; clear e1 e2 hc hz hd
    go_enter Try.func12, Try.ntmps12
    go_wp2_with (first | (go_at_call 18; refine (parts_any _ h _).mono ?_; rintro e w' ⟨rfl, rfl⟩) | (go_at_call 10; refine (class_any _ h _).mono ?_; rintro e w' ⟨rfl, rfl⟩))
    go_ret2
    exact ⟨rfl, rfl⟩
  · have e1 : nxt a = 1 := by unfold nxt; rw [if_neg (by omega), if_pos k]
    have e2 : nxe a = 0 := by unfold nxe; rw [if_neg (by omega), if_neg (by omega)]
    rw [e1, e2]; clear e1 e2 hc hz hd
    go_enter Try.func12, Try.ntmps12
    go_wp2_with (first | (go_at_call 18; refine (parts_any _ h _).mono ?_; rintro e w' ⟨rfl, rfl⟩) | (go_at_call 10; refine (class_any _ h _).mono ?_; rintro e w' ⟨rfl, rfl⟩))
    go_ret2
    exact ⟨rfl, rfl⟩
  · have e1 : nxt a = a + 1 := by unfold nxt; rw [if_neg (by omega), if_neg m, if_pos n]
    have e2 : nxe a = 0 := by unfold nxe; rw [if_neg (by omega), if_neg (by omega)]
    have e3 : sg a = false := by unfold sg; rw [decide_eq_false_iff_not]; omega
    rw [e1, e2]; clear e1 e2 hc hz
    go_enter Try.func12, Try.ntmps12
    go_wp2_with (first | (go_at_call 18; refine (parts_any _ h _).mono ?_; rintro e w' ⟨rfl, rfl⟩) | (go_at_call 10; refine (class_any _ h _).mono ?_; rintro e w' ⟨rfl, rfl⟩))
    go_ret2
    exact ⟨rfl, rfl⟩
  · have e1 : nxt a = 0 := by unfold nxt; rw [if_neg (by omega), if_neg l, if_neg (by omega), if_pos n]
    have e2 : nxe a = 0 := by unfold nxe; rw [if_neg (by omega), if_neg (by omega)]
    have e3 : sg a = true := by unfold sg; rw [decide_eq_true_iff]; omega
    rw [e1, e2]; clear e1 e2 hc hz
    have n' : (a == 9223372036854775809) = true := by rw [n]; rfl
    clear n
    go_enter Try.func12, Try.ntmps12
    go_wp2_with (first | (go_at_call 18; refine (parts_any _ h _).mono ?_; rintro e w' ⟨rfl, rfl⟩) | (go_at_call 10; refine (class_any _ h _).mono ?_; rintro e w' ⟨rfl, rfl⟩))
    all_goals
      go_ret2
      exact ⟨rfl, rfl⟩
  · have e1 : nxt a = a - 1 := by unfold nxt; rw [if_neg (by omega), if_neg l, if_neg (by omega), if_neg (by omega)]
    have e2 : nxe a = 0 := by unfold nxe; rw [if_neg (by omega), if_neg (by omega)]
    have e3 : sg a = true := by unfold sg; rw [decide_eq_true_iff]; omega
    rw [e1, e2]; clear e1 e2 hc hz
    go_enter Try.func12, Try.ntmps12
    go_wp2_with (first | (go_at_call 18; refine (parts_any _ h _).mono ?_; rintro e w' ⟨rfl, rfl⟩) | (go_at_call 10; refine (class_any _ h _).mono ?_; rintro e w' ⟨rfl, rfl⟩))
    all_goals
      go_ret2
      exact ⟨rfl, rfl⟩
end Go.Proofs.Ytkhkjenmajenjaa
