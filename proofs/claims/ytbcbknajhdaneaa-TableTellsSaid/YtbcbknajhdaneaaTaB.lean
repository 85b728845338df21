/- What is proved: the contracts of Entity, Component, Pair, and of the reference's functions over bits. -/
import Derived.Test.YtbcbknajhdaneaaTaA
namespace Go.Proofs.Ytbcbknajhdaneaa
open Go.RowKit
set_option linter.unusedVariables false
set_option linter.unusedSimpArgs false
theorem inn1 (low most x : Int) : inn low most [x] = decide (low ≤ x ∧ x ≤ most) := by simp [inn]
theorem inn2 (low most x y : Int) : inn low most [x, y] = (decide (low ≤ x ∧ x ≤ most) && decide (low ≤ y ∧ y ≤ most)) := by simp [inn]
def I64 (x : Int) : Prop := -9223372036854775808 ≤ x ∧ x ≤ 9223372036854775807
theorem is_any (n low most : Int) (w : World) :
    Calls Try.prog 116 #[.int .i64 n, .int .i64 low, .int .i64 most] w fun e w' => e = .returned (.bool (inn low most [n])) ∧ w = w' := by
  rw [inn1]
  by_cases h1 : low ≤ n
  · by_cases h2 : n ≤ most
    · go_enter Try.func116, Try.ntmps116
      go_wp2
      go_ret
      exact ⟨ret_bool (by simp [h1, h2]), rfl⟩
    · have hd : decide (n ≤ most) = false := decide_eq_false h2
      go_enter Try.func116, Try.ntmps116
      go_wp2
      go_ret
      exact ⟨ret_bool (by simp [h1, h2]), rfl⟩
  · have hd : decide (low ≤ n) = false := decide_eq_false h1
    go_enter Try.func116, Try.ntmps116
    go_wp2
    go_ret
    exact ⟨ret_bool (by simp [h1]), rfl⟩
theorem made_any (m s f : Int) (hm : Mark m) (hs : Part s) (hf : Part f) (w : World) :
    Calls Try.prog 30 #[.int .u64 m, .int .i64 s, .int .i64 f] w fun e w' => e = .returned (.int .u64 (m + s * 4294967296 + f)) ∧ w = w' := by
  obtain ⟨s0, s1⟩ := hs
  obtain ⟨f0, f1⟩ := hf
  have hmb : 0 ≤ m ∧ m ≤ 9223372036854775808 := by rcases hm with rfl | rfl | rfl <;> omega
  clear hm
  obtain ⟨m0, m1⟩ := hmb
  go_enter Try.func30, Try.ntmps30
  go_wp2
  go_ret
  exact ⟨rfl, rfl⟩
theorem rhalves_any (a : Int) (h : Word a) (w : World) :
    Calls Try.prog 115 #[.int .u64 a] w fun e w' => e = .returned (.tuple #[.int .i64 (hi a), .int .i64 (lo a)]) ∧ w = w' := by
  obtain ⟨h0, h1⟩ := h
  go_enter Try.func115, Try.ntmps115
  go_wp2
  go_ret2
  exact ⟨rfl, rfl⟩
/-- the three equations of an id, and its two parts' bounds, decided -/
theorem kd_ways (a : Int) (h : Word a) :
    (kd a = 1 ∧ (a == hi a * 4294967296 + lo a) = true ∧ inn 1 1048578 [lo a] = true ∧ inn 0 7 [hi a] = true) ∨
    (tk a 1 = false ∧ kd a = 2 ∧ (a == 4611686018427387904 + lo a) = true ∧ inn 1 24 [lo a] = true) ∨
    (tk a 1 = false ∧ tk a 2 = false ∧ kd a = 3 ∧ (a == 9223372036854775808 + hi a * 4294967296 + lo a) = true ∧ inn 1 1048578 [hi a] = true ∧ inn 1 1048578 [lo a] = true) ∨
    (tk a 1 = false ∧ tk a 2 = false ∧ tk a 3 = false ∧ kd a = 4 ∧ (a == 9223372036854775808 + hi a * 4294967296 + lo a) = true ∧ inn 0 1048578 [hi a] = true ∧ inn 0 1048578 [lo a] = true) ∨
    (tk a 1 = false ∧ tk a 2 = false ∧ tk a 3 = false ∧ tk a 4 = false ∧ kd a = 0) := by
  unfold kd
  cases h1 : tk a 1 with
  | true => rw [tk1] at h1; simp only [Bool.and_eq_true] at h1; exact .inl ⟨rfl, h1.1.1, h1.1.2, h1.2⟩
  | false =>
    refine .inr ?_
    cases h2 : tk a 2 with
    | true => rw [tk2] at h2; simp only [Bool.and_eq_true] at h2; exact .inl ⟨rfl, rfl, h2.1, h2.2⟩
    | false =>
      refine .inr ?_
      cases h3 : tk a 3 with
      | true =>
        rw [tk3, inn2] at h3; simp only [Bool.and_eq_true] at h3
        exact .inl ⟨rfl, rfl, rfl, h3.1, by rw [inn1]; exact h3.2.1, by rw [inn1]; exact h3.2.2⟩
      | false =>
        refine .inr ?_
        cases h4 : tk a 4 with
        | true =>
          rw [tk4, inn2] at h4; simp only [Bool.and_eq_true] at h4
          exact .inl ⟨rfl, rfl, rfl, rfl, h4.1, by rw [inn1]; exact h4.2.1, by rw [inn1]; exact h4.2.2⟩
        | false => exact .inr ⟨rfl, rfl, rfl, rfl, rfl⟩
theorem no1 {a : Int} (h : tk a 1 = false) : (a == hi a * 4294967296 + lo a) = false ∨ ((a == hi a * 4294967296 + lo a) = true ∧ inn 1 1048578 [lo a] = false) ∨ ((a == hi a * 4294967296 + lo a) = true ∧ inn 1 1048578 [lo a] = true ∧ inn 0 7 [hi a] = false) := by
  rw [tk1] at h
  cases h1 : (a == hi a * 4294967296 + lo a) with
  | false => exact .inl rfl
  | true =>
    cases h2 : inn 1 1048578 [lo a] with
    | false => exact .inr (.inl ⟨rfl, rfl⟩)
    | true => rw [h1, h2] at h; exact .inr (.inr ⟨rfl, rfl, by simpa using h⟩)
/-- what the three forms say of one another -/
theorem forms (a : Int) (h : Word a) : ((a == hi a * 4294967296 + lo a) = true ∧ (a == 4611686018427387904 + lo a) = false ∧ (a == 9223372036854775808 + hi a * 4294967296 + lo a) = false) ∨
    ((a == hi a * 4294967296 + lo a) = false ∧ (a == 4611686018427387904 + lo a) = true ∧ (a == 9223372036854775808 + hi a * 4294967296 + lo a) = false) ∨
    ((a == hi a * 4294967296 + lo a) = false ∧ (a == 4611686018427387904 + lo a) = false ∧ (a == 9223372036854775808 + hi a * 4294967296 + lo a) = true) ∨
    ((a == hi a * 4294967296 + lo a) = false ∧ (a == 4611686018427387904 + lo a) = false ∧ (a == 9223372036854775808 + hi a * 4294967296 + lo a) = false) := by
  obtain ⟨h0, h1⟩ := h
  simp only [beq_iff_eq, beq_eq_false_iff_ne]
  unfold hi lo
  omega
theorem inn_cases (low most x : Int) : inn low most [x] = true ∨ inn low most [x] = false := by cases inn low most [x] <;> simp
theorem inn12 (low most x y : Int) : inn low most [x, y] = (inn low most [x] && inn low most [y]) := by rw [inn2, inn1, inn1]
set_option maxHeartbeats 8000000 in
theorem rkind_any (a : Int) (h : Word a) (w : World) :
    Calls Try.prog 72 #[.int .u64 a] w fun e w' => e = .returned (.int .i64 (kd a)) ∧ w = w' := by
  have ph := hi_bd a
  have pl := lo_bd a
  rcases forms a h with ⟨f1, f2, f3⟩ | ⟨f1, f2, f3⟩ | ⟨f1, f2, f3⟩ | ⟨f1, f2, f3⟩
  · rcases inn_cases 1 1048578 (lo a) with t1 | t1
    · rcases inn_cases 0 7 (hi a) with t2 | t2
      · have hk : kd a = 1 := by unfold kd; simp [tk1, tk2, tk3, tk4, inn12, *]
        rw [hk]; clear hk
        go_enter Try.func72, Try.ntmps72
        go_wp2_with (first
          | (go_at_call 115; refine (rhalves_any _ h _).mono ?_; rintro e w' ⟨rfl, rfl⟩)
          | (go_at_call 30; refine (made_any _ _ _ (by first | exact .inl rfl | exact .inr (.inl rfl) | exact .inr (.inr rfl)) (by first | exact ph | exact ⟨by omega, by omega⟩) pl _).mono ?_; rintro e w' ⟨rfl, rfl⟩)
          | (go_at_call 116; refine (is_any _ _ _ _).mono ?_; rintro e w' ⟨rfl, rfl⟩))
        go_ret
        exact ⟨rfl, rfl⟩
      · have hk : kd a = 0 := by unfold kd; simp [tk1, tk2, tk3, tk4, inn12, *]
        rw [hk]; clear hk
        go_enter Try.func72, Try.ntmps72
        go_wp2_with (first
          | (go_at_call 115; refine (rhalves_any _ h _).mono ?_; rintro e w' ⟨rfl, rfl⟩)
          | (go_at_call 30; refine (made_any _ _ _ (by first | exact .inl rfl | exact .inr (.inl rfl) | exact .inr (.inr rfl)) (by first | exact ph | exact ⟨by omega, by omega⟩) pl _).mono ?_; rintro e w' ⟨rfl, rfl⟩)
          | (go_at_call 116; refine (is_any _ _ _ _).mono ?_; rintro e w' ⟨rfl, rfl⟩))
        go_ret
        exact ⟨rfl, rfl⟩
    · have hk : kd a = 0 := by unfold kd; simp [tk1, tk2, tk3, tk4, inn12, *]
      rw [hk]; clear hk
      go_enter Try.func72, Try.ntmps72
      go_wp2_with (first
        | (go_at_call 115; refine (rhalves_any _ h _).mono ?_; rintro e w' ⟨rfl, rfl⟩)
        | (go_at_call 30; refine (made_any _ _ _ (by first | exact .inl rfl | exact .inr (.inl rfl) | exact .inr (.inr rfl)) (by first | exact ph | exact ⟨by omega, by omega⟩) pl _).mono ?_; rintro e w' ⟨rfl, rfl⟩)
        | (go_at_call 116; refine (is_any _ _ _ _).mono ?_; rintro e w' ⟨rfl, rfl⟩))
      go_ret
      exact ⟨rfl, rfl⟩
  · rcases inn_cases 1 24 (lo a) with t1 | t1
    · have hk : kd a = 2 := by unfold kd; simp [tk1, tk2, tk3, tk4, inn12, *]
      rw [hk]; clear hk
      go_enter Try.func72, Try.ntmps72
      go_wp2_with (first
        | (go_at_call 115; refine (rhalves_any _ h _).mono ?_; rintro e w' ⟨rfl, rfl⟩)
        | (go_at_call 30; refine (made_any _ _ _ (by first | exact .inl rfl | exact .inr (.inl rfl) | exact .inr (.inr rfl)) (by first | exact ph | exact ⟨by omega, by omega⟩) pl _).mono ?_; rintro e w' ⟨rfl, rfl⟩)
        | (go_at_call 116; refine (is_any _ _ _ _).mono ?_; rintro e w' ⟨rfl, rfl⟩))
      go_ret
      exact ⟨rfl, rfl⟩
    · have hk : kd a = 0 := by unfold kd; simp [tk1, tk2, tk3, tk4, inn12, *]
      rw [hk]; clear hk
      go_enter Try.func72, Try.ntmps72
      go_wp2_with (first
        | (go_at_call 115; refine (rhalves_any _ h _).mono ?_; rintro e w' ⟨rfl, rfl⟩)
        | (go_at_call 30; refine (made_any _ _ _ (by first | exact .inl rfl | exact .inr (.inl rfl) | exact .inr (.inr rfl)) (by first | exact ph | exact ⟨by omega, by omega⟩) pl _).mono ?_; rintro e w' ⟨rfl, rfl⟩)
        | (go_at_call 116; refine (is_any _ _ _ _).mono ?_; rintro e w' ⟨rfl, rfl⟩))
      go_ret
      exact ⟨rfl, rfl⟩
  · rcases inn_cases 1 1048578 (hi a) with t1 | t1
    · rcases inn_cases 1 1048578 (lo a) with t2 | t2
      · have hk : kd a = 3 := by unfold kd; simp [tk1, tk2, tk3, tk4, inn12, *]
        rw [hk]; clear hk
        go_enter Try.func72, Try.ntmps72
        go_wp2_with (first
          | (go_at_call 115; refine (rhalves_any _ h _).mono ?_; rintro e w' ⟨rfl, rfl⟩)
          | (go_at_call 30; refine (made_any _ _ _ (by first | exact .inl rfl | exact .inr (.inl rfl) | exact .inr (.inr rfl)) (by first | exact ph | exact ⟨by omega, by omega⟩) pl _).mono ?_; rintro e w' ⟨rfl, rfl⟩)
          | (go_at_call 116; refine (is_any _ _ _ _).mono ?_; rintro e w' ⟨rfl, rfl⟩))
        go_ret
        exact ⟨rfl, rfl⟩
      · rcases inn_cases 0 1048578 (hi a) with t3 | t3
        · rcases inn_cases 0 1048578 (lo a) with t4 | t4
          · have hk : kd a = 4 := by unfold kd; simp [tk1, tk2, tk3, tk4, inn12, *]
            rw [hk]; clear hk
            go_enter Try.func72, Try.ntmps72
            go_wp2_with (first
              | (go_at_call 115; refine (rhalves_any _ h _).mono ?_; rintro e w' ⟨rfl, rfl⟩)
              | (go_at_call 30; refine (made_any _ _ _ (by first | exact .inl rfl | exact .inr (.inl rfl) | exact .inr (.inr rfl)) (by first | exact ph | exact ⟨by omega, by omega⟩) pl _).mono ?_; rintro e w' ⟨rfl, rfl⟩)
              | (go_at_call 116; refine (is_any _ _ _ _).mono ?_; rintro e w' ⟨rfl, rfl⟩))
            go_ret
            exact ⟨rfl, rfl⟩
          · have hk : kd a = 0 := by unfold kd; simp [tk1, tk2, tk3, tk4, inn12, *]
            rw [hk]; clear hk
            go_enter Try.func72, Try.ntmps72
            go_wp2_with (first
              | (go_at_call 115; refine (rhalves_any _ h _).mono ?_; rintro e w' ⟨rfl, rfl⟩)
              | (go_at_call 30; refine (made_any _ _ _ (by first | exact .inl rfl | exact .inr (.inl rfl) | exact .inr (.inr rfl)) (by first | exact ph | exact ⟨by omega, by omega⟩) pl _).mono ?_; rintro e w' ⟨rfl, rfl⟩)
              | (go_at_call 116; refine (is_any _ _ _ _).mono ?_; rintro e w' ⟨rfl, rfl⟩))
            go_ret
            exact ⟨rfl, rfl⟩
        · have hk : kd a = 0 := by unfold kd; simp [tk1, tk2, tk3, tk4, inn12, *]
          rw [hk]; clear hk
          go_enter Try.func72, Try.ntmps72
          go_wp2_with (first
            | (go_at_call 115; refine (rhalves_any _ h _).mono ?_; rintro e w' ⟨rfl, rfl⟩)
            | (go_at_call 30; refine (made_any _ _ _ (by first | exact .inl rfl | exact .inr (.inl rfl) | exact .inr (.inr rfl)) (by first | exact ph | exact ⟨by omega, by omega⟩) pl _).mono ?_; rintro e w' ⟨rfl, rfl⟩)
            | (go_at_call 116; refine (is_any _ _ _ _).mono ?_; rintro e w' ⟨rfl, rfl⟩))
          go_ret
          exact ⟨rfl, rfl⟩
    · rcases inn_cases 0 1048578 (hi a) with t3 | t3
      · rcases inn_cases 0 1048578 (lo a) with t4 | t4
        · have hk : kd a = 4 := by unfold kd; simp [tk1, tk2, tk3, tk4, inn12, *]
          rw [hk]; clear hk
          go_enter Try.func72, Try.ntmps72
          go_wp2_with (first
            | (go_at_call 115; refine (rhalves_any _ h _).mono ?_; rintro e w' ⟨rfl, rfl⟩)
            | (go_at_call 30; refine (made_any _ _ _ (by first | exact .inl rfl | exact .inr (.inl rfl) | exact .inr (.inr rfl)) (by first | exact ph | exact ⟨by omega, by omega⟩) pl _).mono ?_; rintro e w' ⟨rfl, rfl⟩)
            | (go_at_call 116; refine (is_any _ _ _ _).mono ?_; rintro e w' ⟨rfl, rfl⟩))
          go_ret
          exact ⟨rfl, rfl⟩
        · have hk : kd a = 0 := by unfold kd; simp [tk1, tk2, tk3, tk4, inn12, *]
          rw [hk]; clear hk
          go_enter Try.func72, Try.ntmps72
          go_wp2_with (first
            | (go_at_call 115; refine (rhalves_any _ h _).mono ?_; rintro e w' ⟨rfl, rfl⟩)
            | (go_at_call 30; refine (made_any _ _ _ (by first | exact .inl rfl | exact .inr (.inl rfl) | exact .inr (.inr rfl)) (by first | exact ph | exact ⟨by omega, by omega⟩) pl _).mono ?_; rintro e w' ⟨rfl, rfl⟩)
            | (go_at_call 116; refine (is_any _ _ _ _).mono ?_; rintro e w' ⟨rfl, rfl⟩))
          go_ret
          exact ⟨rfl, rfl⟩
      · have hk : kd a = 0 := by unfold kd; simp [tk1, tk2, tk3, tk4, inn12, *]
        rw [hk]; clear hk
        go_enter Try.func72, Try.ntmps72
        go_wp2_with (first
          | (go_at_call 115; refine (rhalves_any _ h _).mono ?_; rintro e w' ⟨rfl, rfl⟩)
          | (go_at_call 30; refine (made_any _ _ _ (by first | exact .inl rfl | exact .inr (.inl rfl) | exact .inr (.inr rfl)) (by first | exact ph | exact ⟨by omega, by omega⟩) pl _).mono ?_; rintro e w' ⟨rfl, rfl⟩)
          | (go_at_call 116; refine (is_any _ _ _ _).mono ?_; rintro e w' ⟨rfl, rfl⟩))
        go_ret
        exact ⟨rfl, rfl⟩
  · have hk : kd a = 0 := by unfold kd; simp [tk1, tk2, tk3, tk4, inn12, *]
    rw [hk]; clear hk
    go_enter Try.func72, Try.ntmps72
    go_wp2_with (first
      | (go_at_call 115; refine (rhalves_any _ h _).mono ?_; rintro e w' ⟨rfl, rfl⟩)
      | (go_at_call 30; refine (made_any _ _ _ (by first | exact .inl rfl | exact .inr (.inl rfl) | exact .inr (.inr rfl)) (by first | exact ph | exact ⟨by omega, by omega⟩) pl _).mono ?_; rintro e w' ⟨rfl, rfl⟩)
      | (go_at_call 116; refine (is_any _ _ _ _).mono ?_; rintro e w' ⟨rfl, rfl⟩))
    go_ret
    exact ⟨rfl, rfl⟩
theorem rparts_any (a : Int) (h : Word a) (w : World) :
    Calls Try.prog 73 #[.int .u64 a] w fun e w' => e = .returned (.tuple #[.int .i64 (pa a), .int .i64 (pb a)]) ∧ w = w' := by
  have hd := kd_bd a
  rcases (show kd a = 0 ∨ kd a = 1 ∨ kd a = 2 ∨ kd a = 3 ∨ kd a = 4 from by omega) with k | k | k | k | k
  all_goals
    unfold pa pb
    rw [k]
    clear hd
    go_enter Try.func73, Try.ntmps73
    go_wp2_with (first | (go_at_call 115; refine (rhalves_any _ h _).mono ?_; rintro e w' ⟨rfl, rfl⟩) | (go_at_call 72; refine (rkind_any _ h _).mono ?_; rintro e w2 ⟨rfl, rfl⟩))
    go_ret2
    exact ⟨by simp, rfl⟩
def Idx (x : Int) : Prop := 1 ≤ x ∧ x ≤ 1048578
/-- what Entity, Component and Pair give -/
def entV (n g : Int) : Int := if 1 ≤ n ∧ n ≤ 1048578 ∧ 0 ≤ g ∧ g ≤ 7 then g * 4294967296 + n else 0
def entE (n g : Int) : Int := if 1 ≤ n ∧ n ≤ 1048578 ∧ 0 ≤ g ∧ g ≤ 7 then 0 else 2
def comV (n : Int) : Int := if 1 ≤ n ∧ n ≤ 24 then 4611686018427387904 + n else 0
def comE (n : Int) : Int := if 1 ≤ n ∧ n ≤ 24 then 0 else 2
def paiV (r t : Int) : Int := if 0 ≤ r ∧ r ≤ 1048578 ∧ 0 ≤ t ∧ t ≤ 1048578 then 9223372036854775808 + r * 4294967296 + t else 0
def paiE (r t : Int) : Int := if 0 ≤ r ∧ r ≤ 1048578 ∧ 0 ≤ t ∧ t ≤ 1048578 then 0 else 2
theorem inn_cases2 (low most x y : Int) : inn low most [x, y] = true ∨ inn low most [x, y] = false := by cases inn low most [x, y] <;> simp
end Go.Proofs.Ytbcbknajhdaneaa
