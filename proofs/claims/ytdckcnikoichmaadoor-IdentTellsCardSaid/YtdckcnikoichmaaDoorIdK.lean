/- What is proved: the walk of the law IdentTakes. -/
import Derived.Test.YtdckcnikoichmaaDoorIdJ
namespace Go.Proofs.YtdckcnikoichmaaDoor
open Go.RowKit
set_option linter.unusedVariables false
set_option linter.unusedSimpArgs false
theorem kALL : kd 9223372036854775808 = 4 := by decide +kernel
theorem hALL : hi 9223372036854775808 = 0 ∧ lo 9223372036854775808 = 0 := by decide +kernel
theorem takes_all (a : Int) : takes 9223372036854775808 a = (kd a == 3) := by
  unfold takes
  rw [if_pos kALL, hALL.1, hALL.2]
  simp
theorem takes_self (a : Int) (h : kd a ≠ 4) : takes a a = (kd a != 0) := by
  unfold takes
  rw [if_neg h]
  simp
theorem takes_no (p a : Int) (h : kd a ≠ 3) : takes p a = false ∨ (takes p a = true ∧ (kd p == 4) = false) := by
  unfold takes
  by_cases hp : kd p = 4
  · rw [if_pos hp]
    left
    have : (kd a == 3) = false := by simpa using h
    rw [this]; rfl
  · rw [if_neg hp]
    have : (kd p == 4) = false := by simpa using hp
    rw [this]
    cases (p == a && kd a != 0)
    · left; rfl
    · right; exact ⟨rfl, rfl⟩
theorem pai_lo (x : Int) (h0 : 0 ≤ x) (h1 : x ≤ 1048578) : paiV x 0 = 9223372036854775808 + x * 4294967296 ∧ paiE x 0 = 0 := by
  unfold paiV paiE
  rw [if_pos (by omega), if_pos (by omega)]
  omega
theorem pai_hi (x : Int) (h0 : 0 ≤ x) (h1 : x ≤ 1048578) : paiV 0 x = 9223372036854775808 + x ∧ paiE 0 x = 0 := by
  unfold paiV paiE
  rw [if_pos (by omega), if_pos (by omega)]
  omega
theorem kd3 (a : Int) (h : kd a = 3) : (1 ≤ hi a ∧ hi a ≤ 1048578) ∧ (1 ≤ lo a ∧ lo a ≤ 1048578) ∧ pa a = hi a ∧ pb a = lo a ∧ a = 9223372036854775808 + hi a * 4294967296 + lo a := by
  have e1 : pa a = hi a := by unfold pa; rw [h]; simp
  have e2 : pb a = lo a := by unfold pb; rw [h]; simp
  refine ⟨?_, ?_, e1, e2, ?_⟩ <;> (
    unfold kd at h
    split at h
    · simp at h
    · split at h
      · simp at h
      · split at h
        · rename_i h3
          rw [show tk a 3 = ((a == 9223372036854775808 + hi a * 4294967296 + lo a) && inn 1 1048578 [hi a, lo a]) from rfl, inn2] at h3
          simp only [Bool.and_eq_true, decide_eq_true_iff, beq_iff_eq] at h3
          omega
        · split at h <;> simp at h)
theorem takes_lo (a : Int) (h : kd a = 3) : takes (9223372036854775808 + hi a * 4294967296) a = true := by
  obtain ⟨h1, h2, -, -, h3⟩ := kd3 a h
  have e1 : hi (9223372036854775808 + hi a * 4294967296) = hi a := by show (9223372036854775808 + hi a * 4294967296) / 4294967296 % 1073741824 = hi a; omega
  have e2 : lo (9223372036854775808 + hi a * 4294967296) = 0 := by show (9223372036854775808 + hi a * 4294967296) % 1073741824 = 0; omega
  have e3 : kd (9223372036854775808 + hi a * 4294967296) = 4 := by
    unfold kd
    rw [show tk (9223372036854775808 + hi a * 4294967296) 1 = false by rw [tk1, e1, e2, inn1]; simp]
    rw [show tk (9223372036854775808 + hi a * 4294967296) 2 = false by rw [tk2, e2, inn1]; simp]
    rw [show tk (9223372036854775808 + hi a * 4294967296) 3 = false by rw [show tk (9223372036854775808 + hi a * 4294967296) 3 = (((9223372036854775808 + hi a * 4294967296) == 9223372036854775808 + hi (9223372036854775808 + hi a * 4294967296) * 4294967296 + lo (9223372036854775808 + hi a * 4294967296)) && inn 1 1048578 [hi (9223372036854775808 + hi a * 4294967296), lo (9223372036854775808 + hi a * 4294967296)]) from rfl, e1, e2, inn2]; simp]
    rw [show tk (9223372036854775808 + hi a * 4294967296) 4 = true by rw [show tk (9223372036854775808 + hi a * 4294967296) 4 = (((9223372036854775808 + hi a * 4294967296) == 9223372036854775808 + hi (9223372036854775808 + hi a * 4294967296) * 4294967296 + lo (9223372036854775808 + hi a * 4294967296)) && inn 0 1048578 [hi (9223372036854775808 + hi a * 4294967296), lo (9223372036854775808 + hi a * 4294967296)]) from rfl, e1, e2, inn2]; simp; omega]
    rfl
  unfold takes
  rw [if_pos e3, e1, e2, h]
  simp
theorem takes_hi (a : Int) (h : kd a = 3) : takes (9223372036854775808 + lo a) a = true := by
  obtain ⟨h1, h2, -, -, h3⟩ := kd3 a h
  have e1 : hi (9223372036854775808 + lo a) = 0 := by show (9223372036854775808 + lo a) / 4294967296 % 1073741824 = 0; omega
  have e2 : lo (9223372036854775808 + lo a) = lo a := by show (9223372036854775808 + lo a) % 1073741824 = lo a; omega
  have e3 : kd (9223372036854775808 + lo a) = 4 := by
    unfold kd
    rw [show tk (9223372036854775808 + lo a) 1 = false by rw [tk1, e1, e2, inn1]; simp; omega]
    rw [show tk (9223372036854775808 + lo a) 2 = false by rw [tk2, e2, inn1]; simp]
    rw [show tk (9223372036854775808 + lo a) 3 = false by rw [show tk (9223372036854775808 + lo a) 3 = (((9223372036854775808 + lo a) == 9223372036854775808 + hi (9223372036854775808 + lo a) * 4294967296 + lo (9223372036854775808 + lo a)) && inn 1 1048578 [hi (9223372036854775808 + lo a), lo (9223372036854775808 + lo a)]) from rfl, e1, e2, inn2]; simp]
    rw [show tk (9223372036854775808 + lo a) 4 = true by rw [show tk (9223372036854775808 + lo a) 4 = (((9223372036854775808 + lo a) == 9223372036854775808 + hi (9223372036854775808 + lo a) * 4294967296 + lo (9223372036854775808 + lo a)) && inn 0 1048578 [hi (9223372036854775808 + lo a), lo (9223372036854775808 + lo a)]) from rfl, e1, e2, inn2]; simp; omega]
    rfl
  unfold takes
  rw [if_pos e3, e1, e2, h]
  simp
theorem pALL : paiV 0 0 = 9223372036854775808 ∧ paiE 0 0 = 0 := by decide +kernel
set_option maxRecDepth 100000 in
set_option maxHeartbeats 600000 in
theorem identTakes_walk (p a : Int) (hp : Word p) (ha : Word a) (w : World) (hE : Env w) :
    Calls Tryd.prog 6 #[.int .u64 p, .int .u64 a] w fun e w' => e = .returned (.bool true) ∧ Below w.heap.size w w' := by
  have hbe := Below.refl w.heap.size w
  have cK := fun w => kind_any a ha w
  have cP := fun w => kind_any p hp w
  have cT := fun w => takes_any p a hp ha w
  have cS := fun w => takes_any a a ha ha w
  have cA := fun w => takes_any 9223372036854775808 a ⟨by decide, by decide⟩ ha w
  have c2 := pair_any 0 0
  rw [pALL.1, pALL.2] at c2
  rw [takes_all] at cA
  have hd := kd_bd a
  by_cases k3 : kd a = 3
  · rw [k3] at cK cA
    rw [takes_self a (by omega), k3] at cS
    obtain ⟨b1, b2, e1, e2, -⟩ := kd3 a k3
    have cR := fun w => parts_any a ha w
    rw [e1, e2] at cR
    have c3 := fun w => pair_any (hi a) 0 w
    rw [(pai_lo (hi a) (by omega) b1.2).1, (pai_lo (hi a) (by omega) b1.2).2] at c3
    have c4 := fun w => pair_any 0 (lo a) w
    rw [(pai_hi (lo a) (by omega) b2.2).1, (pai_hi (lo a) (by omega) b2.2).2] at c4
    have c5 := fun w => takes_any (9223372036854775808 + hi a * 4294967296) a ⟨by omega, by omega⟩ ha w
    rw [takes_lo a k3] at c5
    have c6 := fun w => takes_any (9223372036854775808 + lo a) a ⟨by omega, by omega⟩ ha w
    rw [takes_hi a k3] at c6
    clear k3 hd b1 b2 e1 e2 hp ha
    generalize 9223372036854775808 + hi a * 4294967296 = v1 at c3 c5
    generalize 9223372036854775808 + lo a = v2 at c4 c6
    generalize (9223372036854775808 : Int) = v0 at c2 cA
    generalize hi a = x1 at c3 cR
    generalize lo a = x2 at c4 cR
    generalize hkp : (kd p == 4) = bp
    generalize kd p = kp at cP hkp
    generalize takes p a = bt at cT
    cases bt <;> cases bp
    all_goals
      go_enter Tryd.func6, Tryd.ntmps6
      go_wp2_with (first
        | (go_at_call 8; refine (wakes_any _ (hE.below hbe)).mono ?_; rintro e w' ⟨rfl, hb1⟩; have hbe := hbe_tr hbe hb1)
        | (go_at_call 18; with_reducible refine (cK _).mono ?_; rintro e w' ⟨rfl, hb1⟩; have hbe := hbe_tr hbe hb1)
        | (go_at_call 18; with_reducible refine (cP _).mono ?_; rintro e w' ⟨rfl, hb1⟩; have hbe := hbe_tr hbe hb1)
        | (go_at_call 11; with_reducible refine (c2 _).mono ?_; rintro e w' ⟨rfl, hb1⟩; have hbe := hbe_tr hbe hb1)
        | (go_at_call 11; with_reducible refine (c3 _).mono ?_; rintro e w' ⟨rfl, hb1⟩; have hbe := hbe_tr hbe hb1)
        | (go_at_call 11; with_reducible refine (c4 _).mono ?_; rintro e w' ⟨rfl, hb1⟩; have hbe := hbe_tr hbe hb1)
        | (go_at_call 14; with_reducible refine (cR _).mono ?_; rintro e w' ⟨rfl, hb1⟩; have hbe := hbe_tr hbe hb1)
        | (go_at_call 20; with_reducible refine (cA _).mono ?_; rintro e w' ⟨rfl, hb1⟩; have hbe := hbe_tr hbe hb1)
        | (go_at_call 20; with_reducible refine (cS _).mono ?_; rintro e w' ⟨rfl, hb1⟩; have hbe := hbe_tr hbe hb1)
        | (go_at_call 20; with_reducible refine (cT _).mono ?_; rintro e w' ⟨rfl, hb1⟩; have hbe := hbe_tr hbe hb1)
        | (go_at_call 20; with_reducible refine (c5 _).mono ?_; rintro e w' ⟨rfl, hb1⟩; have hbe := hbe_tr hbe hb1)
        | (go_at_call 20; with_reducible refine (c6 _).mono ?_; rintro e w' ⟨rfl, hb1⟩; have hbe := hbe_tr hbe hb1)
        | fail)
      go_ret
      exact ⟨rfl, hbe⟩
  · have kf : (kd a == 3) = false := by simpa using k3
    rw [kf] at cA
    have hS := takes_self a
    rcases takes_no p a k3 with e | ⟨e, hkp⟩
    all_goals
      rw [e] at cT
      rcases (show kd a = 0 ∨ kd a = 1 ∨ kd a = 2 ∨ kd a = 4 from by omega) with k | k | k | k
      all_goals
        rw [k] at cK
        rw [k] at hS
        try rw [hS (by omega)] at cS
        clear k3 hd k kf e hp ha hS
        generalize (9223372036854775808 : Int) = v0 at c2 cA
        go_enter Tryd.func6, Tryd.ntmps6
        go_wp2_with (first
          | (go_at_call 8; refine (wakes_any _ (hE.below hbe)).mono ?_; rintro e w' ⟨rfl, hb1⟩; have hbe := hbe_tr hbe hb1)
          | (go_at_call 18; with_reducible refine (cK _).mono ?_; rintro e w' ⟨rfl, hb1⟩; have hbe := hbe_tr hbe hb1)
          | (go_at_call 18; with_reducible refine (cP _).mono ?_; rintro e w' ⟨rfl, hb1⟩; have hbe := hbe_tr hbe hb1)
          | (go_at_call 11; with_reducible refine (c2 _).mono ?_; rintro e w' ⟨rfl, hb1⟩; have hbe := hbe_tr hbe hb1)
          | (go_at_call 20; with_reducible refine (cA _).mono ?_; rintro e w' ⟨rfl, hb1⟩; have hbe := hbe_tr hbe hb1)
          | (go_at_call 20; with_reducible refine (cS _).mono ?_; rintro e w' ⟨rfl, hb1⟩; have hbe := hbe_tr hbe hb1)
          | (go_at_call 20; with_reducible refine (cT _).mono ?_; rintro e w' ⟨rfl, hb1⟩; have hbe := hbe_tr hbe hb1)
          | fail)
        go_ret
        exact ⟨rfl, hbe⟩
theorem word_wf {a : Int} (h : (Lit.int .u64 a).wf = true) : Word a := by
  have hmin : IntKind.u64.min = 0 := rfl
  have hmax : IntKind.u64.max = 18446744073709551615 := rfl
  simp only [Lit.wf, Bool.and_eq_true, decide_eq_true_eq] at h
  rw [hmin, hmax] at h
  exact h
theorem identTakes_rw (p : Int) (hp : (Lit.int .u64 p).wf = true) (a : Int) (ha : (Lit.int .u64 a).wf = true) (w : World) (hE : Env w) :
    Calls Tryd.prog 6 #[.int .u64 p, .int .u64 a] w fun e w' => e = .returned (.bool true) ∧ Below w.heap.size w w' :=
  identTakes_walk p a (word_wf hp) (word_wf ha) w hE
end Go.Proofs.YtdckcnikoichmaaDoor
