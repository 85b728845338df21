/- What is proved: contracts of the reference's functions over words: they answer as the program's. -/
import Derived.Test.YtkhkjenmajenjaaNextW
namespace Go.Proofs.Ytkhkjenmajenjaa
open Go.RowKit
set_option linter.unusedVariables false
theorem far_any (a : Int) (h : Word a) (w : World) :
    Calls Try.prog 38 #[.int .u64 a] w fun e w' => e = .returned (.int .u64 (a % 9223372036854775808)) ∧ w = w' := by
  obtain ⟨h0, h1⟩ := h
  go_enter Try.func38, Try.ntmps38
  go_wp2
  go_ret
  exact ⟨rfl, rfl⟩
theorem kc_self (a : Int) : kc a a = 0 := by unfold kc cm; (repeat' split) <;> omega
theorem kc_lt (a b : Int) (h : key a < key b) : kc a b = -1 := by unfold kc cm; rw [if_pos h]
theorem kc_gt (a b : Int) (h : key b < key a) : kc a b = 1 := by unfold kc cm; rw [if_neg (by omega), if_pos h]
set_option maxHeartbeats 2000000 in
theorem rcompare_any (a b : Int) (ha : Word a) (hb : Word b) (w : World) :
    Calls Try.prog 14 #[.int .u64 a, .int .u64 b] w fun e w' => e = .returned (.int .i64 (kc a b)) ∧ w = w' := by
  obtain ⟨a0, a1⟩ := id ha
  obtain ⟨b0, b1⟩ := id hb
  have sa : sg a = decide (9223372036854775808 ≤ a) := rfl
  have sb : sg b = decide (9223372036854775808 ≤ b) := rfl
  rcases (show a = b ∨ (9223372036854775808 ≤ a ∧ b < 9223372036854775808) ∨ (a < 9223372036854775808 ∧ 9223372036854775808 ≤ b) ∨ (9223372036854775808 ≤ a ∧ 9223372036854775808 ≤ b ∧ b < a) ∨ (9223372036854775808 ≤ a ∧ 9223372036854775808 ≤ b ∧ a < b) ∨ (a < 9223372036854775808 ∧ b < 9223372036854775808 ∧ a < b) ∨ (a < 9223372036854775808 ∧ b < 9223372036854775808 ∧ b < a) from by omega) with rfl | ⟨c1, c2⟩ | ⟨c1, c2⟩ | ⟨c1, c2, c3⟩ | ⟨c1, c2, c3⟩ | ⟨c1, c2, c3⟩ | ⟨c1, c2, c3⟩
  · rw [kc_self]
    clear sa sb
    go_enter Try.func14, Try.ntmps14
    go_wp2_with (first | (go_at_call 19; refine (rparts_any _ (by assumption) _).mono ?_; rintro e w' ⟨rfl, rfl⟩))
    go_ret
    exact ⟨rfl, rfl⟩
  · rw [kc_lt a b (by unfold key; rw [if_pos c1, if_neg (by omega)]; omega)]
    rw [decide_eq_true c1] at sa; rw [decide_eq_false (by omega)] at sb
    go_enter Try.func14, Try.ntmps14
    go_wp2_with (first | (go_at_call 19; refine (rparts_any _ (by assumption) _).mono ?_; rintro e w' ⟨rfl, rfl⟩))
    go_ret
    exact ⟨rfl, rfl⟩
  · rw [kc_gt a b (by unfold key; rw [if_pos c2, if_neg (by omega)]; omega)]
    rw [decide_eq_false (by omega)] at sa; rw [decide_eq_true c2] at sb
    go_enter Try.func14, Try.ntmps14
    go_wp2_with (first | (go_at_call 19; refine (rparts_any _ (by assumption) _).mono ?_; rintro e w' ⟨rfl, rfl⟩))
    go_ret
    exact ⟨rfl, rfl⟩
  · rw [kc_lt a b (by unfold key; rw [if_pos c1, if_pos c2]; omega)]
    rw [decide_eq_true c1] at sa; rw [decide_eq_true c2] at sb
    go_enter Try.func14, Try.ntmps14
    go_wp2_with (first | (go_at_call 19; refine (rparts_any _ (by assumption) _).mono ?_; rintro e w' ⟨rfl, rfl⟩) | (go_at_call 38; refine (far_any _ (by assumption) _).mono ?_; rintro e w' ⟨rfl, rfl⟩))
    go_ret
    exact ⟨rfl, rfl⟩
  · rw [kc_gt a b (by unfold key; rw [if_pos c1, if_pos c2]; omega)]
    rw [decide_eq_true c1] at sa; rw [decide_eq_true c2] at sb
    go_enter Try.func14, Try.ntmps14
    go_wp2_with (first | (go_at_call 19; refine (rparts_any _ (by assumption) _).mono ?_; rintro e w' ⟨rfl, rfl⟩) | (go_at_call 38; refine (far_any _ (by assumption) _).mono ?_; rintro e w' ⟨rfl, rfl⟩))
    go_ret
    exact ⟨rfl, rfl⟩
  · rw [kc_lt a b (by unfold key; rw [if_neg (by omega), if_neg (by omega)]; omega)]
    rw [decide_eq_false (by omega)] at sa; rw [decide_eq_false (by omega)] at sb
    go_enter Try.func14, Try.ntmps14
    go_wp2_with (first | (go_at_call 19; refine (rparts_any _ (by assumption) _).mono ?_; rintro e w' ⟨rfl, rfl⟩) | (go_at_call 38; refine (far_any _ (by assumption) _).mono ?_; rintro e w' ⟨rfl, rfl⟩))
    go_ret
    exact ⟨rfl, rfl⟩
  · rw [kc_gt a b (by unfold key; rw [if_neg (by omega), if_neg (by omega)]; omega)]
    rw [decide_eq_false (by omega)] at sa; rw [decide_eq_false (by omega)] at sb
    go_enter Try.func14, Try.ntmps14
    go_wp2_with (first | (go_at_call 19; refine (rparts_any _ (by assumption) _).mono ?_; rintro e w' ⟨rfl, rfl⟩) | (go_at_call 38; refine (far_any _ (by assumption) _).mono ?_; rintro e w' ⟨rfl, rfl⟩))
    go_ret
    exact ⟨rfl, rfl⟩
theorem less_cases (a b : Int) (ha : Word a) (hb : Word b) :
    (cls a = 4 ∧ tst 1 a b = false) ∨ ((cls a == 4) = false ∧ cls b = 4 ∧ tst 1 a b = false) ∨
    ((cls a == 4) = false ∧ (cls b == 4) = false ∧ a % 9223372036854775808 = 0 ∧ b % 9223372036854775808 = 0 ∧ tst 1 a b = false) ∨
    ((cls a == 4) = false ∧ (cls b == 4) = false ∧ (a % 9223372036854775808 == 0) = true ∧ (b % 9223372036854775808 == 0) = false ∧ tst 1 a b = decide (kc a b < 0)) ∨
    ((cls a == 4) = false ∧ (cls b == 4) = false ∧ (a % 9223372036854775808 == 0) = false ∧ tst 1 a b = decide (kc a b < 0)) := by
  obtain ⟨a0, a1⟩ := id ha
  obtain ⟨b0, b1⟩ := id hb
  by_cases na : cls a = 4
  · exact .inl ⟨na, (tst_nan a b ha hb (.inl na)).1⟩
  have na' : (cls a == 4) = false := beq_eq_false_iff_ne.2 na
  by_cases nb : cls b = 4
  · exact .inr (.inl ⟨na', nb, (tst_nan a b ha hb (.inr nb)).1⟩)
  have nb' : (cls b == 4) = false := beq_eq_false_iff_ne.2 nb
  have hk : ¬ (a % 9223372036854775808 = 0 ∧ b % 9223372036854775808 = 0) → tst 1 a b = decide (kc a b < 0) := by
    intro hz
    rw [tst_lt a b ha hb na nb]
    congr 1
    have hkey : rk a < rk b ↔ key a < key b := by
      unfold rk key; split <;> split <;> omega
    rcases kc_cases a b with ⟨p, q⟩ | ⟨p, q⟩ | ⟨p, q⟩ <;> rw [p] <;> simp <;> omega
  by_cases za : a % 9223372036854775808 = 0
  · by_cases zb : b % 9223372036854775808 = 0
    · refine .inr (.inr (.inl ⟨na', nb', za, zb, ?_⟩))
      rw [tst_lt a b ha hb na nb, decide_eq_false_iff_not]
      unfold rk; split <;> split <;> omega
    · exact .inr (.inr (.inr (.inl ⟨na', nb', by rw [za]; rfl, beq_eq_false_iff_ne.2 zb, hk (by omega)⟩)))
  · exact .inr (.inr (.inr (.inr ⟨na', nb', beq_eq_false_iff_ne.2 za, hk (by omega)⟩)))
set_option maxHeartbeats 2000000 in
theorem less_any (a b : Int) (ha : Word a) (hb : Word b) (w : World) :
    Calls Try.prog 39 #[.int .u64 a, .int .u64 b] w fun e w' => e = .returned (.bool (tst 1 a b)) ∧ w = w' := by
  rcases less_cases a b ha hb with ⟨p, q⟩ | ⟨p, p2, q⟩ | ⟨p, p2, p3, p4, q⟩ | ⟨p, p2, p3, p4, q⟩ | ⟨p, p2, p3, q⟩ <;> rw [q] <;> clear q
  all_goals
    go_enter Try.func39, Try.ntmps39
    go_wp2_with (first | (go_at_call 22; refine (rclass_any _ (by assumption) _).mono ?_; rintro e w' ⟨rfl, rfl⟩) | (go_at_call 38; refine (far_any _ (by assumption) _).mono ?_; rintro e w' ⟨rfl, rfl⟩) | (go_at_call 14; refine (rcompare_any _ _ (by assumption) (by assumption) _).mono ?_; rintro e w' ⟨rfl, rfl⟩))
    go_ret
    exact ⟨rfl, rfl⟩
theorem equal_cases (a b : Int) (ha : Word a) (hb : Word b) :
    ((cls a < 4) = False ∧ tst 3 a b = false) ∨ (cls a < 4 ∧ (cls b < 4) = False ∧ tst 3 a b = false) ∨
    (cls a < 4 ∧ cls b < 4 ∧ tst 3 a b = (!tst 1 a b && !tst 1 b a)) := by
  have h1 := cls_bd a
  have h2 := cls_bd b
  by_cases na : cls a = 4
  · exact .inl ⟨by simp [na], (tst_nan a b ha hb (.inl na)).2.2⟩
  by_cases nb : cls b = 4
  · exact .inr (.inl ⟨by omega, by simp [nb], (tst_nan a b ha hb (.inr nb)).2.2⟩)
  refine .inr (.inr ⟨by omega, by omega, ?_⟩)
  rw [tst_eq a b ha hb na nb, tst_lt a b ha hb na nb, tst_lt b a hb ha nb na]
  rcases Int.lt_trichotomy (rk a) (rk b) with h | h | h
  · rw [decide_eq_false (by omega), decide_eq_true h]; rfl
  · rw [decide_eq_true h, decide_eq_false (by omega), decide_eq_false (by omega)]; rfl
  · rw [decide_eq_false (by omega), decide_eq_true (p := rk b < rk a) h]; simp
set_option maxHeartbeats 2000000 in
theorem equal_any (a b : Int) (ha : Word a) (hb : Word b) (w : World) :
    Calls Try.prog 40 #[.int .u64 a, .int .u64 b] w fun e w' => e = .returned (.bool (tst 3 a b)) ∧ w = w' := by
  have h1 := cls_bd a
  have h2 := cls_bd b
  rcases equal_cases a b ha hb with ⟨p, q⟩ | ⟨p, p2, q⟩ | ⟨p, p2, q⟩ <;> rw [q] <;> clear q
  · have p' : 4 ≤ cls a := by have : ¬ cls a < 4 := by rw [p]; exact id
                              omega
    clear p
    go_enter Try.func40, Try.ntmps40
    go_wp2_with (first | (go_at_call 22; refine (rclass_any _ (by assumption) _).mono ?_; rintro e w' ⟨rfl, rfl⟩) | (go_at_call 39; refine (less_any _ _ (by assumption) (by assumption) _).mono ?_; rintro e w' ⟨rfl, rfl⟩))
    go_ret
    exact ⟨rfl, rfl⟩
  · have p' : 4 ≤ cls b := by have : ¬ cls b < 4 := by rw [p2]; exact id
                              omega
    clear p2
    go_enter Try.func40, Try.ntmps40
    go_wp2_with (first | (go_at_call 22; refine (rclass_any _ (by assumption) _).mono ?_; rintro e w' ⟨rfl, rfl⟩) | (go_at_call 39; refine (less_any _ _ (by assumption) (by assumption) _).mono ?_; rintro e w' ⟨rfl, rfl⟩))
    go_ret
    exact ⟨rfl, rfl⟩
  · go_enter Try.func40, Try.ntmps40
    go_wp2_with (first | (go_at_call 22; refine (rclass_any _ (by assumption) _).mono ?_; rintro e w' ⟨rfl, rfl⟩) | (go_at_call 39; refine (less_any _ _ (by assumption) (by assumption) _).mono ?_; rintro e w' ⟨rfl, rfl⟩))
    all_goals
      go_ret
      exact ⟨ret_bool (by simp [*]), rfl⟩
set_option maxHeartbeats 2000000 in
theorem rtest_any (k a b : Int) (ha : Word a) (hb : Word b) (w : World) :
    Calls Try.prog 15 #[.int .i64 k, .int .u64 a, .int .u64 b] w fun e w' => e = .returned (.bool (tst k a b)) ∧ w = w' := by
  rcases (show k = 1 ∨ k = 2 ∨ k = 3 ∨ (¬ k = 1 ∧ ¬ k = 2 ∧ ¬ k = 3) from by omega) with rfl | rfl | rfl | ⟨k1, k2, k3⟩
  · go_enter Try.func15, Try.ntmps15
    go_wp2_with (first | (go_at_call 39; refine (less_any _ _ (by assumption) (by assumption) _).mono ?_; rintro e w' ⟨rfl, rfl⟩))
    go_ret
    exact ⟨rfl, rfl⟩
  · rw [tst_swap b a hb ha]
    go_enter Try.func15, Try.ntmps15
    go_wp2_with (first | (go_at_call 39; refine (less_any _ _ (by assumption) (by assumption) _).mono ?_; rintro e w' ⟨rfl, rfl⟩))
    go_ret
    exact ⟨rfl, rfl⟩
  · go_enter Try.func15, Try.ntmps15
    go_wp2_with (first | (go_at_call 40; refine (equal_any _ _ (by assumption) (by assumption) _).mono ?_; rintro e w' ⟨rfl, rfl⟩))
    go_ret
    exact ⟨rfl, rfl⟩
  · have e : tst k a b = false := by unfold tst; rw [if_neg k1, if_neg k2, if_neg k3]
    rw [e]; clear e
    go_enter Try.func15, Try.ntmps15
    go_wp2
    go_ret
    exact ⟨rfl, rfl⟩
/-- what the two indexes of the reference's ends say -/
def Ix (l : List Int) (st : Int × Int × Bool) (i j : Int) : Prop :=
  (st.2.2 = false ∧ i = -1 ∧ j = -1) ∨ (st.2.2 = true ∧ ∃ p q : Nat, i = p ∧ j = q ∧ l[p]? = some st.1 ∧ l[q]? = some st.2.1)
theorem ix_bd {l : List Int} {st : Int × Int × Bool} {i j : Int} (h : Ix l st i j) (hl : l.length ≤ 281474976710656) : -1 ≤ i ∧ i ≤ 281474976710656 ∧ -1 ≤ j ∧ j ≤ 281474976710656 := by
  rcases h with ⟨_, rfl, rfl⟩ | ⟨_, p, q, rfl, rfl, h1, h2⟩
  · omega
  · have a1 := (List.getElem?_eq_some_iff.1 h1).1
    have a2 := (List.getElem?_eq_some_iff.1 h2).1
    omega
set_option maxHeartbeats 4000000 in
theorem rends_any (A : Option Addr) (n c : Nat) (l : List Int) (w : World) (hR : Reads w w.heap.size 1 A n (u64s l)) (hn : n ≤ 281474976710656) (hw : Words l) :
    Calls Try.prog 17 #[.slice A n c] w fun e w' => ∃ i j, (e = .returned (.tuple #[.int .i64 i, .int .i64 j]) ∧ Ix l (efold l) i j) ∧ w = w' := by
  have hln : l.length = n := by have := hR.1; rw [length_u64s] at this; omega
  go_enter Try.func17, Try.ntmps17
  go_wp2
  try go_step3
  go_wp2
  go_loop [4, 5, 10] (fun lo hi i => ∃ k : Nat, k ≤ n ∧ i = .int .i64 k ∧ ∃ x y, lo = .int .i64 x ∧ hi = .int .i64 y ∧ Ix l (efold (l.take k)) x y)
    (fun _ _ i => n - (intOf i).toNat)
  case atStart => exact ⟨0, Nat.zero_le _, rfl, -1, -1, rfl, rfl, .inl ⟨rfl, rfl, rfl⟩⟩
  case round =>
    obtain ⟨k, hk, rfl, x, y, rfl, rfl, hix⟩ := hrel
    have hbd := ix_bd hix (by omega)
    by_cases hlt : k < n
    · obtain ⟨ad, u, hA, hbl, hu, hcell⟩ := hR.at_ hlt
      obtain ⟨v, hv, rfl⟩ := u64s_get hu
      have hvw := words_get hw hv
      have HF := efold_take l k v hv
      have HF' := Lib.hid HF
      clear HF hu
      by_cases h4 : cls v = 4
      · have hes : estep (efold (l.take k)) v = efold (l.take k) := by simp [estep, h4]
        have HE := Lib.hid hes
        clear hes
        subst hA
        go_wp2_with (first | (go_at_call 22; refine (rclass_any _ (by assumption) _).mono ?_; rintro e w' ⟨rfl, rfl⟩))
        go_round
        case rel => exact ⟨k + 1, by omega, by go_num, x, y, rfl, rfl, by rw [HF'.out, HE.out]; exact hix⟩
        case measure => simp [intOf]; omega
      · rcases hix with ⟨hs, rfl, rfl⟩ | ⟨hs, p, q, rfl, rfl, hp, hq⟩
        · have hes : estep (efold (l.take k)) v = (v, v, true) := by simp [estep, h4, hs]
          have HE := Lib.hid hes
          have HV := Lib.hid hv
          clear hes hs hv
          subst hA
          go_wp2_with (first | (go_at_call 22; refine (rclass_any _ (by assumption) _).mono ?_; rintro e w' ⟨rfl, rfl⟩))
          go_round
          case rel => exact ⟨k + 1, by omega, by go_num, k, k, rfl, rfl, by rw [HF'.out, HE.out]; exact .inr ⟨rfl, k, k, rfl, rfl, HV.out, HV.out⟩⟩
          case measure => simp [intOf]; omega
        · have hes : estep (efold (l.take k)) v = (if tst 1 v (efold (l.take k)).1 = true then v else (efold (l.take k)).1, if tst 2 v (efold (l.take k)).2.1 = true then v else (efold (l.take k)).2.1, true) := by simp [estep, h4, hs]
          have hpl := (List.getElem?_eq_some_iff.1 hp).1
          have hql := (List.getElem?_eq_some_iff.1 hq).1
          have hpn : p < n := by omega
          have hqn : q < n := by omega
          have hwp := words_get hw hp
          have hwq := words_get hw hq
          obtain ⟨ad2, u2, hA2, _, hu2, hcell2⟩ := hR.at_ hpn
          obtain ⟨ad3, u3, hA3, _, hu3, hcell3⟩ := hR.at_ hqn
          obtain ⟨v2, hv2, rfl⟩ := u64s_get hu2
          obtain ⟨v3, hv3, rfl⟩ := u64s_get hu3
          rw [hp] at hv2; rw [hq] at hv3
          simp only [Option.some.injEq] at hv2 hv3
          generalize (efold (l.take k)).1 = lo at *
          generalize (efold (l.take k)).2.1 = hi at *
          subst hv2 hv3
          rw [hA] at hA2 hA3
          simp only [Option.some.injEq] at hA2 hA3
          subst hA2 hA3 hA
          have HE := Lib.hid hes
          have HV := Lib.hid hv
          have HP := Lib.hid hp
          have HQ := Lib.hid hq
          clear hes hs hv hp hq hu2 hu3
          have hp0 : decide ((p : Int) < 0) = false := decide_eq_false (by omega)
          have hq0 : decide ((q : Int) < 0) = false := decide_eq_false (by omega)
          have HE2 : estep (efold (l.take k)) v = (if tst 1 v lo = true then v else lo, if tst 1 hi v = true then v else hi, true) := by rw [HE.out, tst_swap hi v hwq hvw]
          clear HE
          have HE := Lib.hid HE2
          clear HE2
          cases h1 : tst 1 v lo <;> cases h2 : tst 1 hi v <;> rw [h1, h2] at HE
          all_goals
            go_wp2_with (first | (go_at_call 22; refine (rclass_any _ (by assumption) _).mono ?_; rintro e w' ⟨rfl, rfl⟩) | (go_at_call 39; refine (less_any _ _ (by assumption) (by assumption) _).mono ?_; rintro e w' ⟨rfl, rfl⟩))
            go_round
            case rel => exact ⟨k + 1, by omega, by go_num, _, _, rfl, rfl, by rw [HF'.out, HE.out]; exact .inr ⟨rfl, _, _, rfl, rfl, by first | exact HV.out | exact HP.out, by first | exact HV.out | exact HQ.out⟩⟩
            case measure => simp [intOf]; omega
    · have hkn : k = n := by omega
      have hl' : l.take k = l := List.take_of_length_le (by omega)
      rw [hl'] at hix
      clear hl' hkn hR
      have HI := Lib.hid hix
      clear hix
      go_wp2
      go_ret2
      first | exact ⟨⟨x, y, rfl, HI.out⟩, rfl⟩ | exact ⟨x, y, ⟨rfl, HI.out⟩, rfl⟩
end Go.Proofs.Ytkhkjenmajenjaa
